/- cow: trees, and how they stand in the heap. -/
import Derived.Test.YtfdbadpiklmbaaaAmNum
import Derived.Test.YtfdbadpiklmbaaaTypes
set_option linter.unusedSimpArgs false
set_option linter.unusedVariables false
set_option linter.unnecessarySimpa false
set_option maxRecDepth 100000
namespace Go.Proofs.Ytfdbadpiklmbaaa
open Go.AM
theorem mixed : Try.prog.follows .mixedOrders = true := by kernel_rfl

/-- A whole number of Go's int. -/
def inI (n : Int) : Prop := -9223372036854775808 ≤ n ∧ n ≤ 9223372036854775807
theorem inI_iff {n : Int} : inI n ↔ (IntKind.i64.min ≤ n ∧ n ≤ IntKind.i64.max) := by rw [i64_min, i64_max]; rfl
/-- What is one's own, and new. -/
def up (Z : Nat → Prop) (h : AHeap) : Nat → Prop := fun j => Z j ∨ h.next ≤ j
theorem up_up {Z : Nat → Prop} {h k : AHeap} (hn : h.next ≤ k.next) : ∀ j, up (up Z h) k j → up Z h j := fun j e => e.elim id fun e => .inr (Nat.le_trans hn e)

/-- An extent. -/
structure Ext where
  off : Int
  len : Int
  phys : Int
  birth : Int
  deriving DecidableEq
def Ext.ag (x : Ext) : Value := .agg #[.int .i64 x.off, .int .i64 x.len, .int .i64 x.phys, .int .i64 x.birth]
def Ext.cs (x : Ext) : List Value := [.int .i64 x.off, .int .i64 x.len, .int .i64 x.phys, .int .i64 x.birth]

/-- A tree. -/
inductive T where
  | nil
  | node (l : T) (x : Ext) (r : T)
def T.depth : T → Nat
  | .nil => 0
  | .node l _ r => 1 + max l.depth r.depth
def T.size : T → Nat
  | .nil => 0
  | .node l _ r => 1 + l.size + r.size
theorem T.depth_le : ∀ t : T, t.depth ≤ t.size
  | .nil => Nat.le_refl _
  | .node l _ r => by have := l.depth_le; have := r.depth_le; simp only [T.depth, T.size]; omega
def T.list : T → List Ext
  | .nil => []
  | .node l x r => l.list ++ x :: r.list
def nodeC (x : Ext) (pl pr : Value) (d s : Nat) : List Value := [.int .i64 x.off, .int .i64 x.len, .int .i64 x.phys, .int .i64 x.birth, pl, pr, .int .i64 d, .int .i64 s]
/-- A tree that stands in objects of S. -/
def TrAt (S : Nat → Prop) (h : AHeap) : T → Value → Prop
  | .nil, v => v = .pointer none
  | .node l x r, v => ∃ id pl pr, v = .pointer (some ⟨id, 0, none⟩) ∧ S id ∧ h.get id = .cells (nodeC x pl pr (T.node l x r).depth (T.node l x r).size) .rw ∧ TrAt S h l pl ∧ TrAt S h r pr

section
variable {h : AHeap} {S S' Z : Nat → Prop}
theorem TrAt.mono {h' : AHeap} (hm : ∀ j, S j → j < h.next → S' j ∧ h'.get j = h.get j) : ∀ {t : T} {v : Value}, TrAt S h t v → TrAt S' h' t v
  | .nil, _, e => e
  | .node l x r, v, ⟨id, pl, pr, e, hs, hg, hl, hr⟩ => by
    have hlt : id < h.next := AHeap.lt_of_alive h (by rw [hg]; simp)
    exact ⟨id, pl, pr, e, (hm id hs hlt).1, by rw [(hm id hs hlt).2]; exact hg, hl.mono hm, hr.mono hm⟩
theorem TrAt.quiet {h' : AHeap} {t : T} {v : Value} (ht : TrAt S h t v) (q : h.quiet h') : TrAt S h' t v := ht.mono fun j hj hl => ⟨hj, q.2 j hl⟩
theorem TrAt.weaken {t : T} {v : Value} (ht : TrAt S h t v) (hm : ∀ j, S j → S' j) : TrAt S' h t v := ht.mono fun j hj _ => ⟨hm j hj, rfl⟩
/-- What is new is S's. -/
def New (S : Nat → Prop) (h : AHeap) : Prop := ∀ j, h.next ≤ j → S j
theorem New.quiet {h' : AHeap} (n : New S h) (q : h.quiet h') : New S h' := fun j hj => n j (Nat.le_trans q.1 hj)
theorem New.up : New (up S h) h := fun _ hj => .inr hj
theorem TrAt.up {t : T} {v : Value} (ht : TrAt S h t v) : TrAt (up S h) h t v := ht.weaken fun _ => .inl
theorem TrAt.ptr {t : T} {v : Value} (ht : TrAt S h t v) : ∃ p, v = .pointer p ∧ (p = none ↔ t = .nil) := by
  cases t with
  | nil => exact ⟨none, ht, by simp⟩
  | node l x r => obtain ⟨id, pl, pr, e, _⟩ := ht; exact ⟨_, e, by simp⟩

theorem depth_ok {t : T} {v : Value} (ht : TrAt S h t v) : Does Try.prog 34 #[v] h (fun u h' => u = .int .i64 t.depth ∧ h' = h) := by
  cases t with
  | nil =>
    obtain rfl : v = _ := ht
    refine spec_go mixed Try.func34 rfl Try.results34 (n := Try.f34.ntmps) (by kernel_rfl) (by simp) ?_
    simp only [go_sem, simprocAttr, T.depth]
  | node l x r =>
    obtain ⟨id, pl, pr, rfl, _, hg, _⟩ := ht
    refine spec_go mixed Try.func34 rfl Try.results34 (n := Try.f34.ntmps) (by kernel_rfl) (by simp) ?_
    simp only [go_sem, simprocAttr, hg, nodeC]
theorem weight_ok {t : T} {v : Value} (ht : TrAt S h t v) : Does Try.prog 38 #[v] h (fun u h' => u = .int .i64 t.size ∧ h' = h) := by
  cases t with
  | nil =>
    obtain rfl : v = _ := ht
    refine spec_go mixed Try.func38 rfl Try.results38 (n := Try.f38.ntmps) (by kernel_rfl) (by simp) ?_
    simp only [go_sem, simprocAttr, T.size]
  | node l x r =>
    obtain ⟨id, pl, pr, rfl, _, hg, _⟩ := ht
    refine spec_go mixed Try.func38 rfl Try.results38 (n := Try.f38.ntmps) (by kernel_rfl) (by simp) ?_
    simp only [go_sem, simprocAttr, hg, nodeC]
theorem make1_ok {l r : T} {vl vr : Value} {x : Ext} (hn : New S h) (hl : TrAt S h l vl) (hr : TrAt S h r vr) (hb : l.size + r.size ≤ 1099511627776) : Does Try.prog 68 #[vl, x.ag, vr] h (fun u h' => TrAt S h' (.node l x r) u ∧ h.quiet h') := by
  have hdl := l.depth_le
  have hdr := r.depth_le
  obtain ⟨pl, rfl, _⟩ := hl.ptr
  obtain ⟨pr, rfl, _⟩ := hr.ptr
  refine spec_go mixed Try.func68 rfl Try.results68 (n := Try.f68.ntmps) (by kernel_rfl) (by simp) ?_
  simp only [go_sem, simprocAttr, Ext.ag]
  refine cl_gen fun h1 e1 => ?_
  have q1 : h.quiet h1 := by rw [e1]; simp only [go_sem, simprocAttr]
  have g1 : h1.get h.next = .cells [.int .i64 x.off, .int .i64 x.len, .int .i64 x.phys, .int .i64 x.birth] .rw := by rw [e1]; simp only [go_sem, simprocAttr]
  clear e1
  refine cl_spec (depth_ok (hl.quiet q1)) (fun u h' hp _ => hp.2 ▸ .refl _) ?_
  rintro u k ⟨rfl, hk⟩
  obtain rfl : h1 = k := hk.symm
  simp only [go_sem, simprocAttr]
  refine cl_spec (depth_ok (hr.quiet q1)) (fun u h' hp _ => hp.2 ▸ .refl _) ?_
  rintro u k ⟨rfl, hk⟩
  obtain rfl : h1 = k := hk.symm
  simp only [go_sem, simprocAttr]
  refine cl_spec (weight_ok (hl.quiet q1)) (fun u h' hp _ => hp.2 ▸ .refl _) ?_
  rintro u k ⟨rfl, hk⟩
  obtain rfl : h1 = k := hk.symm
  simp only [go_sem, simprocAttr]
  refine cl_spec (weight_ok (hr.quiet q1)) (fun u h' hp _ => hp.2 ▸ .refl _) ?_
  rintro u k ⟨rfl, hk⟩
  obtain rfl : h1 = k := hk.symm
  have e1 : IntKind.i64.wrap (1 + max (l.depth : Int) r.depth) = ((1 + max l.depth r.depth : Nat) : Int) := by rw [wi64] <;> omega
  have e2 : IntKind.i64.wrap (1 + (l.size : Int)) = ((1 + l.size : Nat) : Int) := by rw [wi64] <;> omega
  have e3 : IntKind.i64.wrap (((1 + l.size : Nat) : Int) + r.size) = ((1 + l.size + r.size : Nat) : Int) := by rw [wi64] <;> omega
  simp only [go_sem, simprocAttr, e1, e2, e3]
  have q2 := q1.trans (AHeap.quiet.push h1 (.cells (nodeC x (.pointer pl) (.pointer pr) (T.node l x r).depth (T.node l x r).size) .rw))
  exact ⟨⟨h1.next, _, _, rfl, hn _ q1.1, AHeap.get_push_self _ _, hl.quiet q2, hr.quiet q2⟩, q2⟩
end
end Go.Proofs.Ytfdbadpiklmbaaa
