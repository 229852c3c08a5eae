/- volume: trees (the cow seat's texts). -/
import Derived.Test.YtedpfdflolkpeaaGreatDoorAmNum
import Derived.Test.YtedpfdflolkpeaaGreatDoorTypes
set_option linter.unusedSimpArgs false
set_option linter.unusedVariables false
set_option linter.unnecessarySimpa false
set_option maxRecDepth 100000
namespace Go.Proofs.YtedpfdflolkpeaaGreatDoor
open Go.AM
theorem mixedA : Tryz.prog.follows .mixedOrders = true := by kernel_rfl
theorem mixed : Tryz.prog.follows .mixedOrders = true := by kernel_rfl

/-- A whole number of Go's int. -/
def inI (n : Int) : Prop := -9223372036854775808 ≤ n ∧ n ≤ 9223372036854775807
theorem inI_iff {n : Int} : inI n ↔ (IntKind.i64.min ≤ n ∧ n ≤ IntKind.i64.max) := by rw [i64_min, i64_max]; rfl
/-- What is one's own, and new. -/
def up (Z : Nat → Prop) (h : AHeap) : Nat → Prop := fun j => Z j ∨ h.next ≤ j
theorem up_up {Z : Nat → Prop} {h k : AHeap} (hn : h.next ≤ k.next) : ∀ j, up (up Z h) k j → up Z h j := fun j e => e.elim id fun e => .inr (Nat.le_trans hn e)

/-- An extent. -/
structure Ext where
  off : Int
  len : Int
  phys : Int
  birth : Int
  deriving DecidableEq
def Ext.ag (x : Ext) : Value := .agg #[.int .i64 x.off, .int .i64 x.len, .int .i64 x.phys, .int .i64 x.birth]
def Ext.cs (x : Ext) : List Value := [.int .i64 x.off, .int .i64 x.len, .int .i64 x.phys, .int .i64 x.birth]

/-- A tree. -/
inductive T where
  | nil
  | node (l : T) (x : Ext) (r : T)
def T.depth : T → Nat
  | .nil => 0
  | .node l _ r => 1 + max l.depth r.depth
def T.size : T → Nat
  | .nil => 0
  | .node l _ r => 1 + l.size + r.size
theorem T.depth_le : ∀ t : T, t.depth ≤ t.size
  | .nil => Nat.le_refl _
  | .node l _ r => by have := l.depth_le; have := r.depth_le; simp only [T.depth, T.size]; omega
def T.list : T → List Ext
  | .nil => []
  | .node l x r => l.list ++ x :: r.list
def nodeC (x : Ext) (pl pr : Value) (d s : Nat) : List Value := [.int .i64 x.off, .int .i64 x.len, .int .i64 x.phys, .int .i64 x.birth, pl, pr, .int .i64 d, .int .i64 s]
/-- A tree that stands in objects of S. -/
def TrAt (S : Nat → Prop) (h : AHeap) : T → Value → Prop
  | .nil, v => v = .pointer none
  | .node l x r, v => ∃ id pl pr, v = .pointer (some ⟨id, 0, none⟩) ∧ S id ∧ h.get id = .cells (nodeC x pl pr (T.node l x r).depth (T.node l x r).size) .rw ∧ TrAt S h l pl ∧ TrAt S h r pr

section
variable {h : AHeap} {S S' Z : Nat → Prop}
theorem TrAt.mono {h' : AHeap} (hm : ∀ j, S j → j < h.next → S' j ∧ h'.get j = h.get j) : ∀ {t : T} {v : Value}, TrAt S h t v → TrAt S' h' t v
  | .nil, _, e => e
  | .node l x r, v, ⟨id, pl, pr, e, hs, hg, hl, hr⟩ => by
    have hlt : id < h.next := AHeap.lt_of_alive h (by rw [hg]; simp)
    exact ⟨id, pl, pr, e, (hm id hs hlt).1, by rw [(hm id hs hlt).2]; exact hg, hl.mono hm, hr.mono hm⟩
theorem TrAt.quiet {h' : AHeap} {t : T} {v : Value} (ht : TrAt S h t v) (q : h.quiet h') : TrAt S h' t v := ht.mono fun j hj hl => ⟨hj, q.2 j hl⟩
theorem TrAt.weaken {t : T} {v : Value} (ht : TrAt S h t v) (hm : ∀ j, S j → S' j) : TrAt S' h t v := ht.mono fun j hj _ => ⟨hm j hj, rfl⟩
/-- What is new is S's. -/
def New (S : Nat → Prop) (h : AHeap) : Prop := ∀ j, h.next ≤ j → S j
theorem New.quiet {h' : AHeap} (n : New S h) (q : h.quiet h') : New S h' := fun j hj => n j (Nat.le_trans q.1 hj)
theorem New.up : New (up S h) h := fun _ hj => .inr hj
theorem TrAt.up {t : T} {v : Value} (ht : TrAt S h t v) : TrAt (up S h) h t v := ht.weaken fun _ => .inl
theorem TrAt.ptr {t : T} {v : Value} (ht : TrAt S h t v) : ∃ p, v = .pointer p ∧ (p = none ↔ t = .nil) := by
  cases t with
  | nil => exact ⟨none, ht, by simp⟩
  | node l x r => obtain ⟨id, pl, pr, e, _⟩ := ht; exact ⟨_, e, by simp⟩

theorem depth_ok {t : T} {v : Value} (ht : TrAt S h t v) : Does Tryz.prog 175 #[v] h (fun u h' => u = .int .i64 t.depth ∧ h' = h) := by
  cases t with
  | nil =>
    obtain rfl : v = _ := ht
    refine spec_go mixed Tryz.func175 rfl Tryz.results175 (n := Tryz.f175.ntmps) (by kernel_rfl) (by simp) ?_
    simp only [go_sem, simprocAttr, T.depth]
  | node l x r =>
    obtain ⟨id, pl, pr, rfl, _, hg, _⟩ := ht
    refine spec_go mixed Tryz.func175 rfl Tryz.results175 (n := Tryz.f175.ntmps) (by kernel_rfl) (by simp) ?_
    simp only [go_sem, simprocAttr, hg, nodeC]
theorem weight_ok {t : T} {v : Value} (ht : TrAt S h t v) : Does Tryz.prog 178 #[v] h (fun u h' => u = .int .i64 t.size ∧ h' = h) := by
  cases t with
  | nil =>
    obtain rfl : v = _ := ht
    refine spec_go mixed Tryz.func178 rfl Tryz.results178 (n := Tryz.f178.ntmps) (by kernel_rfl) (by simp) ?_
    simp only [go_sem, simprocAttr, T.size]
  | node l x r =>
    obtain ⟨id, pl, pr, rfl, _, hg, _⟩ := ht
    refine spec_go mixed Tryz.func178 rfl Tryz.results178 (n := Tryz.f178.ntmps) (by kernel_rfl) (by simp) ?_
    simp only [go_sem, simprocAttr, hg, nodeC]
theorem make1_ok {l r : T} {vl vr : Value} {x : Ext} (hn : New S h) (hl : TrAt S h l vl) (hr : TrAt S h r vr) (hb : l.size + r.size ≤ 1099511627776) : Does Tryz.prog 177 #[vl, x.ag, vr] h (fun u h' => TrAt S h' (.node l x r) u ∧ h.quiet h') := by
  have hdl := l.depth_le
  have hdr := r.depth_le
  obtain ⟨pl, rfl, _⟩ := hl.ptr
  obtain ⟨pr, rfl, _⟩ := hr.ptr
  refine spec_go mixed Tryz.func177 rfl Tryz.results177 (n := Tryz.f177.ntmps) (by kernel_rfl) (by simp) ?_
  simp only [go_sem, simprocAttr, Ext.ag]
  refine cl_gen fun h1 e1 => ?_
  have q1 : h.quiet h1 := by rw [e1]; simp only [go_sem, simprocAttr]
  have g1 : h1.get h.next = .cells [.int .i64 x.off, .int .i64 x.len, .int .i64 x.phys, .int .i64 x.birth] .rw := by rw [e1]; simp only [go_sem, simprocAttr]
  clear e1
  refine cl_spec (depth_ok (hl.quiet q1)) (fun u h' hp _ => hp.2 ▸ .refl _) ?_
  rintro u k ⟨rfl, hk⟩
  obtain rfl : h1 = k := hk.symm
  simp only [go_sem, simprocAttr]
  refine cl_spec (depth_ok (hr.quiet q1)) (fun u h' hp _ => hp.2 ▸ .refl _) ?_
  rintro u k ⟨rfl, hk⟩
  obtain rfl : h1 = k := hk.symm
  simp only [go_sem, simprocAttr]
  refine cl_spec (weight_ok (hl.quiet q1)) (fun u h' hp _ => hp.2 ▸ .refl _) ?_
  rintro u k ⟨rfl, hk⟩
  obtain rfl : h1 = k := hk.symm
  simp only [go_sem, simprocAttr]
  refine cl_spec (weight_ok (hr.quiet q1)) (fun u h' hp _ => hp.2 ▸ .refl _) ?_
  rintro u k ⟨rfl, hk⟩
  obtain rfl : h1 = k := hk.symm
  have e1 : IntKind.i64.wrap (1 + max (l.depth : Int) r.depth) = ((1 + max l.depth r.depth : Nat) : Int) := by rw [wi64] <;> omega
  have e2 : IntKind.i64.wrap (1 + (l.size : Int)) = ((1 + l.size : Nat) : Int) := by rw [wi64] <;> omega
  have e3 : IntKind.i64.wrap (((1 + l.size : Nat) : Int) + r.size) = ((1 + l.size + r.size : Nat) : Int) := by rw [wi64] <;> omega
  simp only [go_sem, simprocAttr, e1, e2, e3]
  have q2 := q1.trans (AHeap.quiet.push h1 (.cells (nodeC x (.pointer pl) (.pointer pr) (T.node l x r).depth (T.node l x r).size) .rw))
  exact ⟨⟨h1.next, _, _, rfl, hn _ q1.1, AHeap.get_push_self _ _, hl.quiet q2, hr.quiet q2⟩, q2⟩
end

def T.even (l : T) (x : Ext) (r : T) : T :=
  if r.depth + 1 < l.depth then
    match l with
    | .nil => .node l x r
    | .node ll lx lr =>
      if lr.depth ≤ ll.depth then .node ll lx (.node lr x r)
      else match lr with
        | .nil => .node l x r
        | .node a m b => .node (.node ll lx a) m (.node b x r)
  else if l.depth + 1 < r.depth then
    match r with
    | .nil => .node l x r
    | .node rl rx rr =>
      if rl.depth ≤ rr.depth then .node (.node l x rl) rx rr
      else match rl with
        | .nil => .node l x r
        | .node a m b => .node (.node l x a) m (.node b rx rr)
  else .node l x r
def T.join (l : T) (x : Ext) (r : T) : T :=
  if r.depth + 1 < l.depth then
    match l with
    | .nil => .node l x r
    | .node ll lx lr => T.even ll lx (T.join lr x r)
  else if l.depth + 1 < r.depth then
    match r with
    | .nil => .node l x r
    | .node rl rx rr => T.even (T.join l x rl) rx rr
  else .node l x r
termination_by l.size + r.size
decreasing_by all_goals simp only [T.size]; omega

theorem T.depth_pos {t : T} (h : 0 < t.depth) : ∃ l x r, t = .node l x r := by
  cases t with
  | nil => simp [T.depth] at h
  | node l x r => exact ⟨l, x, r, rfl⟩
theorem T.even_size (l : T) (x : Ext) (r : T) : (T.even l x r).size = 1 + l.size + r.size := by
  unfold T.even
  repeat' split
  all_goals (simp only [T.size]; try omega)
theorem T.join_size (l : T) (x : Ext) (r : T) : (T.join l x r).size = 1 + l.size + r.size := by
  fun_induction T.join l x r
  all_goals first | (rw [T.even_size]; simp only [T.size] at *; omega) | (simp only [T.size]; try omega)

section
variable {h : AHeap} {S S' Z : Nat → Prop}

theorem even_ok {l r : T} {vl vr : Value} {x : Ext} (hn : New S h) (hl : TrAt S h l vl) (hr : TrAt S h r vr) (hb : l.size + r.size ≤ 1099511627776) : Does Tryz.prog 176 #[vl, x.ag, vr] h (fun u h' => TrAt S h' (T.even l x r) u ∧ h.quiet h') := by
  have hdl := l.depth_le
  have hdr := r.depth_le
  obtain ⟨pl, rfl, _⟩ := hl.ptr
  obtain ⟨pr, rfl, _⟩ := hr.ptr
  refine spec_go mixed Tryz.func176 rfl Tryz.results176 (n := Tryz.f176.ntmps) (by kernel_rfl) (by simp) ?_
  simp only [go_sem, simprocAttr, Ext.ag]
  refine cl_gen fun h1 e1 => ?_
  have q1 : h.quiet h1 := by rw [e1]; simp only [go_sem, simprocAttr]
  have g1 : h1.get h.next = .cells [.int .i64 x.off, .int .i64 x.len, .int .i64 x.phys, .int .i64 x.birth] .rw := by rw [e1]; simp only [go_sem, simprocAttr]
  have lg1 : h.next < h1.next := by rw [e1]; simp
  clear e1
  have hl1 := hl.quiet q1
  have hr1 := hr.quiet q1
  have hn1 := hn.quiet q1
  refine cl_spec (depth_ok hl1) (fun _ _ _ hc => absurd hc (by decide +kernel)) ?_
  rintro u k ⟨rfl, hk⟩
  obtain rfl : h1 = k := hk.symm
  simp only [go_sem, simprocAttr]
  refine cl_spec (depth_ok hr1) (fun _ _ _ hc => absurd hc (by decide +kernel)) ?_
  rintro u k ⟨rfl, hk⟩
  obtain rfl : h1 = k := hk.symm
  have e1 : IntKind.i64.wrap ((l.depth : Int) - r.depth) = (l.depth : Int) - r.depth := by rw [wi64] <;> omega
  simp only [go_sem, simprocAttr, e1]
  unfold T.even
  refine cnd_decide (fun hc => ?_) (fun hc => ?_)
  · have hc' : r.depth + 1 < l.depth := by omega
    rw [if_pos hc']
    obtain ⟨ll, lx, lr, rfl⟩ := T.depth_pos (t := l) (by omega)
    obtain ⟨il, qll, qlr, e, hs, hg, hll, hlr⟩ := hl1
    cases e
    dsimp only
    have hs1 : (T.node ll lx lr).size = 1 + ll.size + lr.size := rfl
    have li : il < h1.next := AHeap.lt_of_alive h1 (by rw [hg]; simp)
    simp only [go_sem, simprocAttr, hg, nodeC]
    refine cl_spec (depth_ok hll) (fun u h' hp _ => hp.2 ▸ .refl _) ?_
    rintro u k ⟨rfl, hk⟩
    obtain rfl : h1 = k := hk.symm
    simp only [go_sem, simprocAttr, hg, nodeC]
    refine cl_spec (depth_ok hlr) (fun _ _ _ hc => absurd hc (by decide +kernel)) ?_
    rintro u k ⟨rfl, hk⟩
    obtain rfl : h1 = k := hk.symm
    simp only [go_sem, simprocAttr]
    refine cnd_decide (fun hd => ?_) (fun hd => ?_)
    · have hd' : lr.depth ≤ ll.depth := by omega
      rw [if_pos hd']
      simp only [go_sem, simprocAttr, hg, nodeC, g1]
      refine cl_spec (make1_ok (x := x) hn1 hlr hr1 (by omega)) (fun u h' hp _ => hp.2) ?_
      rintro u k ⟨hm, qm⟩
      simp only [go_sem, simprocAttr]
      refine cl_spec (make1_ok (x := lx) (hn1.quiet qm) (hll.quiet qm) hm (by simp only [T.size]; omega)) (fun _ _ _ hc => absurd hc (by decide +kernel)) ?_
      rintro u k2 ⟨hm2, qm2⟩
      simp only [go_sem, simprocAttr]
      exact ⟨hm2, q1.trans (qm.trans qm2)⟩
    · have hd' : ¬ lr.depth ≤ ll.depth := by omega
      rw [if_neg hd']
      obtain ⟨a, m, b, rfl⟩ := T.depth_pos (t := lr) (by omega)
      obtain ⟨im, qa, qb, e, hs2, hg2, ha, hb2⟩ := hlr
      subst e
      dsimp only
      have hs3 : (T.node a m b).size = 1 + a.size + b.size := rfl
      have lm : im < h1.next := AHeap.lt_of_alive h1 (by rw [hg2]; simp)
      simp only [go_sem, simprocAttr, hg, hg2, nodeC, g1]
      refine cl_spec (make1_ok (x := lx) hn1 hll ha (by omega)) (fun u h' hp _ => hp.2) ?_
      rintro u k ⟨hm, qm⟩
      have hg2' := (qm.2 im lm).trans hg2
      have g1' := (qm.2 _ lg1).trans g1
      simp only [go_sem, simprocAttr, hg2', nodeC, g1']
      refine cl_spec (make1_ok (x := x) (hn1.quiet qm) (hb2.quiet qm) (hr1.quiet qm) (by omega)) (fun u h' hp _ => hp.2) ?_
      rintro u k2 ⟨hm2, qm2⟩
      simp only [go_sem, simprocAttr]
      refine cl_spec (make1_ok (x := m) ((hn1.quiet qm).quiet qm2) (hm.quiet qm2) hm2 (by simp only [T.size]; omega)) (fun _ _ _ hc => absurd hc (by decide +kernel)) ?_
      rintro u k3 ⟨hm3, qm3⟩
      simp only [go_sem, simprocAttr]
      exact ⟨hm3, q1.trans (qm.trans (qm2.trans qm3))⟩
  · have hc' : ¬ r.depth + 1 < l.depth := by omega
    rw [if_neg hc']
    simp only [go_sem, simprocAttr]
    refine cnd_decide (fun hc2 => ?_) (fun hc2 => ?_)
    · have hc2' : l.depth + 1 < r.depth := by omega
      rw [if_pos hc2']
      obtain ⟨rl, rx, rr, rfl⟩ := T.depth_pos (t := r) (by omega)
      obtain ⟨il, qll, qlr, e, hs, hg, hll, hlr⟩ := hr1
      cases e
      dsimp only
      have hs1 : (T.node rl rx rr).size = 1 + rl.size + rr.size := rfl
      have li : il < h1.next := AHeap.lt_of_alive h1 (by rw [hg]; simp)
      simp only [go_sem, simprocAttr, hg, nodeC]
      refine cl_spec (depth_ok hlr) (fun u h' hp _ => hp.2 ▸ .refl _) ?_
      rintro u k ⟨rfl, hk⟩
      obtain rfl : h1 = k := hk.symm
      simp only [go_sem, simprocAttr, hg, nodeC]
      refine cl_spec (depth_ok hll) (fun _ _ _ hc => absurd hc (by decide +kernel)) ?_
      rintro u k ⟨rfl, hk⟩
      obtain rfl : h1 = k := hk.symm
      simp only [go_sem, simprocAttr]
      refine cnd_decide (fun hd => ?_) (fun hd => ?_)
      · have hd' : rl.depth ≤ rr.depth := by omega
        rw [if_pos hd']
        simp only [go_sem, simprocAttr, hg, nodeC, g1]
        refine cl_spec (make1_ok (x := x) hn1 hl1 hll (by omega)) (fun u h' hp _ => hp.2) ?_
        rintro u k ⟨hm, qm⟩
        have hg' := (qm.2 il li).trans hg
        simp only [go_sem, simprocAttr, hg', nodeC]
        refine cl_spec (make1_ok (x := rx) (hn1.quiet qm) hm (hlr.quiet qm) (by simp only [T.size]; omega)) (fun _ _ _ hc => absurd hc (by decide +kernel)) ?_
        rintro u k2 ⟨hm2, qm2⟩
        simp only [go_sem, simprocAttr]
        exact ⟨hm2, q1.trans (qm.trans qm2)⟩
      · have hd' : ¬ rl.depth ≤ rr.depth := by omega
        rw [if_neg hd']
        obtain ⟨a, m, b, rfl⟩ := T.depth_pos (t := rl) (by omega)
        obtain ⟨im, qa, qb, e, hs2, hg2, ha, hb2⟩ := hll
        subst e
        dsimp only
        have hs3 : (T.node a m b).size = 1 + a.size + b.size := rfl
        have lm : im < h1.next := AHeap.lt_of_alive h1 (by rw [hg2]; simp)
        simp only [go_sem, simprocAttr, hg, hg2, nodeC, g1]
        refine cl_spec (make1_ok (x := x) hn1 hl1 ha (by omega)) (fun u h' hp _ => hp.2) ?_
        rintro u k ⟨hm, qm⟩
        have hg2' := (qm.2 im lm).trans hg2
        have hg' := (qm.2 il li).trans hg
        simp only [go_sem, simprocAttr, hg', hg2', nodeC]
        refine cl_spec (make1_ok (x := rx) (hn1.quiet qm) (hb2.quiet qm) (hlr.quiet qm) (by omega)) (fun u h' hp _ => hp.2) ?_
        rintro u k2 ⟨hm2, qm2⟩
        simp only [go_sem, simprocAttr]
        refine cl_spec (make1_ok (x := m) ((hn1.quiet qm).quiet qm2) (hm.quiet qm2) hm2 (by simp only [T.size]; omega)) (fun _ _ _ hc => absurd hc (by decide +kernel)) ?_
        rintro u k3 ⟨hm3, qm3⟩
        simp only [go_sem, simprocAttr]
        exact ⟨hm3, q1.trans (qm.trans (qm2.trans qm3))⟩
    · have hc2' : ¬ l.depth + 1 < r.depth := by omega
      rw [if_neg hc2']
      simp only [go_sem, simprocAttr, g1]
      refine cl_spec (make1_ok (x := x) hn1 hl1 hr1 (by omega)) (fun _ _ _ hc => absurd hc (by decide +kernel)) ?_
      rintro u k ⟨hm, qm⟩
      simp only [go_sem, simprocAttr]
      exact ⟨hm, q1.trans qm⟩

theorem join_ok : ∀ (n : Nat) {h : AHeap} {l r : T} {vl vr : Value} {x : Ext} (hd : l.size + r.size < n) (hn : New S h) (hl : TrAt S h l vl) (hr : TrAt S h r vr) (hb : l.size + r.size ≤ 1099511627775), Does Tryz.prog 167 #[vl, x.ag, vr] h (fun u h' => TrAt S h' (T.join l x r) u ∧ h.quiet h') := by
  intro n
  induction n with
  | zero =>
    intro h l r vl vr x hd hn hl hr hb
    omega
  | succ n ih =>
  intro h l r vl vr x hd hn hl hr hb
  have hdl := l.depth_le
  have hdr := r.depth_le
  obtain ⟨pl, rfl, _⟩ := hl.ptr
  obtain ⟨pr, rfl, _⟩ := hr.ptr
  refine spec_go mixed Tryz.func167 rfl Tryz.results167 (n := Tryz.f167.ntmps) (by kernel_rfl) (by simp) ?_
  simp only [go_sem, simprocAttr, Ext.ag]
  refine cl_gen fun h1 e1 => ?_
  have q1 : h.quiet h1 := by rw [e1]; simp only [go_sem, simprocAttr]
  have g1 : h1.get h.next = .cells [.int .i64 x.off, .int .i64 x.len, .int .i64 x.phys, .int .i64 x.birth] .rw := by rw [e1]; simp only [go_sem, simprocAttr]
  have lg1 : h.next < h1.next := by rw [e1]; simp
  clear e1
  have hl1 := hl.quiet q1
  have hr1 := hr.quiet q1
  have hn1 := hn.quiet q1
  refine cl_spec (depth_ok hl1) (fun _ _ _ hc => absurd hc (by decide +kernel)) ?_
  rintro u k ⟨rfl, hk⟩
  obtain rfl : h1 = k := hk.symm
  simp only [go_sem, simprocAttr]
  refine cl_spec (depth_ok hr1) (fun _ _ _ hc => absurd hc (by decide +kernel)) ?_
  rintro u k ⟨rfl, hk⟩
  obtain rfl : h1 = k := hk.symm
  have e1 : IntKind.i64.wrap ((l.depth : Int) - r.depth) = (l.depth : Int) - r.depth := by rw [wi64] <;> omega
  simp only [go_sem, simprocAttr, e1]
  unfold T.join
  refine cnd_decide (fun hc => ?_) (fun hc => ?_)
  · have hc' : r.depth + 1 < l.depth := by omega
    rw [if_pos hc']
    obtain ⟨ll, lx, lr, rfl⟩ := T.depth_pos (t := l) (by omega)
    obtain ⟨il, qll, qlr, e, hs, hg, hll, hlr⟩ := hl1
    cases e
    dsimp only
    have hs1 : (T.node ll lx lr).size = 1 + ll.size + lr.size := rfl
    simp only [go_sem, simprocAttr, hg, nodeC, g1]
    refine cl_spec (ih (x := x) (by omega) hn1 hlr hr1 (by omega)) (fun u h' hp _ => hp.2) ?_
    rintro u k ⟨hm, qm⟩
    simp only [go_sem, simprocAttr]
    refine cl_spec (even_ok (x := lx) (hn1.quiet qm) (hll.quiet qm) hm (by rw [T.join_size]; omega)) (fun _ _ _ hc => absurd hc (by decide +kernel)) ?_
    rintro u k2 ⟨hm2, qm2⟩
    simp only [go_sem, simprocAttr]
    exact ⟨hm2, q1.trans (qm.trans qm2)⟩
  · have hc' : ¬ r.depth + 1 < l.depth := by omega
    rw [if_neg hc']
    simp only [go_sem, simprocAttr]
    refine cnd_decide (fun hc2 => ?_) (fun hc2 => ?_)
    · have hc2' : l.depth + 1 < r.depth := by omega
      rw [if_pos hc2']
      obtain ⟨rl, rx, rr, rfl⟩ := T.depth_pos (t := r) (by omega)
      obtain ⟨il, qll, qlr, e, hs, hg, hll, hlr⟩ := hr1
      cases e
      dsimp only
      have hs1 : (T.node rl rx rr).size = 1 + rl.size + rr.size := rfl
      have li : il < h1.next := AHeap.lt_of_alive h1 (by rw [hg]; simp)
      simp only [go_sem, simprocAttr, hg, nodeC, g1]
      refine cl_spec (ih (x := x) (by omega) hn1 hl1 hll (by omega)) (fun u h' hp _ => hp.2) ?_
      rintro u k ⟨hm, qm⟩
      have hg' := (qm.2 il li).trans hg
      simp only [go_sem, simprocAttr, hg', nodeC]
      refine cl_spec (even_ok (x := rx) (hn1.quiet qm) hm (hlr.quiet qm) (by rw [T.join_size]; omega)) (fun _ _ _ hc => absurd hc (by decide +kernel)) ?_
      rintro u k2 ⟨hm2, qm2⟩
      simp only [go_sem, simprocAttr]
      exact ⟨hm2, q1.trans (qm.trans qm2)⟩
    · have hc2' : ¬ l.depth + 1 < r.depth := by omega
      rw [if_neg hc2']
      simp only [go_sem, simprocAttr, g1]
      refine cl_spec (make1_ok (x := x) hn1 hl1 hr1 (by omega)) (fun _ _ _ hc => absurd hc (by decide +kernel)) ?_
      rintro u k ⟨hm, qm⟩
      simp only [go_sem, simprocAttr]
      exact ⟨hm, q1.trans qm⟩
end

/-- An extent that may be. -/
def Ext.ok (x : Ext) : Prop := 0 ≤ x.off ∧ 1 ≤ x.len ∧ x.off + x.len ≤ 1024 ∧ 0 ≤ x.phys ∧ x.phys + x.len ≤ 1099511627776 ∧ 0 ≤ x.birth ∧ x.birth ≤ 1099511627776
def Ext.meets (a b : Ext) : Prop := a.off + a.len = b.off ∧ a.phys + a.len = b.phys ∧ a.birth = b.birth
instance (a b : Ext) : Decidable (a.meets b) := inferInstanceAs (Decidable (_ ∧ _))
def Ext.clip (x : Ext) (f t : Int) : Ext := ⟨max f x.off, min t (x.off + x.len) - max f x.off, x.phys + max f x.off - x.off, x.birth⟩
/-- Does it lie, in part, from one block to ahead of another one? -/
def Ext.lies (x : Ext) (f t : Int) : Prop := max f x.off < min t (x.off + x.len)
instance (x : Ext) (f t : Int) : Decidable (x.lies f t) := inferInstanceAs (Decidable (_ < _))

def T.all (P : Ext → Prop) : T → Prop
  | .nil => True
  | .node l x r => l.all P ∧ P x ∧ r.all P
theorem T.all_list {P : Ext → Prop} : ∀ {t : T}, t.all P ↔ ∀ x ∈ t.list, P x
  | .nil => by simp [T.all, T.list]
  | .node l x r => by
    simp only [T.all, T.list, List.mem_append, List.mem_cons]
    rw [T.all_list (t := l), T.all_list (t := r)]
    constructor
    · rintro ⟨h1, h2, h3⟩ y (h | rfl | h)
      · exact h1 y h
      · exact h2
      · exact h3 y h
    · exact fun h => ⟨fun y hy => h y (.inl hy), h x (.inr (.inl rfl)), fun y hy => h y (.inr (.inr hy))⟩
theorem T.even_list (l : T) (x : Ext) (r : T) : (T.even l x r).list = l.list ++ x :: r.list := by
  unfold T.even
  repeat' split
  all_goals simp [T.list]
theorem T.join_list (l : T) (x : Ext) (r : T) : (T.join l x r).list = l.list ++ x :: r.list := by
  fun_induction T.join l x r
  all_goals first | (rw [T.even_list]; simp_all [T.list]) | simp [T.list]
theorem T.size_list : ∀ t : T, t.size = t.list.length
  | .nil => rfl
  | .node l x r => by simp only [T.size, T.list, List.length_append, List.length_cons]; rw [T.size_list l, T.size_list r]; omega

def T.last (l : T) (x : Ext) : T → T × Ext
  | .nil => (l, x)
  | .node rl rx rr => (T.join l x (T.last rl rx rr).1, (T.last rl rx rr).2)
def T.first : T → Ext → T → Ext × T
  | .nil, x, r => (x, r)
  | .node ll lx lr, x, r => ((T.first ll lx lr).1, T.join (T.first ll lx lr).2 x r)
theorem T.last_list : ∀ (r l : T) (x : Ext), (T.last l x r).1.list ++ [(T.last l x r).2] = l.list ++ x :: r.list
  | .nil, l, x => rfl
  | .node rl rx rr, l, x => by
    have := T.last_list rr rl rx
    simp only [T.last, T.join_list, T.list] at this ⊢
    rw [List.append_assoc, List.cons_append, this]
theorem T.first_list : ∀ (l : T) (x : Ext) (r : T), (T.first l x r).1 :: (T.first l x r).2.list = l.list ++ x :: r.list
  | .nil, x, r => rfl
  | .node ll lx lr, x, r => by
    have := T.first_list ll lx lr
    simp only [T.first, T.join_list, T.list] at this ⊢
    rw [← List.cons_append, this]
theorem T.last_size (l : T) (x : Ext) (r : T) : (T.last l x r).1.size = l.size + r.size := by
  have := congrArg List.length (T.last_list r l x)
  simp only [List.length_append, List.length_cons, List.length_nil] at this
  simp only [T.size_list]; omega
theorem T.first_size (l : T) (x : Ext) (r : T) : (T.first l x r).2.size = l.size + r.size := by
  have := congrArg List.length (T.first_list l x r)
  simp only [List.length_append, List.length_cons] at this
  simp only [T.size_list]; omega

def T.both (l r : T) : T :=
  match l with
  | .nil => r
  | .node ll lx lr => T.join (T.last ll lx lr).1 (T.last ll lx lr).2 r
def T.split (o : Int) : T → T × T
  | .nil => (.nil, .nil)
  | .node l x r =>
    if o ≤ x.off then ((T.split o l).1, T.join (T.split o l).2 x r)
    else if x.off + x.len ≤ o then (T.join l x (T.split o r).1, (T.split o r).2)
    else (T.join l (x.clip 0 o) .nil, T.join .nil (x.clip o 1024) r)
theorem T.split_size (o : Int) : ∀ t : T, (T.split o t).1.size + (T.split o t).2.size ≤ t.size + 1
  | .nil => by simp [T.split, T.size]
  | .node l x r => by
    have := T.split_size o l
    have := T.split_size o r
    unfold T.split
    repeat' split
    all_goals (simp only [T.join_size, T.size] at *; omega)
/-- Two extents that are one. -/
def Ext.with (y x : Ext) : Ext := ⟨y.off, y.len + x.len, y.phys, y.birth⟩
def T.lowOf (l : T) (x : Ext) : T × Ext :=
  match l with
  | .nil => (.nil, x)
  | .node ll lx lr => if (T.last ll lx lr).2.meets x then ((T.last ll lx lr).1, (T.last ll lx lr).2.with x) else (.node ll lx lr, x)
def T.highOf (x : Ext) (r : T) : Ext × T :=
  match r with
  | .nil => (x, .nil)
  | .node rl rx rr => if x.meets (T.first rl rx rr).1 then (x.with (T.first rl rx rr).1, (T.first rl rx rr).2) else (x, .node rl rx rr)
def T.put (l : T) (x : Ext) (r : T) : T := T.join (T.lowOf l x).1 (T.highOf (T.lowOf l x).2 r).1 (T.highOf (T.lowOf l x).2 r).2

theorem Ext.ok_with {y x : Ext} (hy : y.ok) (hx : x.ok) (hm : y.meets x) : (y.with x).ok := by
  unfold Ext.ok Ext.meets Ext.with at *
  dsimp only
  omega
theorem Ext.ok_clip {x : Ext} {f t : Int} (hx : x.ok) (hl : x.lies f t) : (x.clip f t).ok := by
  unfold Ext.ok Ext.lies Ext.clip at *
  dsimp only
  omega

section
variable {h : AHeap} {S S' Z : Nat → Prop}

theorem TrAt.avoid {h1 : AHeap} {t : T} {v : Value} (ht : TrAt S h t v) (q : h.quiet h1) : TrAt (fun j => S j ∧ j ≠ h.next) h1 t v := ht.mono fun j hj hl => ⟨⟨hj, by omega⟩, q.2 j hl⟩
theorem New.avoid {h1 : AHeap} (hn : New S h) (hl : h.next < h1.next) : New (fun j => S j ∧ j ≠ h.next) h1 := fun j hj => ⟨hn j (by omega), by omega⟩
theorem TrAt.set {t : T} {v : Value} {n : Nat} (ht : TrAt (fun j => S j ∧ j ≠ n) h t v) (o : AObj) : TrAt S (h.set n o) t v := ht.mono fun j hj _ => ⟨hj.1, AHeap.get_set_ne _ _ (Ne.symm hj.2)⟩

theorem last_ok : ∀ (r : T) {S : Nat → Prop} {h : AHeap} {l : T} {x : Ext} {v : Value} (hn : New S h) (ht : TrAt S h (.node l x r) v) (hb : l.size + r.size ≤ 1099511627775), Does Tryz.prog 169 #[v] h (fun u h' => ∃ w, u = .tuple #[w, (T.last l x r).2.ag] ∧ TrAt S h' (T.last l x r).1 w ∧ h.quiet h') := by
  intro r
  induction r with
  | nil =>
    intro S h l x v hn ht hb
    obtain ⟨id, pl, pr, rfl, hs, hg, hl, hr⟩ := ht
    obtain rfl : pr = _ := hr
    have lid : id < h.next := AHeap.lt_of_alive h (by rw [hg]; simp)
    have gp : ∀ o, (h.push o).get id = _ := fun o => (AHeap.get_push_lt _ _ lid).trans hg
    refine spec_go mixed Tryz.func169 rfl Tryz.results169 (n := Tryz.f169.ntmps) (by kernel_rfl) (by simp) ?_
    simp only [go_sem, simprocAttr, gp, nodeC]
    exact ⟨_, rfl, hl.quiet (AHeap.quiet.push _ _)⟩
  | node rl rx rr ihl ihr =>
    intro S h l x v hn ht hb
    obtain ⟨id, pl, pr, rfl, hs, hg, hl, hr⟩ := ht
    have lid : id < h.next := AHeap.lt_of_alive h (by rw [hg]; simp)
    have gp : ∀ o, (h.push o).get id = _ := fun o => (AHeap.get_push_lt _ _ lid).trans hg
    have hs3 : (T.node rl rx rr).size = 1 + rl.size + rr.size := rfl
    refine spec_go mixed Tryz.func169 rfl Tryz.results169 (n := Tryz.f169.ntmps) (by kernel_rfl) (by simp) ?_
    have hr' := hr
    obtain ⟨ir, p1, p2, rfl, _⟩ := hr'
    simp only [go_sem, simprocAttr, gp, nodeC]
    refine cl_gen fun h1 e1 => ?_
    have q1 : h.quiet h1 := by rw [e1]; simp only [go_sem, simprocAttr]
    have n1 : h1.next = h.next + 1 := by rw [e1]; simp
    have g1 : h1.get h.next = .cells [.int .i64 0, .int .i64 0, .int .i64 0, .int .i64 0] .rw := by rw [e1]; simp only [go_sem, simprocAttr]
    clear e1
    refine cl_spec (ihr (hn.avoid (h1 := h1) (by omega)) (hr.avoid q1) (by omega)) (fun _ _ _ hc => absurd hc (by decide +kernel)) ?_
    rintro u k ⟨w, rfl, hw, qw⟩
    have ln := T.last_size rl rx rr
    have Q : h.quiet k := q1.trans qw
    have hgk := (Q.2 id lid).trans hg
    have gpk : ∀ o, (k.push o).get id = _ := fun o => (AHeap.get_push_lt _ _ (by have := Q.1; omega)).trans hgk
    simp only [go_sem, simprocAttr, gpk, nodeC, Ext.ag]
    refine cl_gen fun k1 e1 => ?_
    have q2 : k.quiet k1 := by rw [e1]; simp only [go_sem, simprocAttr]
    have g2 : k1.get k.next = .cells (T.last rl rx rr).2.cs .rw := by rw [e1]; simp only [go_sem, simprocAttr, Ext.cs]
    have n2 : k1.next = k.next + 1 := by rw [e1]; simp
    clear e1
    have lk : h.next < k.next := by have := qw.1; omega
    refine cl_spec (join_ok _ (Nat.lt_succ_self _) (x := x) ((hn.avoid (h1 := h1) (by omega)).quiet (qw.trans q2)) ((hl.avoid q1).quiet (qw.trans q2)) (hw.quiet q2) (by omega)) (fun u h' hp _ => hp.2) ?_
    rintro u k3 ⟨hj, q3⟩
    have g3 := (q3.2 k.next (by omega)).trans g2
    have l3 : h.next < k3.next := by have := q2.1; have := q3.1; omega
    have g4 : k3.get h.next = _ := (q3.2 h.next (by omega)).trans ((q2.2 h.next lk).trans ((qw.2 h.next (by omega)).trans g1))
    have gs := fun o => AHeap.get_set_self k3 o l3
    simp only [go_sem, simprocAttr, g3, g4, gs, Ext.cs]
    exact ⟨_, rfl, hj.set _, (Q.trans (q2.trans q3)).set' (Nat.le_refl _) _⟩

theorem first_ok : ∀ (l : T) {S : Nat → Prop} {h : AHeap} {r : T} {x : Ext} {v : Value} (hn : New S h) (ht : TrAt S h (.node l x r) v) (hb : l.size + r.size ≤ 1099511627775), Does Tryz.prog 171 #[v] h (fun u h' => ∃ w, u = .tuple #[(T.first l x r).1.ag, w] ∧ TrAt S h' (T.first l x r).2 w ∧ h.quiet h') := by
  intro l
  induction l with
  | nil =>
    intro S h r x v hn ht hb
    obtain ⟨id, pl, pr, rfl, hs, hg, hl, hr⟩ := ht
    obtain rfl : pl = _ := hl
    have lid : id < h.next := AHeap.lt_of_alive h (by rw [hg]; simp)
    have gp : ∀ o, (h.push o).get id = _ := fun o => (AHeap.get_push_lt _ _ lid).trans hg
    refine spec_goH [2] mixed Tryz.func171 rfl Tryz.results171 (n := Tryz.f171.ntmps) (by kernel_rfl) (by simp) ?_
    simp only [go_sem, simprocAttr, go_regionH, rg_false, rg_true, List.contains_cons, List.contains_nil, beq_self_eq_true, Bool.or_false, Bool.false_or, Bool.true_or, Nat.reduceBEq, gp, nodeC]
    refine ⟨apart_of [0] [2] (by decide +kernel) ?_, ?_⟩
    · intro t ht s hs' y k1 k2
      obtain rfl : t = 0 := by simpa using ht
      obtain rfl : s = 2 := by simpa using hs'
      replace k1 : vblk (.pointer (some ⟨id, 0, none⟩)) = some y := by rw [← k1]; simp only [go_sem, simprocAttr]
      replace k2 : vblk (.pointer (some ⟨h.next, 0, none⟩)) = some y := by rw [← k2]; simp only [go_sem, simprocAttr]
      simp only [vblk, Option.some.injEq] at k1 k2
      omega
    · exact ⟨_, rfl, hr.quiet (AHeap.quiet.push _ _)⟩
  | node ll lx lr ihl ihr =>
    intro S h r x v hn ht hb
    obtain ⟨id, pl, pr, rfl, hs, hg, hl, hr⟩ := ht
    have lid : id < h.next := AHeap.lt_of_alive h (by rw [hg]; simp)
    have gp : ∀ o, (h.push o).get id = _ := fun o => (AHeap.get_push_lt _ _ lid).trans hg
    have hs3 : (T.node ll lx lr).size = 1 + ll.size + lr.size := rfl
    refine spec_goH [2] mixed Tryz.func171 rfl Tryz.results171 (n := Tryz.f171.ntmps) (by kernel_rfl) (by simp) ?_
    have hl' := hl
    obtain ⟨ir, p1, p2, rfl, _⟩ := hl'
    simp only [go_sem, simprocAttr, go_regionH, rg_false, rg_true, List.contains_cons, List.contains_nil, beq_self_eq_true, Bool.or_false, Bool.false_or, Bool.true_or, Nat.reduceBEq, gp, nodeC]
    refine cl_gen fun h1 e1 => ?_
    have q1 : h.quiet h1 := by rw [e1]; simp only [go_sem, simprocAttr]
    have n1 : h1.next = h.next + 1 := by rw [e1]; simp
    have g1 : h1.get h.next = .cells [.int .i64 0, .int .i64 0, .int .i64 0, .int .i64 0] .rw := by rw [e1]; simp only [go_sem, simprocAttr]
    clear e1
    refine cl_spec (ihl (hn.avoid (h1 := h1) (by omega)) (hl.avoid q1) (by omega)) (fun _ _ _ hc => absurd hc (by decide +kernel)) ?_
    rintro u k ⟨w, rfl, hw, qw⟩
    have ln := T.first_size ll lx lr
    have Q : h.quiet k := q1.trans qw
    have hgk := (Q.2 id lid).trans hg
    have gpk : ∀ o, (k.push o).get id = _ := fun o => (AHeap.get_push_lt _ _ (by have := Q.1; omega)).trans hgk
    obtain ⟨pw, rfl, _⟩ := hw.ptr
    simp only [go_sem, simprocAttr, go_regionH, rg_false, rg_true, List.contains_cons, List.contains_nil, beq_self_eq_true, Bool.or_false, Bool.false_or, Bool.true_or, Nat.reduceBEq, gpk, nodeC, Ext.ag]
    refine cl_gen fun k1 e1 => ?_
    have q2 : k.quiet k1 := by rw [e1]; simp only [go_sem, simprocAttr]
    have n2 : k1.next = k.next + 1 := by rw [e1]; simp
    clear e1
    have lk : h.next < k.next := by have := qw.1; omega
    refine cl_spec (join_ok _ (Nat.lt_succ_self _) (x := x) ((hn.avoid (h1 := h1) (by omega)).quiet (qw.trans q2)) (hw.quiet q2) ((hr.avoid q1).quiet (qw.trans q2)) (by omega)) (fun u h' hp _ => hp.2) ?_
    rintro u k3 ⟨hj, q3⟩
    have l3 : h.next < k3.next := by have := q2.1; have := q3.1; omega
    have g4 : k3.get h.next = _ := (q3.2 h.next (by omega)).trans ((q2.2 h.next lk).trans ((qw.2 h.next (by omega)).trans g1))
    have gs := fun o => AHeap.get_set_self k3 o l3
    simp only [go_sem, simprocAttr, go_regionH, rg_false, rg_true, List.contains_cons, List.contains_nil, beq_self_eq_true, Bool.or_false, Bool.false_or, Bool.true_or, Nat.reduceBEq, g4, gs, Ext.cs]
    exact ⟨_, rfl, hj.set _, (Q.trans (q2.trans q3)).set' (Nat.le_refl _) _⟩

theorem meets_ok {a b : Ext} (ha : a.ok) (hb : b.ok) : Does Tryz.prog 170 #[a.ag, b.ag] h (fun u h' => u = .bool (decide (a.meets b)) ∧ h.quiet h') := by
  unfold Ext.ok at ha hb
  have e1 : IntKind.i64.wrap (a.off + a.len) = a.off + a.len := by rw [wi64] <;> omega
  have e2 : IntKind.i64.wrap (a.phys + a.len) = a.phys + a.len := by rw [wi64] <;> omega
  refine spec_go mixed Tryz.func170 rfl Tryz.results170 (n := Tryz.f170.ntmps) (by kernel_rfl) (by simp) ?_
  by_cases c1 : a.off + a.len = b.off
  · have c1' : (a.off + a.len = b.off) = True := eq_true c1
    by_cases c2 : a.phys + a.len = b.phys
    · have c2' : (a.phys + a.len = b.phys) = True := eq_true c2
      by_cases c3 : a.birth = b.birth
      · have c3' : (a.birth = b.birth) = True := eq_true c3
        simp only [go_sem, simprocAttr, Ext.ag, e1, e2, c1', c2', c3']
        simp [Ext.meets, c1, c2, c3]
      · have c3' : (a.birth = b.birth) = False := eq_false c3
        simp only [go_sem, simprocAttr, Ext.ag, e1, e2, c1', c2', c3']
        simp [Ext.meets, c3]
    · have c2' : (a.phys + a.len = b.phys) = False := eq_false c2
      simp only [go_sem, simprocAttr, Ext.ag, e1, e2, c1', c2']
      simp [Ext.meets, c2]
  · have c1' : (a.off + a.len = b.off) = False := eq_false c1
    simp only [go_sem, simprocAttr, Ext.ag, e1, e2, c1']
    simp [Ext.meets, c1]
theorem clip_ok {x : Ext} {f t : Int} (hx : x.ok) (hf : 0 ≤ f ∧ f ≤ 1099511627776) (ht : 0 ≤ t ∧ t ≤ 1099511627776) : Does Tryz.prog 168 #[x.ag, .int .i64 f, .int .i64 t] h (fun u h' => u = .tuple #[(x.clip f t).ag, .bool (decide (x.lies f t))] ∧ h.quiet h') := by
  unfold Ext.ok at hx
  have e1 : IntKind.i64.wrap (x.off + x.len) = x.off + x.len := by rw [wi64] <;> omega
  have e2 : IntKind.i64.wrap (min t (x.off + x.len) - max f x.off) = min t (x.off + x.len) - max f x.off := by rw [wi64] <;> omega
  have e3 : IntKind.i64.wrap (x.phys + max f x.off) = x.phys + max f x.off := by rw [wi64] <;> omega
  have e4 : IntKind.i64.wrap (x.phys + max f x.off - x.off) = x.phys + max f x.off - x.off := by rw [wi64] <;> omega
  refine spec_go mixed Tryz.func168 rfl Tryz.results168 (n := Tryz.f168.ntmps) (by kernel_rfl) (by simp) ?_
  simp only [go_sem, simprocAttr, Ext.ag, e1, e2, e3, e4]
  rfl
theorem both_ok {l r : T} {vl vr : Value} (hn : New S h) (hl : TrAt S h l vl) (hr : TrAt S h r vr) (hb : l.size + r.size ≤ 1099511627775) : Does Tryz.prog 151 #[vl, vr] h (fun u h' => TrAt S h' (T.both l r) u ∧ h.quiet h') := by
  obtain ⟨pr, rfl, _⟩ := hr.ptr
  cases l with
  | nil =>
    obtain rfl : vl = _ := hl
    refine spec_go mixed Tryz.func151 rfl Tryz.results151 (n := Tryz.f151.ntmps) (by kernel_rfl) (by simp) ?_
    simp only [go_sem, simprocAttr, T.both]
    exact hr
  | node ll lx lr =>
    have hl' := hl
    obtain ⟨id, pl, pr', rfl, _⟩ := hl'
    have hs1 : (T.node ll lx lr).size = 1 + ll.size + lr.size := rfl
    have ln := T.last_size ll lx lr
    refine spec_go mixed Tryz.func151 rfl Tryz.results151 (n := Tryz.f151.ntmps) (by kernel_rfl) (by simp) ?_
    simp only [go_sem, simprocAttr]
    refine cl_spec (last_ok lr hn hl (by omega)) (fun _ _ _ hc => absurd hc (by decide +kernel)) ?_
    rintro u k ⟨w, rfl, hw, qw⟩
    obtain ⟨pw, rfl, _⟩ := hw.ptr
    simp only [go_sem, simprocAttr, Ext.ag]
    refine cl_gen fun k1 e1 => ?_
    have q1 : k.quiet k1 := by rw [e1]; simp only [go_sem, simprocAttr]
    clear e1
    refine cl_spec (join_ok _ (Nat.lt_succ_self _) (x := (T.last ll lx lr).2) ((hn.quiet qw).quiet q1) (hw.quiet q1) (hr.quiet (qw.trans q1)) (by omega)) (fun _ _ _ hc => absurd hc (by decide +kernel)) ?_
    rintro u k3 ⟨hj, q3⟩
    simp only [go_sem, simprocAttr]
    exact ⟨hj, qw.trans (q1.trans q3)⟩
end
theorem cnd_gen {Γ : Cx} {x y : Code} {k : List Fr} {ρ : Env} {h : AHeap} {v : Value} (H : ∀ h', h' = h → cnd Γ x y k ρ h' v) : cnd Γ x y k ρ h v := H h rfl
theorem gd_gen {Γ : Cx} {ops : Array Oper} {chk : Nat → Bool} {i : Nat} {o : Oper} {l : List Oper} {k : List Fr} {ρ : Env} {h : AHeap} {b : Bool} (H : ∀ h', h' = h → gd Γ ops chk i o l k ρ h' b) : gd Γ ops chk i o l k ρ h b := H h rfl
theorem cnd_cut {Γ : Cx} {x y : Code} {k : List Fr} {ρ : Env} {h : AHeap} {b : Bool} (J : Env → AHeap → Prop) (h1 : b = true → go Γ x (.jo J :: k) ρ h) (h1' : b = false → go Γ y (.jo J :: k) ρ h) (h2 : ∀ ρ h, J ρ h → nx Γ k ρ h) : cnd Γ x y k ρ h (.bool b) :=
  cnd_split (fun e => go_cut J (h1 e) h2) (fun e => go_cut J (h1' e) h2)
section
variable {h : AHeap} {S S' Z : Nat → Prop}
theorem aeq_nil {t e : TypeId} {p : Option Addr} : aeqS Tryz.prog h 8 t (some (.pointer e)) (.pointer p) (.pointer none) = some p.isNone := by
  cases p <;> rfl
theorem split_ok {o : Int} (ho : 0 ≤ o ∧ o ≤ 1099511627776) : ∀ (t : T) {S : Nat → Prop} {h : AHeap} {v : Value} (hn : New S h) (ht : TrAt S h t v) (hok : t.all Ext.ok) (hb : t.size ≤ 1099511627770), Does Tryz.prog 149 #[v, .int .i64 o] h (fun u h' => ∃ w1 w2, u = .tuple #[w1, w2] ∧ TrAt S h' (T.split o t).1 w1 ∧ TrAt S h' (T.split o t).2 w2 ∧ h.quiet h') := by
  intro t
  induction t with
  | nil =>
    intro S h v hn ht hok hb
    obtain rfl : v = _ := ht
    refine spec_go mixed Tryz.func149 rfl Tryz.results149 (n := Tryz.f149.ntmps) (by kernel_rfl) (by simp) ?_
    simp only [go_sem, simprocAttr]
    exact ⟨_, _, rfl, rfl, rfl⟩
  | node l x r ihl ihr =>
    intro S h v hn ht hok hb
    obtain ⟨id, pl, pr, rfl, hs, hg, hl, hr⟩ := ht
    have lid : id < h.next := AHeap.lt_of_alive h (by rw [hg]; simp)
    have hs3 : (T.node l x r).size = 1 + l.size + r.size := rfl
    obtain ⟨ol, ox, or⟩ := hok
    have ox' := ox
    unfold Ext.ok at ox'
    have e1 : IntKind.i64.wrap (x.off + x.len) = x.off + x.len := by rw [wi64] <;> omega
    obtain ⟨ppl, rfl, _⟩ := hl.ptr
    obtain ⟨ppr, rfl, _⟩ := hr.ptr
    have sl := T.split_size o l
    have sr := T.split_size o r
    refine spec_go mixed Tryz.func149 rfl Tryz.results149 (n := Tryz.f149.ntmps) (by kernel_rfl) (by simp) ?_
    simp only [go_sem, simprocAttr, hg, nodeC]
    unfold T.split
    refine cnd_decide (fun c1 => ?_) (fun c1 => ?_)
    · rw [if_pos c1]
      simp only [go_sem, simprocAttr, hg, nodeC]
      refine cl_spec (ihl hn hl ol (by omega)) (fun _ _ _ hc => absurd hc (by decide +kernel)) ?_
      rintro u k ⟨w1, w2, rfl, h1, h2, q⟩
      have hgk := (q.2 id lid).trans hg
      obtain ⟨p1, rfl, _⟩ := h1.ptr
      obtain ⟨p2, rfl, _⟩ := h2.ptr
      simp only [go_sem, simprocAttr, hgk, nodeC]
      refine cl_spec (join_ok _ (Nat.lt_succ_self _) (x := x) (hn.quiet q) h2 (hr.quiet q) (by omega)) (fun _ _ _ hc => absurd hc (by decide +kernel)) ?_
      rintro u k2 ⟨hj, q2⟩
      simp only [go_sem, simprocAttr]
      exact ⟨_, _, rfl, h1.quiet q2, hj, q.trans q2⟩
    rw [if_neg c1]
    simp only [go_sem, simprocAttr, hg, nodeC, e1]
    refine cnd_decide (fun c2 => ?_) (fun c2 => ?_)
    · rw [if_pos c2]
      simp only [go_sem, simprocAttr, hg, nodeC]
      refine cl_spec (ihr hn hr or (by omega)) (fun _ _ _ hc => absurd hc (by decide +kernel)) ?_
      rintro u k ⟨w1, w2, rfl, h1, h2, q⟩
      have hgk := (q.2 id lid).trans hg
      obtain ⟨p1, rfl, _⟩ := h1.ptr
      obtain ⟨p2, rfl, _⟩ := h2.ptr
      simp only [go_sem, simprocAttr, hgk, nodeC]
      refine cl_spec (join_ok _ (Nat.lt_succ_self _) (x := x) (hn.quiet q) (hl.quiet q) h1 (by omega)) (fun _ _ _ hc => absurd hc (by decide +kernel)) ?_
      rintro u k2 ⟨hj, q2⟩
      simp only [go_sem, simprocAttr]
      exact ⟨_, _, rfl, hj, h2.quiet q2, q.trans q2⟩
    rw [if_neg c2]
    simp only [go_sem, simprocAttr, hg, nodeC]
    refine cl_spec (clip_ok (x := x) ox (by omega) ho) (fun _ _ _ hc => absurd hc (by decide +kernel)) ?_
    rintro u k ⟨rfl, q⟩
    have hgk := (q.2 id lid).trans hg
    have gpk : ∀ o, (k.push o).get id = _ := fun o => (AHeap.get_push_lt _ _ (by have := q.1; omega)).trans hgk
    simp only [go_sem, simprocAttr, gpk, nodeC, Ext.ag]
    refine cl_gen fun k1 e1 => ?_
    have q1 : k.quiet k1 := by rw [e1]; simp only [go_sem, simprocAttr]
    have g1 : k1.get k.next = .cells (x.clip 0 o).cs .rw := by rw [e1]; simp only [go_sem, simprocAttr, Ext.cs]
    have n1 : k1.next = k.next + 1 := by rw [e1]; simp
    clear e1
    refine cl_spec (clip_ok (x := x) ox ho (by omega)) (fun _ _ _ hc => absurd hc (by decide +kernel)) ?_
    rintro u k2 ⟨rfl, q2⟩
    have Q2 := q.trans (q1.trans q2)
    have hgk2 := (Q2.2 id lid).trans hg
    have gpk2 : ∀ o, (k2.push o).get id = _ := fun o => (AHeap.get_push_lt _ _ (by have := Q2.1; omega)).trans hgk2
    have g2 : k2.get k.next = _ := (q2.2 _ (by omega)).trans g1
    have gpx2 : ∀ o, (k2.push o).get k.next = _ := fun o => (AHeap.get_push_lt _ _ (by have := q2.1; omega)).trans g2
    simp only [go_sem, simprocAttr, gpk2, gpx2, nodeC, Ext.ag, Ext.cs]
    refine cl_gen fun k3 e3 => ?_
    have q3 : k2.quiet k3 := by rw [e3]; simp only [go_sem, simprocAttr]
    have g3 : k3.get k2.next = .cells (x.clip o 1024).cs .rw := by rw [e3]; simp only [go_sem, simprocAttr, Ext.cs]
    have n3 : k3.next = k2.next + 1 := by rw [e3]; simp
    clear e3
    have Q3 := Q2.trans q3
    have hgk3 := (Q3.2 id lid).trans hg
    have z0 : T.nil.size = 0 := rfl
    refine cl_spec (join_ok _ (Nat.lt_succ_self _) (x := x.clip 0 o) (r := .nil) (hn.quiet Q3) (hl.quiet Q3) rfl (by omega)) (fun u h' hp _ => hp.2) ?_
    rintro u k4 ⟨hj, q4⟩
    have hgk4 := (q4.2 id (by have := Q3.1; omega)).trans hgk3
    have g4 := (q4.2 k2.next (by omega)).trans g3
    simp only [go_sem, simprocAttr, hgk4, nodeC, g4, Ext.cs]
    refine cl_spec (join_ok _ (Nat.lt_succ_self _) (x := x.clip o 1024) (l := .nil) (hn.quiet (Q3.trans q4)) rfl (hr.quiet (Q3.trans q4)) (by omega)) (fun _ _ _ hc => absurd hc (by decide +kernel)) ?_
    rintro u2 k5 ⟨hj2, q5⟩
    simp only [go_sem, simprocAttr]
    exact ⟨_, _, rfl, hj.quiet q5, hj2, Q3.trans (q4.trans q5)⟩

theorem T.last_ok {P : Ext → Prop} {l : T} {x : Ext} {r : T} (h : (T.node l x r).all P) : (T.last l x r).1.all P ∧ P (T.last l x r).2 := by
  have e := T.last_list r l x
  rw [T.all_list] at h ⊢
  simp only [T.list] at h
  rw [← e] at h
  exact ⟨fun y hy => h y (List.mem_append_left _ hy), h _ (by simp)⟩
theorem T.first_ok {P : Ext → Prop} {l : T} {x : Ext} {r : T} (h : (T.node l x r).all P) : (T.first l x r).2.all P ∧ P (T.first l x r).1 := by
  have e := T.first_list l x r
  rw [T.all_list] at h ⊢
  simp only [T.list] at h
  rw [← e] at h
  exact ⟨fun y hy => h y (List.mem_cons_of_mem _ hy), h _ (by simp)⟩
theorem T.lowOf_ok {l : T} {x : Ext} (hl : l.all Ext.ok) (hx : x.ok) : (T.lowOf l x).1.all Ext.ok ∧ (T.lowOf l x).2.ok ∧ (T.lowOf l x).1.size ≤ l.size := by
  unfold T.lowOf
  cases l with
  | nil => exact ⟨trivial, hx, Nat.le_refl _⟩
  | node ll lx lr =>
    dsimp only
    split
    · rename_i hm
      obtain ⟨h1, h2⟩ := T.last_ok hl
      exact ⟨h1, Ext.ok_with h2 hx hm, by rw [T.last_size]; simp only [T.size]; omega⟩
    · exact ⟨hl, hx, Nat.le_refl _⟩

theorem put_ok {l r : T} {vl vr : Value} {x : Ext} (hn : New S h) (hl : TrAt S h l vl) (hr : TrAt S h r vr) (ol : l.all Ext.ok) (or : r.all Ext.ok) (ox : x.ok) (hb : l.size + r.size ≤ 1099511627775) : Does Tryz.prog 152 #[vl, x.ag, vr] h (fun u h' => TrAt S h' (T.put l x r) u ∧ h.quiet h') := by
  obtain ⟨ppl, rfl, nl⟩ := hl.ptr
  obtain ⟨ppr, rfl, nr⟩ := hr.ptr
  unfold T.put
  obtain ⟨ol2, ox2, sl2⟩ := T.lowOf_ok ol ox
  refine spec_go mixed Tryz.func152 rfl Tryz.results152 (n := Tryz.f152.ntmps) (by kernel_rfl) (by simp) ?_
  simp only [go_sem, simprocAttr, Ext.ag, aeq_nil]
  refine cnd_gen fun h1 e1 => ?_
  have q1 : h.quiet h1 := by rw [e1]; simp only [go_sem, simprocAttr]
  have g1 : h1.get h.next = .cells x.cs .rw := by rw [e1]; simp only [go_sem, simprocAttr, Ext.cs]
  have n1 : h1.next = h.next + 1 := by rw [e1]; simp
  clear e1
  have hl1 := hl.avoid q1
  have hr1 := hr.avoid q1
  have hn1 := hn.avoid (h1 := h1) (by omega)
  generalize hS : (fun j => S j ∧ j ≠ h.next) = S1 at hl1 hr1 hn1
  have hset : ∀ {k : AHeap} {t : T} {v : Value} (o : AObj), TrAt S1 k t v → TrAt S1 (k.set h.next o) t v := fun {k t v} o ht => ht.mono fun j hj _ => ⟨hj, AHeap.get_set_ne _ _ (by subst hS; exact Ne.symm hj.2)⟩
  refine cnd_cut (fun ρ k => ∃ w, TrAt S1 k (T.lowOf l x).1 (.pointer w) ∧ k.get h.next = .cells (T.lowOf l x).2.cs .rw ∧ h.quiet k ∧ h1.next ≤ k.next ∧ TrAt S1 k r (.pointer ppr) ∧ ρ 0 = .pointer w ∧ ρ 2 = .pointer ppr ∧ ρ 4 = .pointer (some ⟨h.next, 0, none⟩)) (fun hc => ?_) (fun hc => ?_) ?_
  · cases l with
    | nil => rw [nl.2 rfl] at hc; cases hc
    | node ll lx lr =>
      have hs1 : (T.node ll lx lr).size = 1 + ll.size + lr.size := rfl
      simp only [go_sem, simprocAttr]
      refine cl_spec (last_ok lr hn1 hl1 (by omega)) (fun _ _ _ hc => absurd hc (by decide +kernel)) ?_
      rintro u k ⟨w, rfl, hw, qw⟩
      obtain ⟨pw, rfl, _⟩ := hw.ptr
      have gk := (qw.2 h.next (by omega)).trans g1
      have gpk : ∀ o, (k.push o).get h.next = _ := fun o => (AHeap.get_push_lt _ _ (by have := qw.1; omega)).trans gk
      simp only [go_sem, simprocAttr, Ext.ag, gpk, Ext.cs]
      refine cl_gen fun k1 e1 => ?_
      have q2 : k.quiet k1 := by rw [e1]; simp only [go_sem, simprocAttr]
      have g2 : k1.get k.next = .cells (T.last ll lx lr).2.cs .rw := by rw [e1]; simp only [go_sem, simprocAttr, Ext.cs]
      have n2 : k1.next = k.next + 1 := by rw [e1]; simp
      clear e1
      obtain ⟨oll, olx⟩ := T.last_ok ol
      refine cl_spec (meets_ok olx ox) (fun _ _ _ hc => absurd hc (by decide +kernel)) ?_
      rintro u k2 ⟨rfl, q3⟩
      have g3 := (q3.2 k.next (by omega)).trans g2
      have Q := qw.trans (q2.trans q3)
      have gk2 := (Q.2 h.next (by omega)).trans g1
      have lk2 : h.next < k2.next := by have := Q.1; omega
      have ew : IntKind.i64.wrap ((T.last ll lx lr).2.len + x.len) = (T.last ll lx lr).2.len + x.len := by
        have olx' := olx; have ox' := ox; unfold Ext.ok at olx' ox'; rw [wi64] <;> omega
      by_cases hm : (T.last ll lx lr).2.meets x
      · have em : T.lowOf (.node ll lx lr) x = ((T.last ll lx lr).1, (T.last ll lx lr).2.with x) := by simp only [T.lowOf, if_pos hm]
        simp only [go_sem, simprocAttr, decide_eq_true hm, g3, gk2, Ext.cs, ew]
        rw [em]
        exact Hold.mk ⟨_, hset _ (hw.quiet (q2.trans q3)), AHeap.get_set_self _ _ lk2, (q1.trans Q).set' (Nat.le_refl _) _, by simpa using Q.1, hset _ (hr1.quiet Q), by simp only [go_sem, simprocAttr]⟩
      · have em : T.lowOf (.node ll lx lr) x = (.node ll lx lr, x) := by simp only [T.lowOf, if_neg hm]
        simp only [go_sem, simprocAttr, decide_eq_false hm]
        rw [em]
        exact Hold.mk ⟨_, hl1.quiet Q, gk2, q1.trans Q, Q.1, hr1.quiet Q, by simp only [go_sem, simprocAttr]⟩
  · cases l with
    | node ll lx lr => simp at hc; exact absurd (nl.1 hc) (by simp)
    | nil =>
      simp only [go_sem, simprocAttr]
      exact Hold.mk ⟨_, hl1, g1, q1, Nat.le_refl _, hr1, by simp only [go_sem, simprocAttr]⟩
  generalize (T.lowOf l x).1 = L at sl2 ol2
  generalize (T.lowOf l x).2 = y at ox2
  rintro ρ k ⟨w, hw, gk, Q, hn2, hrk, r0, r2, r4⟩
  simp only [go_sem, simprocAttr, r0, r2, r4, aeq_nil]
  have lk : h.next < k.next := by omega
  refine cnd_cut (fun ρ k => ∃ w2, TrAt S1 k L (.pointer w) ∧ k.get h.next = .cells (T.highOf y r).1.cs .rw ∧ h.quiet k ∧ h1.next ≤ k.next ∧ TrAt S1 k (T.highOf y r).2 (.pointer w2) ∧ (T.highOf y r).2.size ≤ r.size ∧ ρ 0 = .pointer w ∧ ρ 2 = .pointer w2 ∧ ρ 4 = .pointer (some ⟨h.next, 0, none⟩)) (fun hc => ?_) (fun hc => ?_) ?_
  · cases r with
    | nil => rw [nr.2 rfl] at hc; cases hc
    | node rl rx rr =>
      have hs1 : (T.node rl rx rr).size = 1 + rl.size + rr.size := rfl
      simp only [go_sem, simprocAttr, r2]
      have hnk : New S1 k := fun j hj => hn1 j (by omega)
      refine cl_spec (first_ok rl hnk hrk (by omega)) (fun _ _ _ hc => absurd hc (by decide +kernel)) ?_
      rintro u k3 ⟨w3, rfl, hw3, qw⟩
      obtain ⟨pw, rfl, _⟩ := hw3.ptr
      have gk3 := (qw.2 h.next (by omega)).trans gk
      have gpk : ∀ o, (k3.push o).get h.next = _ := fun o => (AHeap.get_push_lt _ _ (by have := qw.1; omega)).trans gk3
      simp only [go_sem, simprocAttr, Ext.ag, gpk, Ext.cs, r4]
      refine cl_gen fun k1 e1 => ?_
      have q2 : k3.quiet k1 := by rw [e1]; simp only [go_sem, simprocAttr]
      have g2 : k1.get k3.next = .cells (T.first rl rx rr).1.cs .rw := by rw [e1]; simp only [go_sem, simprocAttr, Ext.cs]
      have n2 : k1.next = k3.next + 1 := by rw [e1]; simp
      clear e1
      obtain ⟨oll, olx⟩ := T.first_ok or
      have fs := T.first_size rl rx rr
      refine cl_spec (meets_ok ox2 olx) (fun _ _ _ hc => absurd hc (by decide +kernel)) ?_
      rintro u k2 ⟨rfl, q3⟩
      have g3 := (q3.2 k3.next (by omega)).trans g2
      have Q2 := qw.trans (q2.trans q3)
      have gk2 := (Q2.2 h.next (by omega)).trans gk
      have lk2 : h.next < k2.next := by have := Q2.1; omega
      have ew : IntKind.i64.wrap (y.len + (T.first rl rx rr).1.len) = y.len + (T.first rl rx rr).1.len := by
        have olx' := olx; have ox' := ox2; unfold Ext.ok at olx' ox'; rw [wi64] <;> omega
      by_cases hm : y.meets (T.first rl rx rr).1
      · have em : T.highOf y (.node rl rx rr) = (y.with (T.first rl rx rr).1, (T.first rl rx rr).2) := by simp only [T.highOf, if_pos hm]
        simp only [go_sem, simprocAttr, decide_eq_true hm, g3, gk2, Ext.cs, ew, r0, r4]
        rw [em]
        exact Hold.mk ⟨_, hset _ (hw.quiet Q2), AHeap.get_set_self _ _ lk2, (Q.trans Q2).set' (Nat.le_refl _) _, by have := Q2.1; simp; omega, hset _ (hw3.quiet (q2.trans q3)), by dsimp only; omega, by simp only [go_sem, simprocAttr, r0, r4]⟩
      · have em : T.highOf y (.node rl rx rr) = (y, .node rl rx rr) := by simp only [T.highOf, if_neg hm]
        simp only [go_sem, simprocAttr, decide_eq_false hm]
        rw [em]
        exact Hold.mk ⟨_, hw.quiet Q2, gk2, Q.trans Q2, by have := Q2.1; omega, hrk.quiet Q2, Nat.le_refl _, by simp only [go_sem, simprocAttr, r0, r2, r4]⟩
  · cases r with
    | node ll lx lr => simp at hc; exact absurd (nr.1 hc) (by simp)
    | nil =>
      simp only [go_sem, simprocAttr]
      exact Hold.mk ⟨_, hw, gk, Q, hn2, hrk, Nat.le_refl _, r0, r2, r4⟩
  generalize (T.highOf y r).1 = z
  generalize (T.highOf y r).2 = R
  rintro ρ k3 ⟨w2, hw2, gk3, Q3, hn3, hrk3, szR, r0, r2, r4⟩
  simp only [go_sem, simprocAttr, r0, r2, r4, gk3, Ext.cs]
  refine cl_spec (join_ok _ (Nat.lt_succ_self _) (x := z) (fun j hj => hn1 j (by omega)) hw2 hrk3 (by omega)) (fun _ _ _ hc => absurd hc (by decide +kernel)) ?_
  rintro u k4 ⟨hj, q4⟩
  simp only [go_sem, simprocAttr]
  exact ⟨hj.weaken fun j hj => by subst hS; exact hj.1, Q3.trans q4⟩
end

/-- A list of one's own. -/
def OwnL {α : Type} (r : Rep α) (Z : Nat → Prop) (h : AHeap) (xs : List α) (v : Value) : Prop := Lst r 0 (fun _ => False) h xs v ∧ ∀ j, blk v = some j → Z j
theorem OwnL.mono {α : Type} {r : Rep α} {Z Z' : Nat → Prop} {h h' : AHeap} {xs : List α} {v : Value} (ho : OwnL r Z h xs v) (hn : h.next ≤ h'.next) (hm : ∀ j, Z j → j < h.next → Z' j ∧ h'.get j = h.get j) : OwnL r Z' h' xs v :=
  ⟨ho.1.mono (Nat.le_refl _) hn (fun _ e _ _ => e.elim) (fun j hj hl => (hm j (ho.2 j hj) hl).2), fun j hj => (hm j (ho.2 j hj) (ho.1.blk_ge hj).2).1⟩
theorem OwnL.nil {α : Type} (r : Rep α) (Z : Nat → Prop) (h : AHeap) : OwnL r Z h [] (.slice none 0 0) := ⟨.nil _ _ _ _, fun j e => by cases e⟩
theorem OwnL.sl {α : Type} {r : Rep α} {Z : Nat → Prop} {h : AHeap} {xs : List α} {v : Value} (ho : OwnL r Z h xs v) : IsSl r (fun _ => True) h xs v := ho.1.isSl (fun _ _ _ => trivial) (fun _ _ => trivial)
theorem OwnL.lt {α : Type} {r : Rep α} {Z : Nat → Prop} {h : AHeap} {xs : List α} {v : Value} (ho : OwnL r Z h xs v) {j : Nat} (hj : blk v = some j) : j < h.next := (ho.1.blk_ge hj).2
theorem OwnL.slz {α : Type} {r : Rep α} {Z : Nat → Prop} {h : AHeap} {xs : List α} {v : Value} (ho : OwnL r Z h xs v) : IsSl r Z h xs v := by
  obtain ⟨⟨css, ha, h0, ⟨a, rfl, rfl, k⟩ | ⟨ob, rfl, hlo, hg⟩⟩, hz⟩ := ho
  · exact .empty fun ad e => .inl (k ad e).1
  · refine ⟨_, _, css, rfl, Nat.le_refl _, Nat.le_trans h0 (by decide), (fun h => by cases h), (fun ad h => by cases h; exact .inr rfl), ?_, fun _ => ⟨_, _, _, rfl, hz _ rfl, hg, ?_, ?_⟩⟩
    · exact ha.moves fun j hj hl => hj.1.elim
    · rw [ha.flat]; simp
    · rw [List.drop_zero, List.take_of_length_le]; rw [ha.flat]; exact Nat.le_refl _
/-- One more, behind a box. -/
theorem OwnL.app2 {α : Type} {r : Rep α} {Z : Nat → Prop} {h : AHeap} {xs : List α} {v : Value} {y : α} {cs : List Value} {bytes : Nat} (ho : OwnL r Z h xs v) (sz : Nat) (hsz : r.sz = sz) (hy : ∀ k, r.R (fun _ => False) k y cs) (hb : (xs.length + 1) * bytes ≤ 140737488355328) (h62 : xs.length + 1 ≤ 281474976710656) :
    ∃ v' h', aappend (h.push (.cells cs .rw)) sz bytes v 1 cs = some (v', h') ∧ OwnL r (up Z h) h' (xs ++ [y]) v' ∧ Fw (fun j => blk v = some j) h h' ∧ (blk v' = blk v ∨ ∃ ob, blk v' = some ob ∧ h.next ≤ ob) ∧ ∃ a n c, v' = .slice a n c := by
  have q := AHeap.quiet.push h (.cells cs .rw)
  have ho2 := ho.mono q.1 (fun j hj hl => ⟨hj, q.2 j hl⟩)
  obtain ⟨v', h', e, hl, hf, hn⟩ := ho2.1.app1 (y := y) (cs := cs) (bytes := bytes) sz hsz (r.weaken (hy _) (fun _ e => e.elim)) hb h62 (Nat.zero_le _)
  have hn' : blk v' = blk v ∨ ∃ ob, blk v' = some ob ∧ h.next ≤ ob := hn.imp id fun ⟨ob, h1, h2⟩ => ⟨ob, h1, by have := q.1; omega⟩
  obtain ⟨a, c, rfl, _⟩ := hl.len
  refine ⟨_, h', e, ⟨hl, fun j hj => ?_⟩, hf.after q, hn', _, _, _, rfl⟩
  rcases hn' with hn | ⟨ob, hn, hge⟩
  · exact .inl (ho.2 j (hn ▸ hj))
  · rw [hn] at hj; cases hj; exact .inr hge

def rExt : Rep Ext := (Rep.pair rI (.pair rI (.pair rI rI))).via fun x => (x.off, x.len, x.phys, x.birth)
def Ext.inI (x : Ext) : Prop := Proofs.YtedpfdflolkpeaaGreatDoor.inI x.off ∧ Proofs.YtedpfdflolkpeaaGreatDoor.inI x.len ∧ Proofs.YtedpfdflolkpeaaGreatDoor.inI x.phys ∧ Proofs.YtedpfdflolkpeaaGreatDoor.inI x.birth
theorem rExt_iff {S : Nat → Prop} {h : AHeap} {x : Ext} {cs : List Value} : rExt.R S h x cs ↔ cs = x.cs ∧ x.inI := by
  constructor
  · rintro ⟨c1, c2, rfl, ⟨rfl, h1⟩, c3, c4, rfl, ⟨rfl, h2⟩, c5, c6, rfl, ⟨rfl, h3⟩, ⟨rfl, h4⟩⟩
    exact ⟨rfl, inI_iff.2 h1, inI_iff.2 h2, inI_iff.2 h3, inI_iff.2 h4⟩
  · rintro ⟨rfl, h1, h2, h3, h4⟩
    exact ⟨[_], [_, _, _], rfl, ⟨rfl, inI_iff.1 h1⟩, [_], [_, _], rfl, ⟨rfl, inI_iff.1 h2⟩, [_], [_], rfl, ⟨rfl, inI_iff.1 h3⟩, ⟨rfl, inI_iff.1 h4⟩⟩
theorem Ext.ok.inI {x : Ext} (h : x.ok) : x.inI := by
  unfold Ext.ok at h
  refine ⟨⟨by omega, by omega⟩, ⟨by omega, by omega⟩, ⟨by omega, by omega⟩, ⟨by omega, by omega⟩⟩

theorem ite_len {α : Type} {p : Prop} [Decidable p] {l : List α} {n : Nat} (h : l.length ≤ n) : (if p then l else []).length ≤ n := by
  split
  · exact h
  · exact Nat.zero_le _
theorem OwnL.set {α : Type} {r : Rep α} {Z : Nat → Prop} {h : AHeap} {xs : List α} {v : Value} (ho : OwnL r Z h xs v) {n : Nat} (hne : blk v ≠ some n) (o : AObj) : OwnL r Z (h.set n o) xs v :=
  ⟨ho.1.mono (Nat.le_refl _) (by simp) (fun _ e _ _ => e.elim) (fun j hj _ => AHeap.get_set_ne _ _ (by rintro rfl; exact hne hj)), ho.2⟩
theorem OwnL.weaken {α : Type} {r : Rep α} {Z Z' : Nat → Prop} {h : AHeap} {xs : List α} {v : Value} (ho : OwnL r Z h xs v) (hm : ∀ j, Z j → Z' j) : OwnL r Z' h xs v := ⟨ho.1, fun j hj => hm j (ho.2 j hj)⟩
def T.parts (f t : Int) : T → List Ext
  | .nil => []
  | .node l x r => (if f < x.off then l.parts f t else []) ++ ((if x.lies f t then [x.clip f t] else []) ++ (if x.off + x.len < t then r.parts f t else []))
theorem T.parts_len (f t : Int) : ∀ a : T, (a.parts f t).length ≤ a.size
  | .nil => Nat.le_refl _
  | .node l x r => by
    have := l.parts_len f t; have := r.parts_len f t
    simp only [T.parts, T.size, List.length_append]
    have h1 : (if f < x.off then l.parts f t else []).length ≤ l.size := ite_len (by omega)
    have h2 : (if x.lies f t then [x.clip f t] else []).length ≤ 1 := ite_len (Nat.le_refl 1)
    have h3 : (if x.off + x.len < t then r.parts f t else []).length ≤ r.size := ite_len (by omega)
    omega

section
variable {h h0 : AHeap} {S S' Z : Nat → Prop}
def clo (b : Nat) : Value := .func (.func 159) #[] #[.pointer (some ⟨b, 0, none⟩)]
/-- A cell with a list that grows. -/
def Out (h0 h : AHeap) (b : Nat) (out : List Ext) : Prop := h0.quiet h ∧ h0.next ≤ b ∧ ∃ v, h.get b = .cells [v] .rw ∧ OwnL rExt (h0.next ≤ ·) h out v ∧ blk v ≠ some b
theorem Out.quiet {h' : AHeap} {b : Nat} {out : List Ext} (o : Out h0 h b out) (q : h.quiet h') : Out h0 h' b out := by
  obtain ⟨q0, hb, v, hg, ho, hne⟩ := o
  exact ⟨q0.trans q, hb, v, (q.2 b (AHeap.lt_of_alive h (by rw [hg]; simp))).trans hg, ho.mono q.1 fun j hj hl => ⟨hj, q.2 j hl⟩, hne⟩
theorem part1_ok {b : Nat} {out : List Ext} {x : Ext} (ho : Out h0 h b out) (hx : x.inI) (hl : out.length ≤ 1099511627776) : Does Tryz.prog 159 #[x.ag, .pointer (some ⟨b, 0, none⟩)] h (fun u h' => u = .tuple #[] ∧ Out h0 h' b (out ++ [x])) := by
  obtain ⟨q0, hb, v, hg, ho, hne⟩ := ho
  obtain ⟨av, cv, rfl⟩ := ho.sl.shape
  have lb : b < h.next := AHeap.lt_of_alive h (by rw [hg]; simp)
  have q1 := AHeap.quiet.push h (.cells x.cs .rw)
  obtain ⟨v', h', e, ho', f, hn, a2, n2, c2, rfl⟩ := (ho.mono q1.1 (fun j hj hl => ⟨hj, q1.2 j hl⟩)).app2 (bytes := 32) (y := x) (cs := x.cs) 4 rfl (fun _ => rExt_iff.2 ⟨rfl, hx⟩) (by omega) (by omega)
  have gp : (h.push (.cells x.cs .rw)).get b = _ := (q1.2 b lb).trans hg
  have g1 : (h.push (.cells x.cs .rw)).get h.next = .cells x.cs .rw := AHeap.get_push_self _ _
  have lb1 : b < (h.push (.cells x.cs .rw)).next := by have := q1.1; omega
  have gf : h'.get b = _ := (f.2 b lb1 hne).trans gp
  have lb2 : b < h'.next := by have := f.1; omega
  have qf : h0.quiet h' := ⟨Nat.le_trans q0.1 (Nat.le_trans q1.1 f.1), fun j hj => (f.2 j (by have := q0.1; have := q1.1; omega) (fun e => by have := ho.2 j e; omega)).trans ((q0.trans q1).2 j hj)⟩
  have gs := fun o => AHeap.get_set_self h' o lb2
  have hne' : blk (.slice a2 n2 c2) ≠ some b := by
    rcases hn with hn | ⟨ob, hn, hge⟩
    · rw [hn]; exact hne
    · rw [hn]; intro e; cases e; omega
  unfold Ext.cs at e gp g1
  refine spec_go mixed Tryz.func159 rfl Tryz.results159 (n := Tryz.f159.ntmps) (by kernel_rfl) (by simp) ?_
  simp only [go_sem, simprocAttr, Ext.ag, gp, e, gf]
  exact ⟨qf.set' hb _, hb, _, gs _, (ho'.set hne' _).weaken (fun j hj => hj.elim (fun e => e) (fun e => by have := q0.1; have := q1.1; omega)), hne'⟩

/-- Handing on the parts of a tree. -/
theorem walk_ok {f t : Int} (hf : 0 ≤ f ∧ f ≤ 1099511627776) (ht : 0 ≤ t ∧ t ≤ 1099511627776) {b : Nat} : ∀ (a : T) {S : Nat → Prop} {h : AHeap} {v : Value} {out : List Ext} (ha : TrAt S h0 a v) (hok : a.all Ext.ok) (ho : Out h0 h b out) (hl : out.length + a.size ≤ 1099511627776),
    Does Tryz.prog 158 #[v, .int .i64 f, .int .i64 t, clo b] h (fun u h' => u = .tuple #[] ∧ Out h0 h' b (out ++ a.parts f t)) := by
  intro a
  induction a with
  | nil =>
    intro S h v out ha hok ho hl
    obtain rfl : v = _ := ha
    refine spec_go mixed Tryz.func158 rfl Tryz.results158 (n := Tryz.f158.ntmps) (by kernel_rfl) (by simp) ?_
    simp only [go_sem, simprocAttr]
    simpa [T.parts] using ho
  | node l x r ihl ihr =>
    intro S h v out ha hok ho hl
    obtain ⟨id, pl, pr, rfl, hs, hg, hal, har⟩ := ha
    have lid : id < h0.next := AHeap.lt_of_alive h0 (by rw [hg]; simp)
    have hs3 : (T.node l x r).size = 1 + l.size + r.size := rfl
    obtain ⟨ol, ox, or⟩ := hok
    have ox' := ox
    unfold Ext.ok at ox'
    have e1 : IntKind.i64.wrap (x.off + x.len) = x.off + x.len := by rw [wi64] <;> omega
    have hgh := (ho.1.2 id lid).trans hg
    have pl1 := l.parts_len f t
    obtain ⟨ppl, rfl, _⟩ := hal.ptr
    obtain ⟨ppr, rfl, _⟩ := har.ptr
    unfold T.parts
    refine spec_go mixed Tryz.func158 rfl Tryz.results158 (n := Tryz.f158.ntmps) (by kernel_rfl) (by simp) ?_
    simp only [go_sem, simprocAttr, hgh, nodeC, clo]
    refine cnd_cut (fun ρ k => Out h0 k b (out ++ if f < x.off then l.parts f t else []) ∧ ρ 0 = .pointer (some ⟨id, 0, none⟩) ∧ ρ 1 = .int .i64 f ∧ ρ 2 = .int .i64 t ∧ ρ 3 = clo b) (fun hc => ?_) (fun hc => ?_) ?_
    · have c1 : f < x.off := of_decide_eq_true hc
      rw [if_pos c1]
      simp only [go_sem, simprocAttr, hgh, nodeC]
      refine cl_spec (ihl hal ol ho (by omega)) (fun _ _ _ hc => absurd hc (by decide +kernel)) ?_
      rintro u k ⟨rfl, ho1⟩
      simp only [go_sem, simprocAttr]
      exact Hold.mk ⟨ho1, by simp only [go_sem, simprocAttr, clo]⟩
    · have c1 : ¬ f < x.off := of_decide_eq_false hc
      rw [if_neg c1, List.append_nil]
      simp only [go_sem, simprocAttr]
      exact Hold.mk ⟨ho, by simp only [go_sem, simprocAttr, clo]⟩
    have hle1 : (if f < x.off then l.parts f t else []).length ≤ l.size := ite_len (by omega)
    generalize (if f < x.off then l.parts f t else []) = A at hle1
    rintro ρ k ⟨ho1, r0, r1, r2, r3⟩
    have hgk := (ho1.1.2 id lid).trans hg
    simp only [go_sem, simprocAttr, r0, r1, r2, r3, hgk, nodeC]
    refine cl_spec (clip_ok (x := x) ox hf ht) (fun _ _ _ hc => absurd hc (by decide +kernel)) ?_
    rintro u k2 ⟨rfl, q2⟩
    have ho2 := ho1.quiet q2
    simp only [go_sem, simprocAttr, Ext.ag]
    refine cnd_gen fun k3 e3 => ?_
    have q3 : k2.quiet k3 := by rw [e3]; simp only [go_sem, simprocAttr]
    have g3 : k3.get k2.next = .cells (x.clip f t).cs .rw := by rw [e3]; simp only [go_sem, simprocAttr, Ext.cs]
    clear e3
    have ho3 := ho2.quiet q3
    refine cnd_cut (fun ρ k => Out h0 k b (out ++ A ++ if x.lies f t then [x.clip f t] else []) ∧ ρ 0 = .pointer (some ⟨id, 0, none⟩) ∧ ρ 1 = .int .i64 f ∧ ρ 2 = .int .i64 t ∧ ρ 3 = clo b) (fun hc => ?_) (fun hc => ?_) ?_
    · have c1 : x.lies f t := of_decide_eq_true hc
      rw [if_pos c1]
      simp only [go_sem, simprocAttr, r3, clo, g3, Ext.cs]
      refine cl_spec (part1_ok ho3 (Ext.ok_clip ox c1).inI (by rw [List.length_append]; omega)) (fun _ _ _ hc => absurd hc (by decide +kernel)) ?_
      rintro u k4 ⟨rfl, ho4⟩
      simp only [go_sem, simprocAttr]
      exact Hold.mk ⟨ho4, by simp only [go_sem, simprocAttr, r0, r1, r2, r3, clo]⟩
    · have c1 : ¬ x.lies f t := of_decide_eq_false hc
      rw [if_neg c1, List.append_nil]
      simp only [go_sem, simprocAttr]
      exact Hold.mk ⟨ho3, by simp only [go_sem, simprocAttr, r0, r1, r2, r3, clo]⟩
    have hle2 : (if x.lies f t then [x.clip f t] else []).length ≤ 1 := ite_len (Nat.le_refl 1)
    generalize (if x.lies f t then [x.clip f t] else []) = B at hle2
    rintro ρ k5 ⟨ho5, r0, r1, r2, r3⟩
    have hgk5 := (ho5.1.2 id lid).trans hg
    simp only [go_sem, simprocAttr, r0, r1, r2, r3, hgk5, nodeC, e1]
    refine cnd_decide (fun hc => ?_) (fun hc => ?_)
    · rw [if_pos hc]
      simp only [go_sem, simprocAttr, r0, r1, r2, r3, hgk5, nodeC]
      refine cl_spec (ihr har or ho5 (by rw [List.length_append, List.length_append]; omega)) (fun _ _ _ hc => absurd hc (by decide +kernel)) ?_
      rintro u k6 ⟨rfl, ho6⟩
      simp only [go_sem, simprocAttr]
      simpa using ho6
    · rw [if_neg hc]
      simp only [go_sem, simprocAttr]
      simpa using ho5
end

def Blks (off n : Int) : Prop := 0 ≤ off ∧ 1 ≤ n ∧ off + n ≤ 1024
instance (a b : Int) : Decidable (Blks a b) := inferInstanceAs (Decidable (_ ∧ _))
instance (x : Ext) : Decidable x.ok := inferInstanceAs (Decidable (_ ∧ _))
/-- A list, from some block on. -/
def Lis : Int → List Ext → Prop
  | _, [] => True
  | z, x :: l => x.ok ∧ z ≤ x.off ∧ Lis (x.off + x.len) l
def Adj : List Ext → Prop
  | [] => True
  | [_] => True
  | x :: y :: l => ¬ x.meets y ∧ Adj (y :: l)
def RightL (l : List Ext) : Prop := l.length ≤ 1024 ∧ Lis 0 l ∧ Adj l

theorem IsSl.atX {S : Nat → Prop} {h : AHeap} {xs : List Ext} {a : Option Addr} {n cap : Nat} (hs : IsSl rExt S h xs (.slice a n cap)) {i : Nat} (hi : i < n) :
    ∃ b off sp c md x, a = some ⟨b, off, sp⟩ ∧ S b ∧ h.get b = .cells c md ∧ xs[i]? = some x ∧ x.inI ∧ off + i * 4 + 4 ≤ c.length ∧ (c.drop (off + i * 4)).take 4 = x.cs := by
  obtain ⟨b, off, sp, c, md, cs, x, h1, h2, h3, h4, h5, h6, h7⟩ := hs.at 4 rfl hi
  obtain ⟨rfl, h8⟩ := rExt_iff.1 h5
  exact ⟨b, off, sp, c, md, x, h1, h2, h3, h4, h8, h6, h7⟩

theorem ans_no {P : Prop} (h : ¬ P) : ∃ b : Bool, Value.bool false = .bool b ∧ (b = true ↔ P) := ⟨false, rfl, by simp [h]⟩
theorem ans_yes {P : Prop} (h : P) : ∃ b : Bool, Value.bool true = .bool b ∧ (b = true ↔ P) := ⟨true, rfl, by simp [h]⟩
section
variable {h h0 : AHeap} {S S' Z : Nat → Prop}
theorem blocks_ok {off n : Int} (hn : inI n) (ho : inI off) : Does Tryz.prog 164 #[.int .i64 off, .int .i64 n] h (fun u h' => u = .bool (decide (Blks off n)) ∧ h' = h) := by
  refine spec_go mixed Tryz.func164 rfl Tryz.results164 (n := Tryz.f164.ntmps) (by kernel_rfl) (by simp) ?_
  unfold inI at *
  by_cases c1 : 0 ≤ off
  · by_cases c2 : off < 1024
    · have e1 : IntKind.i64.wrap (1024 - off) = 1024 - off := by rw [wi64] <;> omega
      by_cases c3 : 1 ≤ n
      · by_cases c4 : n ≤ 1024 - off
        · simp only [go_sem, simprocAttr, decide_eq_true c1, decide_eq_true c2, decide_eq_true c3, e1, decide_eq_true c4]
          exact congrArg Value.bool (decide_eq_true (by unfold Blks; omega)).symm
        · simp only [go_sem, simprocAttr, decide_eq_true c1, decide_eq_true c2, decide_eq_true c3, e1, decide_eq_false c4]
          exact congrArg Value.bool (decide_eq_false (by unfold Blks; omega)).symm
      · simp only [go_sem, simprocAttr, decide_eq_true c1, decide_eq_true c2, decide_eq_false c3]
        exact congrArg Value.bool (decide_eq_false (by unfold Blks; omega)).symm
    · simp only [go_sem, simprocAttr, decide_eq_true c1, decide_eq_false c2]
      exact congrArg Value.bool (decide_eq_false (by unfold Blks; omega)).symm
  · simp only [go_sem, simprocAttr, decide_eq_false c1]
    exact congrArg Value.bool (decide_eq_false (by unfold Blks; omega)).symm
theorem may_ok {x : Ext} (hx : x.inI) : Does Tryz.prog 172 #[x.ag] h (fun u h' => u = .bool (decide x.ok) ∧ h.quiet h') := by
  obtain ⟨x1, x2, x3, x4⟩ := hx
  refine spec_go mixed Tryz.func172 rfl Tryz.results172 (n := Tryz.f172.ntmps) (by kernel_rfl) (by simp) ?_
  simp only [go_sem, simprocAttr, Ext.ag]
  refine cl_spec (blocks_ok x2 x1) (fun _ _ _ hc => absurd hc (by decide +kernel)) ?_
  rintro u k ⟨rfl, hk⟩
  obtain rfl : _ = k := hk.symm
  by_cases c0 : Blks x.off x.len
  · have c0' := c0
    unfold Blks at c0'
    have e1 : IntKind.i64.wrap (1099511627776 - x.len) = 1099511627776 - x.len := by rw [wi64] <;> omega
    by_cases c1 : 0 ≤ x.phys
    · by_cases c2 : x.phys ≤ 1099511627776 - x.len
      · by_cases c3 : 0 ≤ x.birth
        · by_cases c4 : x.birth ≤ 1099511627776
          · simp only [go_sem, simprocAttr, decide_eq_true c0, decide_eq_true c1, e1, decide_eq_true c2, decide_eq_true c3, decide_eq_true c4]
            exact congrArg Value.bool (decide_eq_true (by unfold Ext.ok; omega)).symm
          · simp only [go_sem, simprocAttr, decide_eq_true c0, decide_eq_true c1, e1, decide_eq_true c2, decide_eq_true c3, decide_eq_false c4]
            exact congrArg Value.bool (decide_eq_false (by unfold Ext.ok; omega)).symm
        · simp only [go_sem, simprocAttr, decide_eq_true c0, decide_eq_true c1, e1, decide_eq_true c2, decide_eq_false c3]
          exact congrArg Value.bool (decide_eq_false (by unfold Ext.ok; omega)).symm
      · simp only [go_sem, simprocAttr, decide_eq_true c0, decide_eq_true c1, e1, decide_eq_false c2]
        exact congrArg Value.bool (decide_eq_false (by unfold Ext.ok; omega)).symm
    · simp only [go_sem, simprocAttr, decide_eq_true c0, decide_eq_false c1]
      exact congrArg Value.bool (decide_eq_false (by unfold Ext.ok; omega)).symm
  · simp only [go_sem, simprocAttr, decide_eq_false c0]
    exact congrArg Value.bool (decide_eq_false (by unfold Ext.ok; unfold Blks at c0; omega)).symm
theorem end_ok {x : Ext} (hx : x.ok) : Does Tryz.prog 173 #[x.ag] h (fun u h' => u = .int .i64 (x.off + x.len) ∧ h.quiet h') := by
  unfold Ext.ok at hx
  have e1 : IntKind.i64.wrap (x.off + x.len) = x.off + x.len := by rw [wi64] <;> omega
  refine spec_go mixed Tryz.func173 rfl Tryz.results173 (n := Tryz.f173.ntmps) (by kernel_rfl) (by simp) ?_
  simp only [go_sem, simprocAttr, Ext.ag, e1]
theorem emeets_ok {a b : Ext} (ha : a.ok) (hb : b.ok) : Does Tryz.prog 161 #[a.ag, b.ag] h (fun u h' => u = .bool (decide (a.meets b)) ∧ h.quiet h') := by
  have ha' := ha
  have hb' := hb
  unfold Ext.ok at ha' hb'
  have e2 : IntKind.i64.wrap (a.phys + a.len) = a.phys + a.len := by rw [wi64] <;> omega
  refine spec_go mixed Tryz.func161 rfl Tryz.results161 (n := Tryz.f161.ntmps) (by kernel_rfl) (by simp) ?_
  simp only [go_sem, simprocAttr, Ext.ag]
  refine cl_gen fun k1 e1 => ?_
  have q1 : h.quiet k1 := by rw [e1]; simp only [go_sem, simprocAttr]
  have ga : k1.get h.next = .cells a.cs .rw := by rw [e1]; simp only [go_sem, simprocAttr, Ext.cs]
  have gb : k1.get (h.next + 1) = .cells b.cs .rw := by rw [e1]; simp only [go_sem, simprocAttr, Ext.cs]
  have n1 : k1.next = h.next + 2 := by rw [e1]; simp
  clear e1
  refine cl_spec (end_ok ha) (fun u h' hp _ => hp.2) ?_
  rintro u k ⟨rfl, qk⟩
  have ga := (qk.2 _ (by omega)).trans ga
  have gb := (qk.2 _ (by omega)).trans gb
  unfold Ext.cs at ga gb
  by_cases c1 : a.off + a.len = b.off
  · have c1' : (a.off + a.len = b.off) = True := eq_true c1
    by_cases c2 : a.phys + a.len = b.phys
    · have c2' : (a.phys + a.len = b.phys) = True := eq_true c2
      by_cases c3 : a.birth = b.birth
      · have c3' : (a.birth = b.birth) = True := eq_true c3
        simp only [go_sem, simprocAttr, ga, gb, e2, c1', c2', c3']
        exact ⟨congrArg Value.bool (decide_eq_true ⟨c1, c2, c3⟩).symm, q1.trans qk⟩
      · have c3' : (a.birth = b.birth) = False := eq_false c3
        simp only [go_sem, simprocAttr, ga, gb, e2, c1', c2', c3']
        exact ⟨congrArg Value.bool (decide_eq_false (fun e => c3 e.2.2)).symm, q1.trans qk⟩
    · have c2' : (a.phys + a.len = b.phys) = False := eq_false c2
      simp only [go_sem, simprocAttr, ga, gb, e2, c1', c2']
      exact ⟨congrArg Value.bool (decide_eq_false (fun e => c2 e.2.1)).symm, q1.trans qk⟩
  · have c1' : (a.off + a.len = b.off) = False := eq_false c1
    simp only [go_sem, simprocAttr, ga, gb, c1']
    exact ⟨congrArg Value.bool (decide_eq_false (fun e => c1 e.1)).symm, q1.trans qk⟩

theorem isList_ok {xs : List Ext} {v : Value} (hx : IsSl rExt S h xs v) : Does Tryz.prog 160 #[v] h (fun u h' => (∃ b : Bool, u = .bool b ∧ (b = true ↔ Lis 0 xs)) ∧ h.quiet h') := by
  obtain ⟨a, c, rfl⟩ := hx.shape
  have hlen := hx.len
  refine spec_go mixed Tryz.func160 rfl Tryz.results160 (n := Tryz.f160.ntmps) (by kernel_rfl) (by simp) ?_
  simp only [go_sem, simprocAttr]
  refine go_loop (fun z ρ k => ∃ (i : Nat) (la : Int), i ≤ xs.length ∧ z = xs.length - i ∧ h.quiet k ∧ (Lis 0 xs ↔ Lis la (xs.drop i)) ∧ ρ 3 = .int .i64 la ∧ ρ 6 = .slice a xs.length c ∧ ρ 7 = .int .i64 xs.length ∧ ρ 8 = .int .i64 i) xs.length ⟨0, 0, by omega, by omega, .refl _, by simp, by simp only [go_sem, simprocAttr]⟩ ?_
  rintro z ρ k ⟨i, la, hi, rfl, q, hiff, r3, r6, r7, r8⟩
  simp only [go_sem, simprocAttr, r3, r6, r7, r8]
  refine cnd_decide (fun hy => ?_) (fun hy => ?_)
  · have h1 : i < xs.length := by omega
    have e9 : IntKind.i64.wrap ((i : Int) + 1) = ((i + 1 : Nat) : Int) := by rw [wi64] <;> omega
    obtain ⟨b, off, sp, cc, md, x, rfl, _, hg, hxi, hxx, hle, hdt⟩ := IsSl.atX (hx.quiet q) h1
    have hdr : xs.drop i = x :: xs.drop (i + 1) := drop_cons hxi
    rw [hdr] at hiff
    unfold Ext.cs at hdt
    simp only [go_sem, simprocAttr, r3, r6, r7, r8, hg, hle, hdt, h1]
    refine cl_gen fun k1 e1 => ?_
    have q1 : k.quiet k1 := by rw [e1]; simp only [go_sem, simprocAttr]
    have g1 : k1.get k.next = .cells x.cs .rw := by rw [e1]; simp only [go_sem, simprocAttr, Ext.cs]
    have n1 : k1.next = k.next + 1 := by rw [e1]; simp
    clear e1
    refine cl_spec (may_ok hxx) (fun _ _ _ hc => absurd hc (by decide +kernel)) ?_
    rintro u k2 ⟨rfl, q2⟩
    have g2 := (q2.2 _ (by omega)).trans g1
    have Q2 := q.trans (q1.trans q2)
    by_cases c1 : x.ok
    · by_cases c2 : x.off < la
      · simp only [go_sem, simprocAttr, decide_eq_true c1, g2, Ext.cs, r3, decide_eq_true c2]
        exact ⟨ans_no fun e => (by have := (hiff.1 e).2.1; omega), Q2⟩
      · simp only [go_sem, simprocAttr, decide_eq_true c1, g2, Ext.cs, r3, decide_eq_false c2]
        refine cl_spec (end_ok c1) (fun _ _ _ hc => absurd hc (by decide +kernel)) ?_
        rintro u k3 ⟨rfl, q3⟩
        simp only [go_sem, simprocAttr, r8, e9]
        refine Hold.mk ⟨xs.length - (i + 1), by omega, i + 1, x.off + x.len, by omega, rfl, Q2.trans q3, hiff.trans ⟨fun e => e.2.2, fun e => ⟨c1, by omega, e⟩⟩, by simp only [go_sem, simprocAttr, r6, r7]⟩
    · simp only [go_sem, simprocAttr, decide_eq_false c1]
      exact ⟨ans_no fun e => c1 (hiff.1 e).1, Q2⟩
  · simp only [go_sem, simprocAttr]
    have hi' : i = xs.length := by omega
    rw [hi', List.drop_eq_nil_of_le (Nat.le_refl _)] at hiff
    exact ⟨ans_yes (hiff.2 trivial), q⟩
theorem Lis.oks : ∀ {l : List Ext} {z : Int}, Lis z l → ∀ x ∈ l, x.ok
  | [], _, _, x, hx => by cases hx
  | y :: l, _, h, x, hx => by
    rcases List.mem_cons.1 hx with rfl | hx
    · exact h.1
    · exact h.2.2.oks x hx
theorem RightL.oks {l : List Ext} (h : RightL l) : ∀ x ∈ l, x.ok := h.2.1.oks
theorem Right_ok {xs : List Ext} {v : Value} (hx : IsSl rExt S h xs v) : Does Tryz.prog 145 #[v] h (fun u h' => (∃ b : Bool, u = .bool b ∧ (b = true ↔ RightL xs)) ∧ h.quiet h') := by
  obtain ⟨a, c, rfl⟩ := hx.shape
  have hlen := hx.len
  refine spec_go mixed Tryz.func145 rfl Tryz.results145 (n := Tryz.f145.ntmps) (by kernel_rfl) (by simp) ?_
  by_cases c1 : 1024 < xs.length
  · have c1' : (1024 : Int) < xs.length := by omega
    simp only [go_sem, simprocAttr, decide_eq_true c1']
    exact ans_no fun e => by have := e.1; omega
  have c1' : ¬ (1024 : Int) < xs.length := by omega
  simp only [go_sem, simprocAttr, decide_eq_false c1']
  refine cl_spec (isList_ok hx) (fun _ _ _ hc => absurd hc (by decide +kernel)) ?_
  rintro u k ⟨⟨b, rfl, hb⟩, q⟩
  cases b with
  | false =>
    simp only [go_sem, simprocAttr]
    exact ⟨ans_no fun e => by (have := hb.2 e.2.1; cases this), q⟩
  | true =>
    have hL := hb.1 rfl
    obtain ⟨a1, c2, s1, i1⟩ := hx.slice 4 rfl (show min 1 xs.length ≤ xs.length by omega) (Nat.le_refl xs.length)
    have hm : min 1 (xs.length : Int) = ((min 1 xs.length : Nat) : Int) := by omega
    simp only [go_sem, simprocAttr, hm, s1]
    refine go_loop (fun z ρ k => ∃ (i : Nat), i ≤ xs.length - min 1 xs.length ∧ z = xs.length - i ∧ h.quiet k ∧ (Adj xs ↔ Adj (xs.drop i)) ∧ ρ 0 = .slice a xs.length c ∧ ρ 17 = .int .i64 ((xs.length - min 1 xs.length : Nat) : Int) ∧ ρ 18 = .int .i64 i) xs.length ⟨0, by omega, by omega, q, by simp, by simp only [go_sem, simprocAttr]⟩ ?_
    rintro z ρ k ⟨i, hi, rfl, q, hiff, r0, r17, r18⟩
    simp only [go_sem, simprocAttr, r0, r17, r18]
    refine cnd_decide (fun hy => ?_) (fun hy => ?_)
    · have h1 : i < xs.length := by omega
      have h2 : i + 1 < xs.length := by omega
      have e9 : IntKind.i64.wrap ((i : Int) + 1) = ((i + 1 : Nat) : Int) := by rw [wi64] <;> omega
      obtain ⟨b, off, sp, cc, md, x, hA, _, hg, hxi, hxx, hle, hdt⟩ := IsSl.atX (hx.quiet q) h1
      obtain ⟨b2, off2, sp2, cc2, md2, y, hA2, _, hg2, hyi, hyy, hle2, hdt2⟩ := IsSl.atX (hx.quiet q) h2
      rw [hA] at hA2
      cases hA2
      rw [hg] at hg2
      cases hg2
      have hdr : xs.drop i = x :: y :: xs.drop (i + 2) := by rw [drop_cons hxi, drop_cons hyi]
      have hdr1 : xs.drop (i + 1) = y :: xs.drop (i + 2) := drop_cons hyi
      rw [hdr] at hiff
      unfold Ext.cs at hdt hdt2
      simp only [go_sem, simprocAttr, r0, r17, r18, hA, hg, hle, hdt, h1, e9, h2, hle2, hdt2]
      refine cl_spec (emeets_ok (hL.oks x (List.mem_of_getElem? hxi)) (hL.oks y (List.mem_of_getElem? hyi))) (fun _ _ _ hc => absurd hc (by decide +kernel)) ?_
      rintro u k2 ⟨rfl, q2⟩
      by_cases cm : x.meets y
      · simp only [go_sem, simprocAttr, decide_eq_true cm]
        exact ⟨ans_no fun e => (hiff.1 e.2.2).1 cm, q.trans q2⟩
      · simp only [go_sem, simprocAttr, decide_eq_false cm, r18, e9]
        refine Hold.mk ⟨xs.length - (i + 1), by omega, i + 1, by omega, rfl, q.trans q2, ?_, by simp only [go_sem, simprocAttr, r0, r17, hA]⟩
        rw [hdr1]
        exact hiff.trans ⟨fun e => e.2, fun e => ⟨cm, e⟩⟩
    · simp only [go_sem, simprocAttr]
      have : Adj (xs.drop i) := by
        have hl : (xs.drop i).length ≤ 1 := by rw [List.length_drop]; omega
        match xs.drop i, hl with
        | [], _ => trivial
        | [_], _ => trivial
      exact ⟨ans_yes ⟨by omega, hL, hiff.2 this⟩, q⟩
theorem within_nil {f t : Int} {w : Value} : Does Tryz.prog 165 #[.slice none 0 0, .int .i64 f, .int .i64 t, w] h (fun u h' => u = .tuple #[] ∧ h' = h) := by
  refine spec_go mixed Tryz.func165 rfl Tryz.results165 (n := Tryz.f165.ntmps) (by kernel_rfl) (by simp) ?_
  simp only [go_sem, simprocAttr]
  refine go_loop (fun z ρ k => z = 0 ∧ h = k ∧ ρ 12 = .int .i64 0 ∧ ρ 13 = .int .i64 0) 0 ⟨rfl, rfl, by simp only [go_sem, simprocAttr]⟩ ?_
  rintro z ρ k ⟨rfl, rfl, r12, r13⟩
  simp only [go_sem, simprocAttr, r12, r13]
theorem Part_nil {off n : Int} (hn : inI n) (ho : inI off) : Does Tryz.prog 148 #[.slice none 0 0, .int .i64 off, .int .i64 n] h (fun u h' => u = .tuple #[.slice none 0 0, .int .i64 (if Blks off n then 0 else 1)] ∧ h.quiet h') := by
  have hR : RightL [] := ⟨by simp, trivial, trivial⟩
  refine spec_go mixed Tryz.func148 rfl Tryz.results148 (n := Tryz.f148.ntmps) (by kernel_rfl) (by simp) ?_
  simp only [go_sem, simprocAttr]
  refine cl_spec (Right_ok (IsSl.nil rExt (fun _ => True) h)) (fun _ _ _ hc => absurd hc (by decide +kernel)) ?_
  rintro u k ⟨⟨b, rfl, hb⟩, q⟩
  obtain rfl : b = true := hb.2 hR
  simp only [go_sem, simprocAttr]
  refine cl_spec (blocks_ok hn ho) (fun _ _ _ hc => absurd hc (by decide +kernel)) ?_
  rintro u k2 ⟨rfl, hk⟩
  obtain rfl : k = k2 := hk.symm
  by_cases c : Blks off n
  · rw [if_pos c]
    simp only [go_sem, simprocAttr, decide_eq_true c]
    refine cl_gen fun k1 e1 => ?_
    have q1 : k.quiet k1 := by rw [e1]; simp only [go_sem, simprocAttr]
    have g1 : k1.get k.next = .cells [.slice none 0 0] .rw := by rw [e1]; simp only [go_sem, simprocAttr]
    clear e1
    refine cl_spec within_nil (fun _ _ _ hc => absurd hc (by decide +kernel)) ?_
    rintro u k2 ⟨rfl, hk⟩
    obtain rfl : k1 = k2 := hk.symm
    simp only [go_sem, simprocAttr, g1]
    exact q.trans q1
  · rw [if_neg c]
    simp only [go_sem, simprocAttr, decide_eq_false c]
    exact q
end

/-! Whose an object is. -/
def tg (own : Nat → Nat) (t : Nat) : Nat → Prop := fun j => own j = t
/-- What comes is t's. -/
def bump (own : Nat → Nat) (h : AHeap) (t : Nat) : Nat → Nat := fun j => if j < h.next then own j else t
theorem bump_lt {own : Nat → Nat} {h : AHeap} {t j : Nat} (hj : j < h.next) : bump own h t j = own j := if_pos hj
theorem bump_ge {own : Nat → Nat} {h : AHeap} {t j : Nat} (hj : h.next ≤ j) : bump own h t j = t := if_neg (by omega)
theorem bump_up {own : Nat → Nat} {h : AHeap} {t j : Nat} (hj : up (tg own t) h j) : tg (bump own h t) t j := by
  by_cases hl : j < h.next
  · rcases hj with e | e
    · exact (bump_lt hl).trans e
    · omega
  · exact bump_ge (by omega)
theorem bump_tg {own : Nat → Nat} {h : AHeap} {s t j : Nat} (hj : tg own s j) (hl : j < h.next) : tg (bump own h t) s j := (bump_lt hl).trans hj
theorem New.bump {own : Nat → Nat} {h : AHeap} {t : Nat} : New (tg (bump own h t) t) h := fun _ hj => bump_ge hj
theorem _root_.Go.AM.Fw.other {own : Nat → Nat} {h h' : AHeap} {s t : Nat} (f : Fw (tg own t) h h') (hs : s ≠ t) : ∀ j, tg own s j → j < h.next → tg (bump own h t) s j ∧ h'.get j = h.get j :=
  fun j hj hl => ⟨bump_tg hj hl, f.2 j hl (fun e => hs (by rw [← hj, ← (show own j = t from e)]))⟩
theorem _root_.Go.AM.Fw.stay {own : Nat → Nat} {h h' : AHeap} {s t : Nat} (f : Fw (tg own t) h h') (hs : s ≠ t) : ∀ j, tg own s j → j < h.next → tg own s j ∧ h'.get j = h.get j :=
  fun j hj hl => ⟨hj, f.2 j hl (fun e => hs (by rw [← hj, ← (show own j = t from e)]))⟩
theorem quiet_other {own : Nat → Nat} {h h' : AHeap} (q : h.quiet h') {s t : Nat} : ∀ j, tg own s j → j < h.next → tg (bump own h t) s j ∧ h'.get j = h.get j := fun j hj hl => ⟨bump_tg hj hl, q.2 j hl⟩

/-- A list of one's own, or one that is as large as its object. -/
def OwnX {α : Type} (r : Rep α) (Z : Nat → Prop) (h : AHeap) (xs : List α) (v : Value) : Prop :=
  OwnL r Z h xs v ∨ ∃ b, v = .slice (some ⟨b, 0, none⟩) xs.length xs.length ∧ Z b ∧ b < h.next ∧ xs.length ≤ 281474976710656 ∧ IsSl r Z h xs v
theorem OwnX.mono {α : Type} {r : Rep α} {Z Z' : Nat → Prop} {h h' : AHeap} {xs : List α} {v : Value} (ho : OwnX r Z h xs v) (hn : h.next ≤ h'.next) (hm : ∀ j, Z j → j < h.next → Z' j ∧ h'.get j = h.get j) : OwnX r Z' h' xs v :=
  ho.imp (fun o => o.mono hn hm) fun ⟨b, e, hz, hb, h1, hs⟩ => ⟨b, e, (hm b hz hb).1, by omega, h1, hs.mono hm⟩
theorem OwnX.slz {α : Type} {r : Rep α} {Z : Nat → Prop} {h : AHeap} {xs : List α} {v : Value} (ho : OwnX r Z h xs v) : IsSl r Z h xs v := ho.elim (·.slz) fun ⟨_, _, _, _, _, hs⟩ => hs
theorem OwnX.blkz {α : Type} {r : Rep α} {Z : Nat → Prop} {h : AHeap} {xs : List α} {v : Value} (ho : OwnX r Z h xs v) {j : Nat} (hj : blk v = some j) : Z j ∧ j < h.next := by
  rcases ho with o | ⟨b, rfl, hz, hb, _⟩
  · exact ⟨o.2 j hj, o.lt hj⟩
  · cases hj; exact ⟨hz, hb⟩
/-- One more, behind a box. -/
theorem OwnX.app2 {α : Type} {r : Rep α} {Z : Nat → Prop} {h : AHeap} {xs : List α} {v : Value} {y : α} {cs : List Value} {bytes : Nat} (ho : OwnX r Z h xs v) (hpl : ∀ {S k k' x c}, r.R S k x c → r.R (fun _ => False) k' x c) (sz : Nat) (hsz : r.sz = sz) (hy : ∀ k, r.R (fun _ => False) k y cs) (hb : (xs.length + 1) * bytes ≤ 140737488355328) (h62 : xs.length + 1 ≤ 281474976710656) :
    ∃ v' h', aappend (h.push (.cells cs .rw)) sz bytes v 1 cs = some (v', h') ∧ OwnL r (up Z h) h' (xs ++ [y]) v' ∧ Fw (fun j => blk v = some j) h h' ∧ (blk v' = blk v ∨ ∃ ob, blk v' = some ob ∧ h.next ≤ ob) ∧ ∃ a n c, v' = .slice a n c := by
  rcases ho with o | ⟨b, rfl, hz, hb', h1, hs⟩
  · obtain ⟨v', h', e, o', rest⟩ := o.app2 (y := y) (cs := cs) (bytes := bytes) sz hsz hy hb h62
    exact ⟨v', h', e, o', rest⟩
  · have q := AHeap.quiet.push h (.cells cs .rw)
    obtain ⟨css, ec, ha⟩ := (hs.quiet q).acells sz hsz
    have ha0 : All2 (r.R (fun _ => False) (h.push (.cells cs .rw))) xs css := ha.mono fun _ _ _ _ e => hpl e
    have hall : All2 (r.R (fun _ => False) ((h.push (.cells cs .rw)).push (.cells (css.flatten ++ cs) (.tail sz)))) (xs ++ [y]) (css ++ [cs]) := (ha.mono fun _ _ _ _ e => hpl e).append (.cons (hy _) .nil)
    refine ⟨.slice (some ⟨(h.push (.cells cs .rw)).next, 0, some sz⟩) (xs.length + 1) (xs.length + 1), (h.push (.cells cs .rw)).push (.cells (css.flatten ++ cs) (.tail sz)), ?_, ⟨?_, fun j hj => ?_⟩, ?_, .inr ⟨_, rfl, by simp⟩, _, _, _, rfl⟩
    · rw [aappend_x, if_neg (by omega), if_pos ⟨hb, by omega⟩, ec]; rfl
    · refine ⟨css ++ [cs], hall.mono fun x c _ _ e => r.weaken e fun _ e => e.elim, by simpa using h62, .inr ⟨(h.push (.cells cs .rw)).next, by simp [hsz], Nat.zero_le _, ?_⟩⟩
      rw [AHeap.get_push_self]; simp [hsz]
    · cases hj; exact .inr (by simp)
    · exact Fw.of_quiet (q.push' _)

/-- The trees of a forest. -/
structure FoC (own : Nat → Nat) (h : AHeap) (ps : List (Option Nat)) (ts : List T) (v : Value) : Prop where
  l : OwnX Rep.ptr (tg own 1) h ps v
  n : ps.length = ts.length
  t : ∀ (i : Nat) (t : T) (p : Option Nat), ts[i]? = some t → ps[i]? = some p → TrAt (tg own 2) h t (.pointer (p.map fun id => ⟨id, 0, none⟩))
def FoAt (own : Nat → Nat) (h : AHeap) (id : Nat) (ts : List T) : Prop := own id = 1 ∧ ∃ v ps, h.get id = .cells [v] .rw ∧ blk v ≠ some id ∧ FoC own h ps ts v
/-- What is none of the forest's own stays. -/
def Kp (own : Nat → Nat) (h : AHeap) (own' : Nat → Nat) (h' : AHeap) : Prop := h.next ≤ h'.next ∧ ∀ j, j < h.next → own' j = own j ∧ (own j ≠ 1 → h'.get j = h.get j)

section
variable {own own' own'' : Nat → Nat} {h h' h'' h0 : AHeap} {S S' Z : Nat → Prop} {id : Nat} {ts : List T} {ps : List (Option Nat)} {v : Value}
theorem Kp.refl : Kp own h own h := ⟨Nat.le_refl _, fun _ _ => ⟨rfl, fun _ => rfl⟩⟩
theorem Kp.trans (a : Kp own h own' h') (b : Kp own' h' own'' h'') : Kp own h own'' h'' :=
  ⟨Nat.le_trans a.1 b.1, fun j hj => ⟨((b.2 j (Nat.lt_of_lt_of_le hj a.1)).1).trans (a.2 j hj).1, fun e => ((b.2 j (Nat.lt_of_lt_of_le hj a.1)).2 (fun e2 => e ((a.2 j hj).1.symm.trans e2))).trans ((a.2 j hj).2 e)⟩⟩
theorem Kp.quiet (q : h.quiet h') (t : Nat) : Kp own h (bump own h t) h' := ⟨q.1, fun j hj => ⟨bump_lt hj, fun _ => q.2 j hj⟩⟩
theorem Kp.fw {f : Fw (tg own 1) h h'} {t : Nat} : Kp own h (bump own h t) h' := ⟨f.1, fun j hj => ⟨bump_lt hj, fun e => f.2 j hj e⟩⟩
theorem Kp.set (ho : own id = 1) (o : AObj) : Kp own h own (h.set id o) := ⟨by simp, fun j _ => ⟨rfl, fun e => AHeap.get_set_ne _ _ (by rintro rfl; exact e ho)⟩⟩
theorem Kp.other (k : Kp own h own' h') {s : Nat} (hs : s ≠ 1) : ∀ j, tg own s j → j < h.next → tg own' s j ∧ h'.get j = h.get j :=
  fun j hj hl => ⟨(k.2 j hl).1.trans hj, (k.2 j hl).2 (fun e => hs (hj.symm.trans e))⟩
theorem FoC.mono (c : FoC own h ps ts v) (hn : h.next ≤ h'.next) (hm : ∀ t, t = 1 ∨ t = 2 → ∀ j, tg own t j → j < h.next → tg own' t j ∧ h'.get j = h.get j) : FoC own' h' ps ts v :=
  ⟨c.l.mono hn (hm 1 (.inl rfl)), c.n, fun i t p h1 h2 => (c.t i t p h1 h2).mono (hm 2 (.inr rfl))⟩
theorem FoAt.lt (ha : FoAt own h id ts) : id < h.next := by obtain ⟨_, v, ps, hg, _⟩ := ha; exact AHeap.lt_of_alive h (by rw [hg]; simp)
theorem FoAt.mono (ha : FoAt own h id ts) (hn : h.next ≤ h'.next) (hm : ∀ t, t = 1 ∨ t = 2 → ∀ j, tg own t j → j < h.next → tg own' t j ∧ h'.get j = h.get j) : FoAt own' h' id ts := by
  have hlt := ha.lt
  obtain ⟨h1, v, ps, hg, hne, c⟩ := ha
  exact ⟨(hm 1 (.inl rfl) id h1 hlt).1, v, ps, (hm 1 (.inl rfl) id h1 hlt).2.trans hg, hne, c.mono hn hm⟩
theorem FoAt.quiet (ha : FoAt own h id ts) (q : h.quiet h') (t : Nat) : FoAt (bump own h t) h' id ts := ha.mono q.1 fun _ _ => quiet_other q
theorem FoAt.tree (ha : FoAt own h id ts) {i : Nat} {t : T} (hi : ts[i]? = some t) : ∃ p : Option Nat, TrAt (tg own 2) h t (.pointer (p.map fun id => ⟨id, 0, none⟩)) := by
  obtain ⟨h1, v, ps, hg, hne, c⟩ := ha
  have : i < ps.length := by rw [c.n]; exact (List.getElem?_eq_some_iff.1 hi).1
  exact ⟨_, c.t i t _ hi (List.getElem?_eq_getElem this)⟩

theorem newForest_ok : Does Tryz.prog 86 #[] h (fun u h' => u = .pointer (some ⟨h.next + 1, 0, none⟩) ∧ h.quiet h' ∧ FoAt (bump own h 1) h' (h.next + 1) [.nil]) := by
  refine spec_go mixed Tryz.func86 rfl Tryz.results86 (n := Tryz.f86.ntmps) (by kernel_rfl) (by simp) ?_
  simp only [go_sem, simprocAttr]
  refine ⟨bump_ge (by omega), .slice (some ⟨h.next, 0, none⟩) 1 1, [none], ?_, by simp, ⟨.inr ⟨h.next, rfl, bump_ge (Nat.le_refl _), by simp; omega, by decide, ?_⟩, rfl, ?_⟩⟩
  · simp only [go_sem, simprocAttr]
  · refine .fresh (css := [[.pointer none]]) (.cons rfl .nil) rfl (by decide) (bump_ge (Nat.le_refl _)) (md := .rw) (c := [.pointer none]) ?_ rfl
    simp only [go_sem, simprocAttr]
  · intro i t p h1 h2
    cases i with
    | zero => simp at h1 h2; subst h1; subst h2; rfl
    | succ i => simp at h1
theorem fok_ok (ha : FoAt own h id ts) (hp : ts ≠ []) : Does Tryz.prog 163 #[.pointer (some ⟨id, 0, none⟩)] h (fun u h' => u = .bool true ∧ h' = h) := by
  obtain ⟨h1, v, ps, hg, hne, c⟩ := ha
  obtain ⟨a, cp, rfl⟩ := c.l.slz.shape
  have : 0 < ps.length := by rw [c.n]; exact List.length_pos_iff.2 hp
  have h0 : (0 : Int) < ps.length := by omega
  refine spec_go mixed Tryz.func163 rfl Tryz.results163 (n := Tryz.f163.ntmps) (by kernel_rfl) (by simp) ?_
  simp only [go_sem, simprocAttr, hg, decide_eq_true h0]
theorem TrAt.pm {S : Nat → Prop} {h : AHeap} {t : T} {v : Value} (ht : TrAt S h t v) : ∃ p : Option Nat, v = .pointer (p.map fun id => ⟨id, 0, none⟩) := by
  cases t with
  | nil => exact ⟨none, ht⟩
  | node l x r => obtain ⟨id, pl, pr, e, _⟩ := ht; exact ⟨some id, e⟩
theorem ptr_map {p : Option Nat} : (Value.pointer (p.map fun id => (⟨id, 0, none⟩ : Addr))) = .pointer (p.map fun id => ⟨id, 0, none⟩) := rfl

def Has (ts : List T) (root : Int) : Prop := 0 ≤ root ∧ root < ts.length
instance (ts : List T) (root : Int) : Decidable (Has ts root) := inferInstanceAs (Decidable (_ ∧ _))
theorem find_ok (ha : FoAt own h id ts) (hp : ts ≠ []) {root : Int} : Does Tryz.prog 147 #[.pointer (some ⟨id, 0, none⟩), .int .i64 root] h
    (fun u h' => h.quiet h' ∧ ((Has ts root ∧ ∃ t p, ts[root.toNat]? = some t ∧ TrAt (tg own 2) h t (.pointer p) ∧ u = .tuple #[.agg #[.pointer p], .int .i64 0]) ∨ (¬ Has ts root ∧ u = .tuple #[.agg #[.pointer none], .int .i64 9]))) := by
  have hlt := ha.lt
  have ha0 := ha
  obtain ⟨h1, v, ps, hg, hne, c⟩ := ha
  obtain ⟨a, cp, rfl⟩ := c.l.slz.shape
  have hlen := c.l.slz.len
  have hn := c.n
  have q1 := AHeap.quiet.push h (.cells [.pointer none] .rw)
  have ha1 : FoAt (bump own h 0) (h.push (.cells [.pointer none] .rw)) id ts := ha0.quiet q1 0
  have hg1 : (h.push (.cells [.pointer none] .rw)).get id = _ := (q1.2 id hlt).trans hg
  refine spec_go mixed Tryz.func147 rfl Tryz.results147 (n := Tryz.f147.ntmps) (by kernel_rfl) (by simp) ?_
  simp only [go_sem, simprocAttr]
  refine cl_spec (fok_ok ha1 hp) (fun _ _ _ hc => absurd hc (by decide +kernel)) ?_
  rintro u k ⟨rfl, hk⟩
  obtain rfl : _ = k := hk.symm
  by_cases c1 : root < 0
  · simp only [go_sem, simprocAttr, decide_eq_true c1]
    exact .inr (fun e => by have := e.1; omega)
  by_cases c2 : (ps.length : Int) ≤ root
  · simp only [go_sem, simprocAttr, decide_eq_false c1, hg1, decide_eq_true c2]
    exact .inr (fun e => by have := e.2; omega)
  · obtain ⟨i, rfl⟩ := Int.eq_ofNat_of_zero_le (show 0 ≤ root by omega)
    have hi : i < ps.length := by omega
    obtain ⟨b, off, sp, cc, md, w, p, hA, hz, hgb, hpi, hR, hcc⟩ := c.l.slz.at1 rfl hi
    obtain rfl : w = _ := by simpa using (show [w] = [_] from hR)
    have hti : i < ts.length := by omega
    have htr := c.t i ts[i] p (List.getElem?_eq_getElem hti) hpi
    have hb : b < h.next := AHeap.lt_of_alive h (by rw [hgb]; simp)
    have hgb1 : (h.push (.cells [.pointer none] .rw)).get b = _ := (q1.2 b hb).trans hgb
    have c3 : ¬ ps.length ≤ i := by omega
    simp only [go_sem, simprocAttr, decide_eq_false c1, hg1, decide_eq_false c3]
    have hle : off + i + 1 ≤ cc.length := (List.getElem?_eq_some_iff.1 hcc).1
    have hdt : (cc.drop (off + i)).take 1 = [.pointer (p.map fun id => ⟨id, 0, none⟩)] := by rw [drop_cons hcc]; rfl
    simp only [go_sem, simprocAttr, hg1, hA, hgb1, hle, hdt, hi]
    exact .inl ⟨⟨by omega, by omega⟩, ts[i], _, List.getElem?_eq_getElem hti, htr, rfl⟩
theorem add_ok (ha : FoAt own h id ts) (hp : ts ≠ []) {t : T} {p : Option Nat} (ht : TrAt (tg own 2) h t (.pointer (p.map fun id => ⟨id, 0, none⟩))) (hl : ts.length ≤ 1099511627776) : Does Tryz.prog 150 #[.pointer (some ⟨id, 0, none⟩), .pointer (p.map fun id => ⟨id, 0, none⟩)] h
    (fun u h' => u = .tuple #[.int .i64 ts.length, .int .i64 0] ∧ ∃ own', FoAt own' h' id (ts ++ [t]) ∧ Kp own h own' h') := by
  have hlt := ha.lt
  have ha0 := ha
  obtain ⟨h1, v, ps, hg, hne, c⟩ := ha
  obtain ⟨a, cp, rfl⟩ := c.l.slz.shape
  have hlen := c.l.slz.len
  have hn := c.n
  obtain ⟨v', h', e, o', f, hnew, a2, n2, c2, rfl⟩ := c.l.app2 (y := p) (cs := [.pointer (p.map fun id => ⟨id, 0, none⟩)]) (bytes := 8) (fun e => e) 1 rfl (fun _ => rfl) (by omega) (by omega)
  have F : Fw (tg own 1) h h' := f.mono fun j _ e => (c.l.blkz e).1
  have hg' : h'.get id = _ := (f.2 id hlt hne).trans hg
  have hl' : id < h'.next := by have := F.1; omega
  have gs := fun o => AHeap.get_set_self h' o hl'
  have hlen2 := o'.slz.len
  have en : n2 = ps.length + 1 := by rw [hlen2.1]; simp
  subst en
  have e1 : IntKind.i64.wrap (((ps.length + 1 : Nat) : Int) - 1) = ts.length := by rw [wi64] <;> omega
  have hne' : blk (.slice a2 (ps.length + 1) c2) ≠ some id := by
    rcases hnew with hn | ⟨ob, hn, hge⟩
    · rw [hn]; exact hne
    · rw [hn]; intro e; cases e; omega
  refine spec_go mixed Tryz.func150 rfl Tryz.results150 (n := Tryz.f150.ntmps) (by kernel_rfl) (by simp) ?_
  simp only [go_sem, simprocAttr, hg, e, hg', gs, e1]
  refine ⟨bump own h 1, ⟨(bump_lt hlt).trans h1, _, ps ++ [p], gs _, hne', ⟨.inl ((o'.set hne' _).weaken fun _ => bump_up), by simp [hn], fun i t' p' h2 h3 => ?_⟩⟩, (Kp.fw (f := F)).trans (Kp.set ((bump_lt hlt).trans h1) _)⟩
  have mv : ∀ {t v}, TrAt (tg own 2) h t v → TrAt (tg (bump own h 1) 2) (h'.set id (.cells [.slice a2 (ps.length + 1) c2] .rw)) t v := fun {t v} ht => ht.mono fun j hj hl => ⟨bump_tg hj hl, (AHeap.get_set_ne _ _ (by rintro rfl; have : own id = 2 := hj; omega)).trans (F.2 j hl (fun e => by have h4 : own j = 2 := hj; have h5 : own j = 1 := e; omega))⟩
  by_cases hi : i < ts.length
  · rw [List.getElem?_append_left hi] at h2
    rw [List.getElem?_append_left (by omega)] at h3
    exact mv (c.t i t' p' h2 h3)
  · have : i = ts.length := by
      have := (List.getElem?_eq_some_iff.1 h2).1
      simp at this; omega
    subst this
    have e3 : t = t' := by simpa using h2
    have e4 : p = p' := by rw [← hn] at h3; simpa using h3
    subst e3; subst e4
    exact mv ht

end

def Tput (t : T) (x : Ext) : T := T.put (T.split x.off t).1 x (T.split (x.off + x.len) (T.split x.off t).2).2
def Tcut (t : T) (o n : Int) : T := T.both (T.split o t).1 (T.split (o + n) (T.split o t).2).2
def okT (t : T) : Prop := t.all Ext.ok ∧ t.size ≤ 1073741824
def okF (ts : List T) : Prop := ∀ t ∈ ts, okT t
def F.put (ts : List T) (root : Int) (x : Ext) : (Int × Int) × List T :=
  if Has ts root then (if x.ok then ((ts.length, 0), ts ++ [Tput (ts.getD root.toNat .nil) x]) else ((0, 1), ts)) else ((0, 9), ts)
def F.cut (ts : List T) (root o n : Int) : (Int × Int) × List T :=
  if Has ts root then (if Blks o n then ((ts.length, 0), ts ++ [Tcut (ts.getD root.toNat .nil) o n]) else ((0, 1), ts)) else ((0, 9), ts)
def F.part (ts : List T) (root o n : Int) : List Ext × Int :=
  if Has ts root then (if Blks o n then ((ts.getD root.toNat .nil).parts o (o + n), 0) else ([], 1)) else ([], 9)

theorem T.split_all {o : Int} : ∀ {t : T}, t.all Ext.ok → (T.split o t).1.all Ext.ok ∧ (T.split o t).2.all Ext.ok
  | .nil, _ => ⟨trivial, trivial⟩
  | .node l x r, ⟨hl, hx, hr⟩ => by
    have h1 := T.split_all (o := o) hl
    have h2 := T.split_all (o := o) hr
    have jn : ∀ {a : T} {y : Ext} {b : T}, a.all Ext.ok → y.ok → b.all Ext.ok → (T.join a y b).all Ext.ok := fun {a y b} k1 k2 k3 => by
      rw [T.all_list, T.join_list]
      intro z hz
      rcases List.mem_append.1 hz with hz | hz
      · exact T.all_list.1 k1 z hz
      · rcases List.mem_cons.1 hz with rfl | hz
        · exact k2
        · exact T.all_list.1 k3 z hz
    have hx' := hx
    unfold Ext.ok at hx'
    unfold T.split
    split
    · exact ⟨h1.1, jn h1.2 hx hr⟩
    split
    · exact ⟨jn hl hx h2.1, h2.2⟩
    · exact ⟨jn hl (Ext.ok_clip hx (by unfold Ext.lies; omega)) trivial, jn trivial (Ext.ok_clip hx (by unfold Ext.lies; omega)) hr⟩

theorem Out.mk_new {h0 : AHeap} : Out h0 (h0.push (.cells [.slice none 0 0] .rw)) h0.next [] := ⟨.push _ _, Nat.le_refl _, _, AHeap.get_push_self _ _, .nil _ _ _, by simp⟩
section
variable {own own' own'' : Nat → Nat} {h h' h'' h0 : AHeap} {S S' Z : Nat → Prop} {id : Nat} {ts : List T} {ps : List (Option Nat)} {v : Value}
theorem putF_ok (ha : FoAt own h id ts) (hp : ts ≠ []) (hok : okF ts) (hl : ts.length ≤ 1099511627776) {root : Int} {x : Ext} (hx : x.inI) : Does Tryz.prog 134 #[.pointer (some ⟨id, 0, none⟩), .int .i64 root, x.ag] h
    (fun u h' => u = .tuple #[.int .i64 (F.put ts root x).1.1, .int .i64 (F.put ts root x).1.2] ∧ ∃ own', FoAt own' h' id (F.put ts root x).2 ∧ Kp own h own' h') := by
  have q1 := AHeap.quiet.push h (.cells x.cs .rw)
  have g1 : (h.push (.cells x.cs .rw)).get h.next = .cells x.cs .rw := AHeap.get_push_self _ _
  have n1 : (h.push (.cells x.cs .rw)).next = h.next + 1 := by simp
  unfold Ext.cs at q1 g1 n1
  unfold F.put
  refine spec_go mixed Tryz.func134 rfl Tryz.results134 (n := Tryz.f134.ntmps) (by kernel_rfl) (by simp) ?_
  simp only [go_sem, simprocAttr, Ext.ag]
  generalize h.push (.cells [.int .i64 x.off, .int .i64 x.len, .int .i64 x.phys, .int .i64 x.birth] .rw) = h1 at q1 g1 n1 ⊢
  have ha1 := ha.quiet q1 2
  have kp1 := Kp.quiet (own := own) q1 2
  generalize bump own h 2 = ow at ha1 kp1
  refine cl_spec (find_ok ha1 hp) (fun _ _ _ hc => absurd hc (by decide +kernel)) ?_
  rintro u k ⟨q, ⟨hh, t, p, hti, htr, rfl⟩ | ⟨hh, rfl⟩⟩
  · rw [if_pos hh]
    have htd : ts.getD root.toNat .nil = t := by rw [List.getD, hti]; rfl
    have hot := hok t (List.mem_of_getElem? hti)
    have gk := (q.2 h.next (by omega)).trans g1
    have gp : ∀ o, (k.push o).get h.next = _ := fun o => (AHeap.get_push_lt _ _ (by have := q.1; omega)).trans gk
    simp only [go_sem, simprocAttr, gp]
    refine cl_gen fun k1 e1 => ?_
    have q2 : k.quiet k1 := by rw [e1]; simp only [go_sem, simprocAttr]
    have g2 : k1.get k.next = .cells [.pointer p] .rw := by rw [e1]; simp only [go_sem, simprocAttr]
    have g3 : k1.get (k.next + 1) = .cells x.cs .rw := by rw [e1]; simp only [go_sem, simprocAttr, Ext.cs]
    have n2 : k1.next = k.next + 2 := by rw [e1]; simp
    clear e1
    have hsl : IsSl rExt (fun _ => True) k1 [x] (.slice (some ⟨k.next + 1, 0, none⟩) 1 1) := .fresh (css := [x.cs]) (.cons (rExt_iff.2 ⟨rfl, hx⟩) .nil) rfl (by decide) trivial g3 (by simp)
    refine cl_spec (Right_ok hsl) (fun _ _ _ hc => absurd hc (by decide +kernel)) ?_
    rintro u k2 ⟨⟨b, rfl, hb⟩, q3⟩
    have Q := q.trans (q2.trans q3)
    have hR : RightL [x] ↔ x.ok := ⟨fun e => e.2.1.1, fun e => ⟨by simp, ⟨e, by have := e; unfold Ext.ok at this; omega, trivial⟩, trivial⟩⟩
    have g2' := (q3.2 k.next (by omega)).trans g2
    have gx := (Q.2 h.next (by omega)).trans g1
    by_cases hox : x.ok
    · rw [if_pos hox, htd]
      obtain rfl : b = true := hb.2 (hR.2 hox)
      have hox' := hox
      unfold Ext.ok at hox'
      have e1 : IntKind.i64.wrap (x.off + x.len) = x.off + x.len := by rw [wi64] <;> omega
      simp only [go_sem, simprocAttr, g2', gx]
      have htk : TrAt (tg (bump ow h1 2) 2) k2 t (.pointer p) := htr.mono (fun j hj hl => quiet_other Q j hj hl)
      have hnk : New (tg (bump ow h1 2) 2) k2 := fun j hj => bump_ge (Nat.le_trans Q.1 hj)
      obtain ⟨ot, st⟩ := hot
      have s1 := T.split_size x.off t
      have s2 := T.split_size (x.off + x.len) (T.split x.off t).2
      obtain ⟨oa, ob⟩ := T.split_all (o := x.off) ot
      obtain ⟨oc, od⟩ := T.split_all (o := x.off + x.len) ob
      refine cl_spec (split_ok (o := x.off) (by omega) t hnk htk ot (by omega)) (fun _ _ _ hc => absurd hc (by decide +kernel)) ?_
      rintro u k3 ⟨w1, w2, rfl, t1, t2, q4⟩
      obtain ⟨pw1, rfl, _⟩ := t1.ptr
      have gx3 := (q4.2 h.next (by have := Q.1; omega)).trans gx
      simp only [go_sem, simprocAttr, gx3, e1]
      refine cl_spec (split_ok (o := x.off + x.len) (by omega) _ (hnk.quiet q4) t2 ob (by omega)) (fun _ _ _ hc => absurd hc (by decide +kernel)) ?_
      rintro u k4 ⟨w3, w4, rfl, t3, t4, q5⟩
      obtain ⟨pw4, rfl, _⟩ := t4.ptr
      have gx4 := (q5.2 h.next (by have := Q.1; have := q4.1; omega)).trans gx3
      simp only [go_sem, simprocAttr, gx4]
      refine cl_spec (put_ok (x := x) ((hnk.quiet q4).quiet q5) (t1.quiet q5) t4 oa od hox (by omega)) (fun _ _ _ hc => absurd hc (by decide +kernel)) ?_
      rintro u k5 ⟨t5, q6⟩
      obtain ⟨p5, rfl⟩ := t5.pm
      have Q6 := Q.trans (q4.trans (q5.trans q6))
      simp only [go_sem, simprocAttr]
      refine cl_spec (add_ok (t := Tput t x) (ha1.quiet Q6 2) hp t5 hl) (fun _ _ _ hc => absurd hc (by decide +kernel)) ?_
      rintro u k6 ⟨rfl, ow6, hf6, kp6⟩
      simp only [go_sem, simprocAttr]
      exact ⟨ow6, hf6, kp1.trans ((Kp.quiet Q6 2).trans kp6)⟩
    · rw [if_neg hox]
      obtain rfl : b = false := by cases b with | false => rfl | true => exact absurd (hR.1 (hb.1 rfl)) hox
      simp only [go_sem, simprocAttr]
      exact ⟨_, ha1.quiet Q 2, kp1.trans (Kp.quiet Q 2)⟩
  · rw [if_neg hh]
    simp only [go_sem, simprocAttr]
    exact ⟨_, (ha1.quiet q 2).quiet (AHeap.quiet.push _ _) 2, kp1.trans ((Kp.quiet q 2).trans (Kp.quiet (AHeap.quiet.push _ _) 2))⟩
theorem cutF_ok (ha : FoAt own h id ts) (hp : ts ≠ []) (hok : okF ts) (hl : ts.length ≤ 1099511627776) {root o n : Int} (ho : inI o) (hn : inI n) : Does Tryz.prog 133 #[.pointer (some ⟨id, 0, none⟩), .int .i64 root, .int .i64 o, .int .i64 n] h
    (fun u h' => u = .tuple #[.int .i64 (F.cut ts root o n).1.1, .int .i64 (F.cut ts root o n).1.2] ∧ ∃ own', FoAt own' h' id (F.cut ts root o n).2 ∧ Kp own h own' h') := by
  unfold F.cut
  refine spec_go mixed Tryz.func133 rfl Tryz.results133 (n := Tryz.f133.ntmps) (by kernel_rfl) (by simp) ?_
  simp only [go_sem, simprocAttr]
  refine cl_spec (find_ok ha hp) (fun _ _ _ hc => absurd hc (by decide +kernel)) ?_
  rintro u k ⟨q, ⟨hh, t, p, hti, htr, rfl⟩ | ⟨hh, rfl⟩⟩
  · rw [if_pos hh]
    have htd : ts.getD root.toNat .nil = t := by rw [List.getD, hti]; rfl
    have hot := hok t (List.mem_of_getElem? hti)
    simp only [go_sem, simprocAttr]
    refine cl_gen fun k1 e1 => ?_
    have q2 : k.quiet k1 := by rw [e1]; simp only [go_sem, simprocAttr]
    have g2 : k1.get k.next = .cells [.pointer p] .rw := by rw [e1]; simp only [go_sem, simprocAttr]
    have n2 : k1.next = k.next + 1 := by rw [e1]; simp
    clear e1
    refine cl_spec (Part_nil hn ho) (fun _ _ _ hc => absurd hc (by decide +kernel)) ?_
    rintro u k2 ⟨rfl, q3⟩
    have Q := q.trans (q2.trans q3)
    have g2' := (q3.2 k.next (by omega)).trans g2
    by_cases hox : Blks o n
    · rw [if_pos hox, if_pos hox, htd]
      have hox' := hox
      unfold Blks at hox'
      have e1 : IntKind.i64.wrap (o + n) = o + n := by rw [wi64] <;> omega
      simp only [go_sem, simprocAttr, g2']
      have htk : TrAt (tg (bump own h 2) 2) k2 t (.pointer p) := htr.mono (fun j hj hl => quiet_other Q j hj hl)
      have hnk : New (tg (bump own h 2) 2) k2 := fun j hj => bump_ge (Nat.le_trans Q.1 hj)
      obtain ⟨ot, st⟩ := hot
      have s1 := T.split_size o t
      have s2 := T.split_size (o + n) (T.split o t).2
      obtain ⟨oa, ob⟩ := T.split_all (o := o) ot
      obtain ⟨oc, od⟩ := T.split_all (o := o + n) ob
      refine cl_spec (split_ok (o := o) (by omega) t hnk htk ot (by omega)) (fun _ _ _ hc => absurd hc (by decide +kernel)) ?_
      rintro u k3 ⟨w1, w2, rfl, t1, t2, q4⟩
      obtain ⟨pw1, rfl, _⟩ := t1.ptr
      simp only [go_sem, simprocAttr, e1]
      refine cl_spec (split_ok (o := o + n) (by omega) _ (hnk.quiet q4) t2 ob (by omega)) (fun _ _ _ hc => absurd hc (by decide +kernel)) ?_
      rintro u k4 ⟨w3, w4, rfl, t3, t4, q5⟩
      obtain ⟨pw4, rfl, _⟩ := t4.ptr
      simp only [go_sem, simprocAttr]
      refine cl_spec (both_ok ((hnk.quiet q4).quiet q5) (t1.quiet q5) t4 (by omega)) (fun _ _ _ hc => absurd hc (by decide +kernel)) ?_
      rintro u k5 ⟨t5, q6⟩
      obtain ⟨p5, rfl⟩ := t5.pm
      have Q6 := Q.trans (q4.trans (q5.trans q6))
      simp only [go_sem, simprocAttr]
      refine cl_spec (add_ok (t := Tcut t o n) (ha.quiet Q6 2) hp t5 hl) (fun _ _ _ hc => absurd hc (by decide +kernel)) ?_
      rintro u k6 ⟨rfl, ow6, hf6, kp6⟩
      simp only [go_sem, simprocAttr]
      exact ⟨ow6, hf6, (Kp.quiet Q6 2).trans kp6⟩
    · rw [if_neg hox, if_neg hox]
      simp only [go_sem, simprocAttr]
      exact ⟨_, ha.quiet Q 2, Kp.quiet Q 2⟩
  · rw [if_neg hh]
    simp only [go_sem, simprocAttr]
    exact ⟨_, (ha.quiet q 2).quiet (AHeap.quiet.push _ _) 2, (Kp.quiet q 2).trans (Kp.quiet (AHeap.quiet.push _ _) 2)⟩
theorem partF_ok (ha : FoAt own h id ts) (hp : ts ≠ []) (hok : okF ts) {root o n : Int} (ho : inI o) (hn : inI n) : Does Tryz.prog 144 #[.pointer (some ⟨id, 0, none⟩), .int .i64 root, .int .i64 o, .int .i64 n] h
    (fun u h' => ∃ v, u = .tuple #[v, .int .i64 (F.part ts root o n).2] ∧ OwnL rExt (h.next ≤ ·) h' (F.part ts root o n).1 v ∧ h.quiet h') := by
  unfold F.part
  refine spec_go mixed Tryz.func144 rfl Tryz.results144 (n := Tryz.f144.ntmps) (by kernel_rfl) (by simp) ?_
  simp only [go_sem, simprocAttr]
  refine cl_spec (find_ok ha hp) (fun _ _ _ hc => absurd hc (by decide +kernel)) ?_
  rintro u k ⟨q, ⟨hh, t, p, hti, htr, rfl⟩ | ⟨hh, rfl⟩⟩
  · rw [if_pos hh]
    have htd : ts.getD root.toNat .nil = t := by rw [List.getD, hti]; rfl
    have hot := hok t (List.mem_of_getElem? hti)
    simp only [go_sem, simprocAttr]
    refine cl_gen fun k1 e1 => ?_
    have q2 : k.quiet k1 := by rw [e1]; simp only [go_sem, simprocAttr]
    have g2 : k1.get k.next = .cells [.pointer p] .rw := by rw [e1]; simp only [go_sem, simprocAttr]
    have n2 : k1.next = k.next + 1 := by rw [e1]; simp
    clear e1
    refine cl_spec (Part_nil hn ho) (fun _ _ _ hc => absurd hc (by decide +kernel)) ?_
    rintro u k2 ⟨rfl, q3⟩
    have Q := q.trans (q2.trans q3)
    have g2' := (q3.2 k.next (by omega)).trans g2
    by_cases hox : Blks o n
    · rw [if_pos hox, if_pos hox, htd]
      have hox' := hox
      unfold Blks at hox'
      have e1 : IntKind.i64.wrap (o + n) = o + n := by rw [wi64] <;> omega
      have gpx : ∀ o, (k2.push o).get k.next = _ := fun o => (AHeap.get_push_lt _ _ (by have := q3.1; omega)).trans g2'
      simp only [go_sem, simprocAttr, gpx, e1]
      have ot := Out.mk_new (h0 := k2)
      refine cl_spec (walk_ok (by omega) (by omega) t (htr.quiet Q) hot.1 ot (by have := hot.2; simp; omega)) (fun _ _ _ hc => absurd hc (by decide +kernel)) ?_
      rintro u k3 ⟨rfl, q4, hb, v', hg', hov, hne⟩
      simp only [go_sem, simprocAttr, hg']
      exact ⟨_, rfl, hov.weaken fun j hj => Nat.le_trans Q.1 hj, Q.trans q4⟩
    · rw [if_neg hox, if_neg hox]
      simp only [go_sem, simprocAttr]
      exact ⟨_, rfl, .nil _ _ _, Q⟩
  · rw [if_neg hh]
    simp only [go_sem, simprocAttr]
    exact ⟨_, rfl, .nil _ _ _, q.push' _⟩
end

/-! Depth. -/
def T.bal : T → Prop
  | .nil => True
  | .node l _ r => l.bal ∧ r.bal ∧ l.depth ≤ r.depth + 1 ∧ r.depth ≤ l.depth + 1
theorem T.even_bal {l : T} {x : Ext} {r : T} (hl : l.bal) (hr : r.bal) (h1 : l.depth ≤ r.depth + 2) (h2 : r.depth ≤ l.depth + 2) :
    (T.even l x r).bal ∧ max l.depth r.depth ≤ (T.even l x r).depth ∧ (T.even l x r).depth ≤ max l.depth r.depth + 1 ∧ (l.depth ≤ r.depth + 1 → r.depth ≤ l.depth + 1 → (T.even l x r).depth = 1 + max l.depth r.depth) := by
  unfold T.even
  split
  · cases l with
    | nil => rename_i h; simp [T.depth] at h
    | node ll lx lr =>
      obtain ⟨b1, b2, b3, b4⟩ := hl
      dsimp only
      split
      · simp only [T.depth, T.bal, b1, b2, hr, true_and] at *; omega
      · cases lr with
        | nil => rename_i h; simp [T.depth] at h
        | node a m b =>
          obtain ⟨c1, c2, c3, c4⟩ := b2
          simp only [T.depth, T.bal, b1, c1, c2, hr, true_and] at *; omega
  · split
    · cases r with
      | nil => rename_i h; simp [T.depth] at h
      | node rl rx rr =>
        obtain ⟨b1, b2, b3, b4⟩ := hr
        dsimp only
        split
        · simp only [T.depth, T.bal, b1, b2, hl, true_and] at *; omega
        · cases rl with
          | nil => rename_i h; simp [T.depth] at h
          | node a m b =>
            obtain ⟨c1, c2, c3, c4⟩ := b1
            simp only [T.depth, T.bal, b2, c1, c2, hl, true_and] at *; omega
    · refine ⟨⟨hl, hr, by omega, by omega⟩, ?_, ?_, fun _ _ => rfl⟩ <;> simp only [T.depth] <;> omega
theorem T.join_bal (l : T) (x : Ext) (r : T) : l.bal → r.bal → (T.join l x r).bal ∧ max l.depth r.depth ≤ (T.join l x r).depth ∧ (T.join l x r).depth ≤ max l.depth r.depth + 1 := by
  fun_induction T.join l x r with
  | case1 r h => simp [T.depth] at h
  | case2 r ll lx lr h ih =>
    intro hl hr
    obtain ⟨b1, b2, b3, b4⟩ := hl
    obtain ⟨i1, i2, i3⟩ := ih b2 hr
    simp only [T.depth] at h
    obtain ⟨e1, e2, e3, e4⟩ := T.even_bal (x := lx) b1 i1 (by omega) (by omega)
    refine ⟨e1, ?_, ?_⟩ <;> simp only [T.depth] <;> omega
  | case3 l h1 h => simp [T.depth] at h
  | case4 l rl rx rr h1 h ih =>
    intro hl hr
    obtain ⟨b1, b2, b3, b4⟩ := hr
    obtain ⟨i1, i2, i3⟩ := ih hl b1
    simp only [T.depth] at h h1
    obtain ⟨e1, e2, e3, e4⟩ := T.even_bal (x := rx) i1 b2 (by omega) (by omega)
    refine ⟨e1, ?_, ?_⟩ <;> simp only [T.depth] <;> omega
  | case5 l r h1 h2 =>
    intro hl hr
    refine ⟨⟨hl, hr, by omega, by omega⟩, ?_, ?_⟩ <;> simp only [T.depth] <;> omega
theorem T.last_bal : ∀ (r l : T) (x : Ext), l.bal → r.bal → (T.last l x r).1.bal
  | .nil, _, _, hl, _ => hl
  | .node rl rx rr, l, x, hl, hr => (T.join_bal l x _ hl (T.last_bal rr rl rx hr.1 hr.2.1)).1
theorem T.first_bal : ∀ (l : T) (x : Ext) (r : T), l.bal → r.bal → (T.first l x r).2.bal
  | .nil, _, _, _, hr => hr
  | .node ll lx lr, x, r, hl, hr => (T.join_bal _ x r (T.first_bal ll lx lr hl.1 hl.2.1) hr).1
theorem T.split_bal (o : Int) : ∀ t : T, t.bal → (T.split o t).1.bal ∧ (T.split o t).2.bal
  | .nil, _ => ⟨trivial, trivial⟩
  | .node l x r, h => by
    have h1 := T.split_bal o l h.1
    have h2 := T.split_bal o r h.2.1
    unfold T.split
    split
    · exact ⟨h1.1, (T.join_bal _ _ _ h1.2 h.2.1).1⟩
    split
    · exact ⟨(T.join_bal _ _ _ h.1 h2.1).1, h2.2⟩
    · exact ⟨(T.join_bal _ _ .nil h.1 (show T.bal .nil from trivial)).1, (T.join_bal .nil _ _ (show T.bal .nil from trivial) h.2.1).1⟩
theorem T.both_bal {l r : T} (hl : l.bal) (hr : r.bal) : (T.both l r).bal := by
  unfold T.both
  cases l with
  | nil => exact hr
  | node ll lx lr => exact (T.join_bal _ _ _ (T.last_bal lr ll lx hl.1 hl.2.1) hr).1
theorem T.put_bal {l : T} {x : Ext} {r : T} (hl : l.bal) (hr : r.bal) : (T.put l x r).bal := by
  have a : (T.lowOf l x).1.bal := by
    unfold T.lowOf
    cases l with
    | nil => exact trivial
    | node ll lx lr =>
      dsimp only
      split
      · exact T.last_bal lr ll lx hl.1 hl.2.1
      · exact hl
  have b : ∀ y, (T.highOf y r).2.bal := fun y => by
    unfold T.highOf
    cases r with
    | nil => exact trivial
    | node rl rx rr =>
      dsimp only
      split
      · exact T.first_bal rl rx rr hr.1 hr.2.1
      · exact hr
  exact (T.join_bal _ _ _ a (b _)).1
/-- The least of a depth. -/
def mn : Nat → Nat
  | 0 => 0
  | 1 => 1
  | n + 2 => mn (n + 1) + mn n + 1
theorem mn_mono : ∀ n, mn n ≤ mn (n + 1)
  | 0 => by decide
  | 1 => by decide
  | n + 2 => by have := mn_mono n; have := mn_mono (n + 1); simp only [mn] at *; omega
theorem mn_le {a b : Nat} (h : a ≤ b) : mn a ≤ mn b := by
  induction h with
  | refl => exact Nat.le_refl _
  | step h ih => exact Nat.le_trans ih (mn_mono _)
theorem T.mn_size : ∀ t : T, t.bal → mn t.depth ≤ t.size
  | .nil, _ => Nat.le_refl _
  | .node l x r, ⟨h1, h2, h3, h4⟩ => by
    have a := T.mn_size l h1
    have b := T.mn_size r h2
    simp only [T.depth, T.size]
    rcases Nat.le_total l.depth r.depth with h | h
    · rw [Nat.max_eq_right h]
      cases hd : r.depth with
      | zero => simp [mn]; omega
      | succ d =>
        have : mn d ≤ mn l.depth := mn_le (by omega)
        rw [hd] at b
        rw [show 1 + (d + 1) = d + 2 by omega]; simp only [mn]; omega
    · rw [Nat.max_eq_left h]
      cases hd : l.depth with
      | zero => simp [mn]; omega
      | succ d =>
        have : mn d ≤ mn r.depth := mn_le (by omega)
        rw [hd] at a
        rw [show 1 + (d + 1) = d + 2 by omega]; simp only [mn]; omega
theorem mn_half : ∀ n, 3 * (mn n + 1) ≤ 2 * (mn (n + 1) + 1)
  | 0 => by decide
  | 1 => by decide
  | n + 2 => by have := mn_half n; have := mn_half (n + 1); simp only [mn] at *; omega
theorem mn_four (n : Nat) : 4 * (mn n + 1) ≤ mn (n + 3) + 1 := by
  have := mn_half n
  show _ ≤ mn (n + 2) + mn (n + 1) + 1 + 1
  simp only [mn]; omega
theorem mn_pow (a : Nat) : ∀ k, 4 ^ k * (mn a + 1) ≤ mn (3 * k + a) + 1
  | 0 => by simp
  | k + 1 => by
    have := mn_pow a k
    have h4 := mn_four (3 * k + a)
    rw [show 3 * (k + 1) + a = 3 * k + a + 3 by omega, Nat.pow_succ]
    have : 4 ^ k * 4 * (mn a + 1) = 4 * (4 ^ k * (mn a + 1)) := by rw [Nat.mul_comm (4 ^ k) 4, Nat.mul_assoc]
    omega
/-- How many bits. -/
def bits : Nat → Nat → Nat
  | 0, _ => 0
  | f + 1, n => if n = 0 then 0 else 1 + bits f (n / 2)
theorem bits_lt : ∀ (f n : Nat), n ≤ f → n < 2 ^ bits f n
  | 0, n, h => by have : n = 0 := by omega
                  subst this; simp [bits]
  | f + 1, n, h => by
    unfold bits
    split
    · rename_i e; subst e; simp
    · have := bits_lt f (n / 2) (by omega)
      rw [Nat.add_comm, Nat.pow_succ]; omega
theorem T.deep {t : T} (h : t.bal) {f : Nat} (hf : t.size + 1 ≤ f) : t.depth ≤ bits f (t.size + 1) * 3 / 2 + 1 := by
  have h1 := bits_lt f (t.size + 1) hf
  have h2 := t.mn_size h
  generalize bits f (t.size + 1) = b at *
  apply Classical.byContradiction
  intro hn
  have hd : b * 3 / 2 + 2 ≤ t.depth := by omega
  have h3 := Nat.le_trans (mn_le hd) h2
  rcases Nat.mod_two_eq_zero_or_one b with hb | hb
  · obtain ⟨k, rfl⟩ : ∃ k, b = 2 * k := ⟨b / 2, by omega⟩
    have h4 := mn_pow 2 k
    have e1 : 2 * k * 3 / 2 + 2 = 3 * k + 2 := by omega
    rw [e1] at h3
    have e2 : 2 ^ (2 * k) = 4 ^ k := by rw [Nat.pow_mul]
    rw [e2] at h1
    have e3 : mn 2 = 2 := by decide
    rw [e3] at h4
    omega
  · obtain ⟨k, rfl⟩ : ∃ k, b = 2 * k + 1 := ⟨b / 2, by omega⟩
    have h4 := mn_pow 3 k
    have e1 : (2 * k + 1) * 3 / 2 + 2 = 3 * k + 3 := by omega
    rw [e1] at h3
    have e2 : 2 ^ (2 * k + 1) = 4 ^ k * 2 := by rw [Nat.pow_succ, Nat.pow_mul]
    rw [e2] at h1
    have e3 : mn 3 = 4 := by decide
    rw [e3] at h4
    omega

/-- One lies ahead of the other, and they are two. -/
def Rx (a b : Ext) : Prop := a.off + a.len ≤ b.off ∧ ¬ a.meets b
/-- A list in its form. -/
def GoodL (l : List Ext) : Prop := (∀ x ∈ l, x.ok) ∧ l.Pairwise Rx
theorem GoodL.nil : GoodL [] := ⟨by simp, .nil⟩
theorem GoodL.sub {l l' : List Ext} (g : GoodL l) (h : l'.Sublist l) : GoodL l' := ⟨fun x hx => g.1 x (h.subset hx), g.2.sublist h⟩
theorem GoodL.left {a b : List Ext} (g : GoodL (a ++ b)) : GoodL a := g.sub (List.sublist_append_left a b)
theorem GoodL.right {a b : List Ext} (g : GoodL (a ++ b)) : GoodL b := g.sub (List.sublist_append_right a b)
theorem GoodL.len_from : ∀ {l : List Ext} {z : Nat}, GoodL l → z ≤ 1024 → (∀ x ∈ l, (z : Int) ≤ x.off) → z + l.length ≤ 1024
  | [], z, _, hz, _ => by simpa using hz
  | x :: l, z, g, hz, ho => by
    have hx := g.1 x (by simp)
    have hxo := ho x (by simp)
    unfold Ext.ok at hx
    have := GoodL.len_from (l := l) (z := z + 1) (g.sub (List.sublist_cons_self x l)) (by omega) fun y hy => by
      have := (List.pairwise_cons.1 g.2).1 y hy
      unfold Rx at this; omega
    simp only [List.length_cons]; omega
theorem GoodL.len {l : List Ext} (g : GoodL l) : l.length ≤ 1024 := by
  have := GoodL.len_from (z := 0) g (by omega) fun x hx => by have := g.1 x hx; unfold Ext.ok at this; omega
  omega
theorem lis_iff : ∀ {l : List Ext} {z : Int}, Lis z l ↔ (∀ x ∈ l, x.ok ∧ z ≤ x.off) ∧ l.Pairwise (fun a b => a.off + a.len ≤ b.off)
  | [], _ => by simp [Lis]
  | x :: l, z => by
    simp only [Lis, List.pairwise_cons, List.mem_cons, forall_eq_or_imp]
    rw [lis_iff (l := l)]
    constructor
    · rintro ⟨h1, h2, h3, h4⟩
      have h1' := h1
      unfold Ext.ok at h1'
      exact ⟨⟨⟨h1, h2⟩, fun y hy => ⟨(h3 y hy).1, by have := (h3 y hy).2; omega⟩⟩, fun y hy => (h3 y hy).2, h4⟩
    · rintro ⟨⟨⟨h1, h2⟩, h3⟩, h4, h5⟩
      exact ⟨h1, h2, fun y hy => ⟨(h3 y hy).1, h4 y hy⟩, h5⟩
theorem adj_iff : ∀ {l : List Ext}, (∀ x ∈ l, x.ok) → l.Pairwise (fun a b => a.off + a.len ≤ b.off) → (Adj l ↔ l.Pairwise Rx)
  | [], _, _ => by simp [Adj]
  | [x], _, _ => by simp [Adj]
  | x :: y :: l, ho, hp => by
    obtain ⟨p1, p2⟩ := List.pairwise_cons.1 hp
    have ih := adj_iff (l := y :: l) (fun z hz => ho z (List.mem_cons_of_mem _ hz)) p2
    rw [List.pairwise_cons, ← ih]
    constructor
    · rintro ⟨h1, h2⟩
      refine ⟨fun z hz => ⟨p1 z hz, ?_⟩, h2⟩
      rcases List.mem_cons.1 hz with rfl | hz
      · exact h1
      · have q := (List.pairwise_cons.1 p2).1 z hz
        have hy := ho y (by simp)
        have := p1 y (by simp)
        unfold Ext.ok at hy
        rintro ⟨m, _⟩; omega
    · exact fun ⟨h1, h2⟩ => ⟨(h1 y (by simp)).2, h2⟩
theorem right_iff {l : List Ext} : RightL l ↔ GoodL l := by
  constructor
  · rintro ⟨h1, h2, h3⟩
    obtain ⟨k1, k2⟩ := lis_iff.1 h2
    exact ⟨fun x hx => (k1 x hx).1, (adj_iff (fun x hx => (k1 x hx).1) k2).1 h3⟩
  · intro g
    have k2 : l.Pairwise (fun a b => a.off + a.len ≤ b.off) := g.2.imp fun h => h.1
    exact ⟨g.len, lis_iff.2 ⟨fun x hx => ⟨g.1 x hx, by have := g.1 x hx; unfold Ext.ok at this; omega⟩, k2⟩, (adj_iff g.1 k2).2 g.2⟩

/-- What of a list lies from one block to ahead of another one. -/
def partL (f t : Int) (l : List Ext) : List Ext := l.flatMap fun x => if x.lies f t then [x.clip f t] else []
theorem partL_append (f t : Int) (a b : List Ext) : partL f t (a ++ b) = partL f t a ++ partL f t b := by simp [partL]
theorem partL_cons (f t : Int) (x : Ext) (l : List Ext) : partL f t (x :: l) = (if x.lies f t then [x.clip f t] else []) ++ partL f t l := by simp [partL]
theorem partL_mem {f t : Int} {l : List Ext} {y : Ext} : y ∈ partL f t l ↔ ∃ x ∈ l, x.lies f t ∧ y = x.clip f t := by
  unfold partL
  rw [List.mem_flatMap]
  constructor
  · rintro ⟨x, hx, hy⟩
    split at hy
    · exact ⟨x, hx, ‹_›, by simpa using hy⟩
    · cases hy
  · rintro ⟨x, hx, hl, rfl⟩
    exact ⟨x, hx, by rw [if_pos hl]; simp⟩
theorem partL_none {f t : Int} {l : List Ext} (h : ∀ x ∈ l, ¬ x.lies f t) : partL f t l = [] := by
  induction l with
  | nil => rfl
  | cons x l ih => rw [partL_cons, if_neg (h x (by simp)), ih fun y hy => h y (List.mem_cons_of_mem _ hy)]; rfl
theorem Ext.clip_all {x : Ext} {f t : Int} (h1 : f ≤ x.off) (h2 : x.off + x.len ≤ t) : x.clip f t = x := by
  unfold Ext.clip
  rw [Int.max_eq_right h1, Int.min_eq_right h2]
  obtain ⟨o, n, p, b⟩ := x
  dsimp only at *
  simp only [Ext.mk.injEq, true_and, and_true]; omega
theorem partL_all {f t : Int} {l : List Ext} (h : ∀ x ∈ l, x.ok ∧ f ≤ x.off ∧ x.off + x.len ≤ t) : partL f t l = l := by
  induction l with
  | nil => rfl
  | cons x l ih =>
    obtain ⟨h1, h2, h3⟩ := h x (by simp)
    unfold Ext.ok at h1
    rw [partL_cons, if_pos (by unfold Ext.lies; omega), ih fun y hy => h y (List.mem_cons_of_mem _ hy), Ext.clip_all h2 h3]; rfl
theorem Rx.clip {a b : Ext} (h : Rx a b) (ha : a.ok) (hb : b.ok) {f t : Int} (la : a.lies f t) (lb : b.lies f t) : Rx (a.clip f t) (b.clip f t) := by
  unfold Rx Ext.meets Ext.ok Ext.lies Ext.clip at *
  dsimp only at *
  refine ⟨by omega, fun ⟨m1, m2, m3⟩ => h.2 ⟨by omega, by omega, m3⟩⟩
theorem GoodL.part {l : List Ext} (g : GoodL l) (f t : Int) : GoodL (partL f t l) := by
  refine ⟨fun y hy => ?_, ?_⟩
  · obtain ⟨x, hx, hl, rfl⟩ := partL_mem.1 hy
    exact Ext.ok_clip (g.1 x hx) hl
  · induction l with
    | nil => exact .nil
    | cons x l ih =>
      have ih := ih (g.sub (List.sublist_cons_self x l))
      rw [partL_cons]
      split
      · rename_i hl
        rw [List.singleton_append, List.pairwise_cons]
        refine ⟨fun y hy => ?_, ih⟩
        obtain ⟨z, hz, hlz, rfl⟩ := partL_mem.1 hy
        exact ((List.pairwise_cons.1 g.2).1 z hz).clip (g.1 x (by simp)) (g.1 z (by simp [hz])) hl hlz
      · simpa using ih
theorem GoodL.mid {a b : List Ext} {x : Ext} (g : GoodL (a ++ x :: b)) : GoodL a ∧ x.ok ∧ GoodL b ∧ (∀ y ∈ a, Rx y x) ∧ (∀ y ∈ b, Rx x y) := by
  obtain ⟨p1, p2, p3⟩ := List.pairwise_append.1 g.2
  exact ⟨g.left, g.1 x (by simp), g.right.sub (List.sublist_cons_self x b), fun y hy => p3 y hy x (by simp), fun y hy => (List.pairwise_cons.1 p2).1 y hy⟩

theorem T.parts_eq (f t : Int) : ∀ {a : T}, GoodL a.list → a.parts f t = partL f t a.list
  | .nil, _ => rfl
  | .node l x r, g => by
    obtain ⟨gl, gx, gr, hl, hr⟩ := g.mid
    simp only [T.parts, T.list, partL_append, partL_cons]
    rw [T.parts_eq f t gl, T.parts_eq f t gr]
    unfold Ext.ok at gx
    congr 1
    · split
      · rfl
      · refine (partL_none fun y hy => ?_).symm
        have := hl y hy; have := gl.1 y hy
        unfold Rx at *; unfold Ext.ok Ext.lies at *; omega
    · congr 1
      split
      · rfl
      · refine (partL_none fun y hy => ?_).symm
        have := hr y hy; have := gr.1 y hy
        unfold Rx at *; unfold Ext.ok Ext.lies at *; omega
theorem T.split_list (o : Int) (h0 : 0 ≤ o) (h1 : o ≤ 1024) : ∀ {a : T}, GoodL a.list → (T.split o a).1.list = partL 0 o a.list ∧ (T.split o a).2.list = partL o 1024 a.list
  | .nil, _ => ⟨rfl, rfl⟩
  | .node l x r, g => by
    obtain ⟨gl, gx, gr, hl, hr⟩ := g.mid
    obtain ⟨il1, il2⟩ := T.split_list o h0 h1 gl
    obtain ⟨ir1, ir2⟩ := T.split_list o h0 h1 gr
    have gx' := gx
    unfold Ext.ok at gx'
    have okl : ∀ y ∈ l.list, y.ok := gl.1
    have okr : ∀ y ∈ r.list, y.ok := gr.1
    unfold T.split
    simp only [T.list, partL_append, partL_cons]
    split
    · rename_i c
      rw [T.join_list, il1, il2]
      have n1 : ¬ x.lies 0 o := by unfold Ext.lies; omega
      have n2 : x.lies o 1024 := by unfold Ext.lies; omega
      rw [if_neg n1, if_pos n2, Ext.clip_all c (by omega)]
      have e1 : partL 0 o r.list = [] := partL_none fun y hy => by have := hr y hy; unfold Rx at this; unfold Ext.lies; omega
      have e2 : partL o 1024 r.list = r.list := partL_all fun y hy => by
        have := hr y hy; have h3 := okr y hy; refine ⟨h3, ?_⟩; unfold Ext.ok at h3; unfold Rx at this; omega
      rw [e1, e2]; simp
    split
    · rename_i c1 c
      rw [T.join_list, ir1, ir2]
      have n1 : x.lies 0 o := by unfold Ext.lies; omega
      have n2 : ¬ x.lies o 1024 := by unfold Ext.lies; omega
      rw [if_neg n2, if_pos n1, Ext.clip_all (by omega) c]
      have e1 : partL o 1024 l.list = [] := partL_none fun y hy => by have := hl y hy; unfold Rx at this; unfold Ext.lies; omega
      have e2 : partL 0 o l.list = l.list := partL_all fun y hy => by
        have := hl y hy; have h3 := okl y hy; refine ⟨h3, ?_⟩; unfold Ext.ok at h3; unfold Rx at this; omega
      rw [e1, e2]; simp
    · rename_i c1 c2
      rw [T.join_list, T.join_list]
      have n1 : x.lies 0 o := by unfold Ext.lies; omega
      have n2 : x.lies o 1024 := by unfold Ext.lies; omega
      rw [if_pos n1, if_pos n2]
      have e1 : partL o 1024 l.list = [] := partL_none fun y hy => by have := hl y hy; unfold Rx at this; unfold Ext.lies; omega
      have e2 : partL 0 o l.list = l.list := partL_all fun y hy => by
        have := hl y hy; have h3 := okl y hy; refine ⟨h3, ?_⟩; unfold Ext.ok at h3; unfold Rx at this; omega
      have e3 : partL 0 o r.list = [] := partL_none fun y hy => by have := hr y hy; unfold Rx at this; unfold Ext.lies; omega
      have e4 : partL o 1024 r.list = r.list := partL_all fun y hy => by
        have := hr y hy; have h3 := okr y hy; refine ⟨h3, ?_⟩; unfold Ext.ok at h3; unfold Rx at this; omega
      rw [e1, e2, e3, e4]
      simp [T.list]
theorem partL_part {l : List Ext} (g : ∀ x ∈ l, x.ok) {a b : Int} (h : a ≤ b) : partL b 1024 (partL a 1024 l) = partL b 1024 l := by
  induction l with
  | nil => rfl
  | cons x l ih =>
    have gx := g x (by simp)
    unfold Ext.ok at gx
    rw [partL_cons, partL_append, ih fun y hy => g y (by simp [hy]), partL_cons]
    congr 1
    split
    · rename_i c
      rw [partL_cons]
      have : (x.clip a 1024).lies b 1024 ↔ x.lies b 1024 := by unfold Ext.lies Ext.clip at *; dsimp only; omega
      simp only [this]
      split
      · rename_i c2
        simp only [partL, List.flatMap_nil, List.append_nil, List.cons.injEq, and_true]
        unfold Ext.lies Ext.clip at *
        simp only [Ext.mk.injEq, and_true]
        dsimp only at *
        have : max a x.off = max a x.off := rfl
        refine ⟨by omega, by omega, by omega⟩
      · rfl
    · rename_i c
      rw [if_neg (by unfold Ext.lies at *; omega)]; rfl

/-- The document's join. -/
def jstep (out : List Ext) (y : Ext) : List Ext :=
  match out.getLast? with
  | some z => if z.meets y then out.dropLast ++ [z.with y] else out ++ [y]
  | none => out ++ [y]
def joinL (l : List Ext) : List Ext := l.foldl jstep []
def putL (l : List Ext) (x : Ext) : List Ext := joinL (partL 0 x.off l ++ [x] ++ partL (x.off + x.len) 1024 l)
def cutL (l : List Ext) (o n : Int) : List Ext := partL 0 o l ++ partL (o + n) 1024 l

theorem jstep_new {out : List Ext} {y : Ext} (h : ∀ z ∈ out, ¬ z.meets y) : jstep out y = out ++ [y] := by
  unfold jstep
  split
  · rename_i z hz
    rw [if_neg (h z (List.mem_of_getLast? hz))]
  · rfl
theorem jstep_one {out : List Ext} {z y : Ext} (h : z.meets y) : jstep (out ++ [z]) y = out ++ [z.with y] := by
  unfold jstep
  rw [List.getLast?_concat]
  simp only [if_pos h, List.dropLast_concat]
theorem jfold_new : ∀ (l out : List Ext), (∀ z ∈ out, ∀ y ∈ l, ¬ z.meets y) → l.Pairwise (fun a b => ¬ a.meets b) → l.foldl jstep out = out ++ l
  | [], out, _, _ => by simp
  | y :: l, out, h, p => by
    obtain ⟨p1, p2⟩ := List.pairwise_cons.1 p
    rw [List.foldl_cons, jstep_new fun z hz => h z hz y (by simp), jfold_new l _ ?_ p2]
    · simp
    · intro z hz w hw
      rcases List.mem_append.1 hz with hz | hz
      · exact h z hz w (by simp [hw])
      · obtain rfl : z = y := by simpa using hz
        exact p1 w hw
theorem GoodL.nm {l : List Ext} (g : GoodL l) : l.Pairwise (fun a b => ¬ a.meets b) := g.2.imp fun h => h.2

/-- Low, what is put, and high. -/
def lowL (l : List Ext) (x : Ext) : List Ext × Ext :=
  match l.getLast? with
  | some y => if y.meets x then (l.dropLast, y.with x) else (l, x)
  | none => (l, x)
def highL (x : Ext) (r : List Ext) : Ext × List Ext :=
  match r with
  | y :: r => if x.meets y then (x.with y, r) else (x, y :: r)
  | [] => (x, [])
theorem T.lowOf_list (l : T) (x : Ext) : (T.lowOf l x).1.list = (lowL l.list x).1 ∧ (T.lowOf l x).2 = (lowL l.list x).2 := by
  unfold T.lowOf lowL
  cases l with
  | nil => exact ⟨rfl, rfl⟩
  | node ll lx lr =>
    have e := T.last_list lr ll lx
    dsimp only
    rw [show (T.node ll lx lr).list = (T.last ll lx lr).1.list ++ [(T.last ll lx lr).2] from e.symm]
    rw [List.getLast?_concat]
    dsimp only
    split
    · rw [List.dropLast_concat]; exact ⟨rfl, rfl⟩
    · exact ⟨e.symm, rfl⟩
theorem T.highOf_list (x : Ext) (r : T) : (T.highOf x r).1 = (highL x r.list).1 ∧ (T.highOf x r).2.list = (highL x r.list).2 := by
  unfold T.highOf
  cases r with
  | nil => exact ⟨rfl, rfl⟩
  | node rl rx rr =>
    have e := T.first_list rl rx rr
    dsimp only
    rw [show (T.node rl rx rr).list = (T.first rl rx rr).1 :: (T.first rl rx rr).2.list from e.symm]
    unfold highL
    dsimp only
    split
    · exact ⟨rfl, rfl⟩
    · exact ⟨rfl, e.symm⟩
theorem T.put_list (l : T) (x : Ext) (r : T) : (T.put l x r).list = (lowL l.list x).1 ++ (highL (lowL l.list x).2 r.list).1 :: (highL (lowL l.list x).2 r.list).2 := by
  unfold T.put
  rw [T.join_list, (T.lowOf_list l x).1, (T.highOf_list _ r).1, (T.highOf_list _ r).2, (T.lowOf_list l x).2]

theorem snoc_of {l : List Ext} {y : Ext} (h : l.getLast? = some y) : l = l.dropLast ++ [y] := by
  have hne : l ≠ [] := by rintro rfl; cases h
  rw [List.getLast?_eq_some_getLast hne] at h
  have h2 : l.getLast hne = y := Option.some.inj h
  rw [← h2]; exact (List.dropLast_concat_getLast hne).symm
/-- What stands then: a list in its form. -/
theorem low_good {l : List Ext} {x : Ext} (g : GoodL l) (hx : x.ok) (hl : ∀ y ∈ l, y.off + y.len ≤ x.off) :
    GoodL ((lowL l x).1 ++ [(lowL l x).2]) ∧ (lowL l x).2.off + (lowL l x).2.len = x.off + x.len ∧ (lowL l x).2.phys + (lowL l x).2.len = x.phys + x.len ∧ (lowL l x).2.birth = x.birth ∧ l.foldl jstep [] ++ [] = l ∧ jstep l x = (lowL l x).1 ++ [(lowL l x).2] := by
  have ef : l.foldl jstep [] ++ [] = l := by rw [jfold_new l [] (by simp) g.nm]; simp
  unfold lowL
  cases hg : l.getLast? with
  | none =>
    have : l = [] := by simpa using hg
    subst this
    exact ⟨⟨by simpa using hx, by simp⟩, rfl, rfl, rfl, rfl, rfl⟩
  | some y =>
    have es := snoc_of hg
    dsimp only
    have hyl := List.mem_of_getLast? hg
    have hy := g.1 y hyl
    split
    · rename_i hm
      have hw := Ext.ok_with hy hx hm
      have hm' := hm
      unfold Ext.meets at hm'
      have g2 := g
      rw [es] at g2
      obtain ⟨p1, p2, p3⟩ := List.pairwise_append.1 g2.2
      refine ⟨⟨fun z hz => ?_, List.pairwise_append.2 ⟨p1, by simp, fun a ha b hb => ?_⟩⟩, ?_, ?_, ?_, ef, ?_⟩
      · rcases List.mem_append.1 hz with hz | hz
        · exact g2.1 z (List.mem_append_left _ hz)
        · obtain rfl : z = _ := by simpa using hz
          exact hw
      · obtain rfl : b = _ := by simpa using hb
        have := p3 a ha y (by simp)
        unfold Rx Ext.meets Ext.with at *
        exact this
      · unfold Ext.with; dsimp only; omega
      · unfold Ext.with; dsimp only; omega
      · exact hm'.2.2
      · conv => lhs; rw [es]
        exact jstep_one hm
    · rename_i hm
      have nm : ∀ z ∈ l, ¬ z.meets x := fun z hz => by
        rw [es] at hz
        rcases List.mem_append.1 hz with hz | hz
        · have g2 := g.2
          rw [es] at g2
          have := (List.pairwise_append.1 g2).2.2 z hz y (by simp)
          have hyx := hl y hyl
          unfold Rx Ext.meets Ext.ok at *; omega
        · obtain rfl : z = y := by simpa using hz
          exact hm
      refine ⟨⟨fun z hz => ?_, List.pairwise_append.2 ⟨g.2, by simp, fun a ha b hb => ?_⟩⟩, rfl, rfl, rfl, ef, jstep_new nm⟩
      · rcases List.mem_append.1 hz with hz | hz
        · exact g.1 z hz
        · obtain rfl : z = x := by simpa using hz
          exact hx
      · obtain rfl : b = x := by simpa using hb
        exact ⟨hl a ha, nm a ha⟩
theorem high_good {l r : List Ext} {x : Ext} (g : GoodL (l ++ [x])) (gr : GoodL r) (hr : ∀ y ∈ r, x.off + x.len ≤ y.off) :
    GoodL (l ++ (highL x r).1 :: (highL x r).2) ∧ r.foldl jstep (l ++ [x]) = l ++ (highL x r).1 :: (highL x r).2 := by
  obtain ⟨p1, p2, p3⟩ := List.pairwise_append.1 g.2
  have hx := g.1 x (by simp)
  have lx : ∀ a ∈ l, Rx a x := fun a ha => p3 a ha x (by simp)
  have far : ∀ a ∈ l, ∀ y ∈ r, Rx a y := fun a ha y hy => by
    have h1 := lx a ha; have h2 := hr y hy
    unfold Rx Ext.meets Ext.ok at *; omega
  unfold highL
  cases r with
  | nil => exact ⟨g, rfl⟩
  | cons y r =>
    dsimp only
    have hy := gr.1 y (by simp)
    obtain ⟨q1, q2⟩ := List.pairwise_cons.1 gr.2
    split
    · rename_i hm
      have hw := Ext.ok_with hx hy hm
      have hm' := hm
      unfold Ext.meets at hm'
      have hwr : ∀ z ∈ r, Rx (x.with y) z := fun z hz => by
        have h1 := q1 z hz
        unfold Rx Ext.meets Ext.with at *; dsimp only; omega
      have hlw : ∀ a ∈ l, Rx a (x.with y) := fun a ha => by
        have h1 := lx a ha
        unfold Rx Ext.meets Ext.with at *; exact h1
      refine ⟨⟨fun z hz => ?_, List.pairwise_append.2 ⟨p1, List.pairwise_cons.2 ⟨hwr, q2⟩, fun a ha b hb => ?_⟩⟩, ?_⟩
      · rcases List.mem_append.1 hz with hz | hz
        · exact g.1 z (List.mem_append_left _ hz)
        · rcases List.mem_cons.1 hz with rfl | hz
          · exact hw
          · exact gr.1 z (List.mem_cons_of_mem _ hz)
      · rcases List.mem_cons.1 hb with rfl | hb
        · exact hlw a ha
        · exact far a ha b (List.mem_cons_of_mem _ hb)
      · rw [List.foldl_cons, jstep_one hm, jfold_new r _ ?_ (gr.nm.sublist (List.sublist_cons_self y r))]
        · simp
        · intro z hz w hw2
          rcases List.mem_append.1 hz with hz | hz
          · exact (far z hz w (List.mem_cons_of_mem _ hw2)).2
          · obtain rfl : z = _ := by simpa using hz
            exact (hwr w hw2).2
    · rename_i hm
      have hxr : ∀ z ∈ y :: r, Rx x z := fun z hz => by
        refine ⟨hr z hz, ?_⟩
        rcases List.mem_cons.1 hz with rfl | hz
        · exact hm
        · have h1 := q1 z hz; have h2 := hr y (by simp)
          unfold Rx Ext.meets Ext.ok at *; omega
      refine ⟨⟨fun z hz => ?_, List.pairwise_append.2 ⟨p1, List.pairwise_cons.2 ⟨hxr, gr.2⟩, fun a ha b hb => ?_⟩⟩, ?_⟩
      · rcases List.mem_append.1 hz with hz | hz
        · exact g.1 z (List.mem_append_left _ hz)
        · rcases List.mem_cons.1 hz with rfl | hz
          · exact hx
          · exact gr.1 z hz
      · rcases List.mem_cons.1 hb with rfl | hb
        · exact lx a ha
        · exact far a ha b hb
      · rw [jfold_new (y :: r) _ ?_ gr.nm]
        · simp
        · intro z hz w hw2
          rcases List.mem_append.1 hz with hz | hz
          · exact (far z hz w hw2).2
          · obtain rfl : z = x := by simpa using hz
            exact (hxr w hw2).2

/-- A tree that may be. -/
def GT (t : T) : Prop := GoodL t.list ∧ t.bal
theorem GT.nil : GT .nil := ⟨GoodL.nil, trivial⟩
theorem GT.okT {t : T} (g : GT t) : okT t := ⟨T.all_list.2 g.1.1, by rw [T.size_list]; have := g.1.len; omega⟩
theorem Tput_good {t : T} {x : Ext} (g : GT t) (hx : x.ok) : GT (Tput t x) ∧ (Tput t x).list = putL t.list x := by
  have hx' := hx
  unfold Ext.ok at hx'
  unfold Tput
  obtain ⟨s1, s2⟩ := T.split_list x.off (by omega) (by omega) g.1
  have g2 : GoodL (T.split x.off t).2.list := by rw [s2]; exact g.1.part _ _
  obtain ⟨_, s4⟩ := T.split_list (x.off + x.len) (by omega) (by omega) g2
  rw [s2, partL_part g.1.1 (by omega)] at s4
  have gl := g.1.part 0 x.off
  have gh := g.1.part (x.off + x.len) 1024
  have hl : ∀ y ∈ partL 0 x.off t.list, y.off + y.len ≤ x.off := fun y hy => by
    obtain ⟨z, hz, hlz, rfl⟩ := partL_mem.1 hy
    unfold Ext.clip Ext.lies at *; dsimp only; omega
  have hh : ∀ y ∈ partL (x.off + x.len) 1024 t.list, x.off + x.len ≤ y.off := fun y hy => by
    obtain ⟨z, hz, hlz, rfl⟩ := partL_mem.1 hy
    unfold Ext.clip Ext.lies at *; dsimp only; omega
  obtain ⟨a1, a2, a3, a4, a5, a6⟩ := low_good gl hx hl
  obtain ⟨b1, b2⟩ := high_good a1 gh (fun y hy => by rw [a2]; exact hh y hy)
  have el := T.put_list (T.split x.off t).1 x (T.split (x.off + x.len) (T.split x.off t).2).2
  rw [s1, s4] at el
  have bb := T.split_bal x.off t g.2
  have bc := T.split_bal (x.off + x.len) _ bb.2
  refine ⟨⟨by rw [el]; exact b1, T.put_bal bb.1 bc.2⟩, ?_⟩
  rw [el, ← b2]
  unfold putL joinL
  rw [List.foldl_append, List.foldl_append, List.foldl_cons, List.foldl_nil]
  rw [List.append_nil] at a5
  rw [a5, a6]
theorem Tcut_good {t : T} {o n : Int} (g : GT t) (hb : Blks o n) : GT (Tcut t o n) ∧ (Tcut t o n).list = cutL t.list o n := by
  unfold Blks at hb
  unfold Tcut
  obtain ⟨s1, s2⟩ := T.split_list o (by omega) (by omega) g.1
  have g2 : GoodL (T.split o t).2.list := by rw [s2]; exact g.1.part _ _
  obtain ⟨_, s4⟩ := T.split_list (o + n) (by omega) (by omega) g2
  rw [s2, partL_part g.1.1 (by omega)] at s4
  have el : ∀ l r : T, (T.both l r).list = l.list ++ r.list := fun l r => by
    unfold T.both
    cases l with
    | nil => rfl
    | node ll lx lr =>
      dsimp only
      have e := T.last_list lr ll lx
      rw [T.join_list]
      show _ = (ll.list ++ lx :: lr.list) ++ r.list
      rw [← e, List.append_assoc]; rfl
  have bb := T.split_bal o t g.2
  have bc := T.split_bal (o + n) _ bb.2
  have e := el (T.split o t).1 (T.split (o + n) (T.split o t).2).2
  rw [s1, s4] at e
  refine ⟨⟨?_, T.both_bal bb.1 bc.2⟩, e⟩
  rw [e]
  have gl := g.1.part 0 o
  have gh := g.1.part (o + n) 1024
  refine ⟨fun x hx => (List.mem_append.1 hx).elim (gl.1 x) (gh.1 x), List.pairwise_append.2 ⟨gl.2, gh.2, fun a ha b hb => ?_⟩⟩
  obtain ⟨z, hz, hlz, rfl⟩ := partL_mem.1 ha
  obtain ⟨w, hw, hlw, rfl⟩ := partL_mem.1 hb
  unfold Rx Ext.meets Ext.clip Ext.lies at *
  dsimp only
  omega
end Go.Proofs.YtedpfdflolkpeaaGreatDoor
