/- pack's Reader: what each of its functions does. -/
import Derived.Test.YtolnacokdjognaaAmNum
import Derived.Test.YtolnacokdjognaaTypes
set_option linter.unusedSimpArgs false
set_option linter.unusedVariables false
set_option linter.unnecessarySimpa false
set_option maxRecDepth 100000
namespace Go.Proofs.Ytolnacokdjognaa
open Go.AM
theorem mixed : Try.prog.follows .mixedOrders = true := by kernel_rfl

/-- A reader: its bytes, its place, its fault. -/
structure RdS where
  bs : List Nat
  at_ : Nat
  why : Int
  fat : Int

def RdS.bad (s : RdS) : Prop := ¬ (s.why = 0 ∧ s.fat = 0)
instance (s : RdS) : Decidable s.bad := inferInstanceAs (Decidable (¬ _))

/-- A reader's cells. -/
def rdc (v : Value) (s : RdS) : AObj := .cells [v, .int .i64 s.at_, .int .i64 s.why, .int .i64 s.fat] .rw

/-- A reader that stands in an object. -/
def RdAt (S : Nat → Prop) (h : AHeap) (id : Nat) (v : Value) (s : RdS) : Prop := h.get id = rdc v s ∧ Bytes S h s.bs v ∧ ¬ S id ∧ s.at_ ≤ s.bs.length

theorem RdAt.lt {S : Nat → Prop} {h : AHeap} {id : Nat} {v : Value} {s : RdS} (hr : RdAt S h id v s) : id < h.next := AHeap.lt_of_alive h (by rw [hr.1]; simp [rdc])
theorem RdAt.quiet {S : Nat → Prop} {h h' : AHeap} {id : Nat} {v : Value} {s : RdS} (hr : RdAt S h id v s) (q : h.quiet h') : RdAt S h' id v s := ⟨by rw [q.2 id hr.lt]; exact hr.1, hr.2.1.quiet q, hr.2.2⟩
theorem RdAt.set {S : Nat → Prop} {h : AHeap} {id : Nat} {v : Value} {s s' : RdS} (hr : RdAt S h id v s) (hb : s'.bs = s.bs) (ha : s'.at_ ≤ s.bs.length) : RdAt S (h.set id (rdc v s')) id v s' :=
  ⟨AHeap.get_set_self _ _ hr.lt, by rw [hb]; exact hr.2.1.fr (Fw.set _) (fun j hj _ e => hr.2.2.1 (e ▸ hj)), hr.2.2.1, by rw [hb]; exact ha⟩

theorem RdAt.fw {S : Nat → Prop} {h h' : AHeap} {id : Nat} {v : Value} {s s' : RdS} (hr : RdAt S h id v s) (f : Fw (· = id) h h') (hg : h'.get id = rdc v s') (hb : s'.bs = s.bs) (ha : s'.at_ ≤ s.bs.length) : RdAt S h' id v s' :=
  ⟨hg, by rw [hb]; exact hr.2.1.fr f (fun j hj _ e => hr.2.2.1 (e ▸ hj)), hr.2.2.1, by rw [hb]; exact ha⟩

def RdS.wrong (s : RdS) (e p : Int) : RdS := if s.why = 0 ∧ s.fat = 0 then { s with why := e, fat := p } else s
@[simp] theorem RdS.wrong_bs (s : RdS) (e p : Int) : (s.wrong e p).bs = s.bs := by unfold RdS.wrong; split <;> rfl
@[simp] theorem RdS.wrong_at (s : RdS) (e p : Int) : (s.wrong e p).at_ = s.at_ := by unfold RdS.wrong; split <;> rfl

section
variable {h : AHeap} {id : Nat} {v : Value} {s : RdS} {S : Nat → Prop}

theorem left_ok (hr : RdAt S h id v s) : Does Try.prog 67 #[.pointer (some ⟨id, 0, none⟩)] h (fun u h' => u = .int .i64 (s.bs.length - s.at_) ∧ h' = h) := by
  obtain ⟨hg, hb, hn, ha⟩ := hr
  obtain ⟨a, cap, rfl⟩ := hb.shape
  have hl := hb.len
  refine spec_go mixed Try.func67 rfl Try.results67 (n := Try.f67.ntmps) (by kernel_rfl) (by simp) ?_
  simp only [go_sem, simprocAttr, hg, rdc]
  simp (disch := omega) only [wi64, wu64, wu8, wu32]

theorem well_ok (hr : RdAt S h id v s) : Does Try.prog 66 #[.pointer (some ⟨id, 0, none⟩)] h (fun u h' => u = .bool (decide (s.why = 0 ∧ s.fat = 0)) ∧ h' = h) := by
  refine spec_go mixed Try.func66 rfl Try.results66 (n := Try.f66.ntmps) (by kernel_rfl) (by simp) ?_
  simp only [go_sem, simprocAttr, hr.1, rdc]
  simp

theorem wrong_ok (hr : RdAt S h id v s) (e p : Int) :
    Does Try.prog 48 #[.pointer (some ⟨id, 0, none⟩), .int .i64 e, .int .i64 p] h (fun u h' => u = .tuple #[] ∧ RdAt S h' id v (s.wrong e p) ∧ Fw (· = id) h h') := by
  refine spec_go mixed Try.func48 rfl Try.results48 (n := Try.f48.ntmps) (by kernel_rfl) (by simp) ?_
  simp only [go_sem, simprocAttr]
  refine cl_spec (well_ok hr) (fun _ _ _ hc => absurd hc (by decide +kernel)) ?_
  rintro u h' ⟨rfl, rfl⟩
  simp only [go_sem, simprocAttr]
  refine cnd_decide (fun hw => ?_) (fun hw => ?_)
  · simp only [go_sem, simprocAttr, hr.1, rdc]
    have := hr.set (s' := s.wrong e p) (by simp) (by simpa using hr.2.2.2)
    rw [RdS.wrong, if_pos hw] at this ⊢
    exact ⟨this, .set _⟩
  · simp only [go_sem, simprocAttr]
    rw [RdS.wrong, if_neg hw]
    exact ⟨hr, .refl _ _⟩

theorem skip_ok (hr : RdAt S h id v s) {m : Nat} (hm : s.at_ + m ≤ s.bs.length) :
    Does Try.prog 49 #[.pointer (some ⟨id, 0, none⟩), .int .i64 m] h
      (fun u h' => h' = h.set id (rdc v { s with at_ := s.at_ + m }) ∧ Bytes S h' ((s.bs.drop s.at_).take m) u) := by
  have hr' := hr.set (s' := { s with at_ := s.at_ + m }) rfl hm
  obtain ⟨hg, hb, hn, ha⟩ := hr
  obtain ⟨a, cap, rfl⟩ := hb.shape
  have hl := hb.len
  obtain ⟨a', cap', hsl, hby⟩ := hr'.2.1.slice 1 rfl (l := s.at_) (m := s.at_ + m) (by omega) hm
  rw [show s.at_ + m - s.at_ = m by omega] at hsl hby
  have e1 : IntKind.i64.wrap ((s.at_ : Int) + m) = ((s.at_ + m : Nat) : Int) := by rw [wi64] <;> omega
  have e2 : IntKind.i64.wrap (((s.at_ + m : Nat) : Int) - m) = (s.at_ : Int) := by rw [wi64] <;> omega
  refine spec_go mixed Try.func49 rfl Try.results49 (n := Try.f49.ntmps) (by kernel_rfl) (by simp) ?_
  simp only [go_sem, simprocAttr, hg, rdc, AHeap.get_set_self h _ (AHeap.lt_of_alive h (show h.get id ≠ .dead by rw [hg]; simp [rdc])), e1, e2, hsl]
  exact hby

/-- What stands at the place. -/
def RdS.peek (s : RdS) : Option Nat := if s.why = 0 ∧ s.fat = 0 ∧ s.at_ + 8 ≤ s.bs.length then some (leN ((s.bs.drop s.at_).take 8)) else none
def RdS.short (s : RdS) : RdS := if s.at_ + 8 ≤ s.bs.length then s else s.wrong 3 s.bs.length

@[simp] theorem RdS.short_bs (s : RdS) : s.short.bs = s.bs := by unfold RdS.short; split <;> simp
@[simp] theorem RdS.short_at (s : RdS) : s.short.at_ = s.at_ := by unfold RdS.short; split <;> simp

/-- Eight bytes from a place on. -/
theorem peek_ok (hr : RdAt S h id v s) : Does Try.prog 47 #[.pointer (some ⟨id, 0, none⟩)] h
      (fun u h' => u = .tuple #[.int .u64 (s.peek.getD 0 : Nat), .bool s.peek.isSome] ∧ RdAt S h' id v s.short ∧ Fw (· = id) h h' ∧ (s.peek.isSome → h' = h)) := by
  refine spec_go mixed Try.func47 rfl Try.results47 (n := Try.f47.ntmps) (by kernel_rfl) (by simp) ?_
  simp only [go_sem, simprocAttr]
  refine cl_spec (well_ok hr) (fun u h' hp _ => by obtain ⟨_, rfl⟩ := hp; exact .refl _) ?_
  rintro u h' ⟨rfl, rfl⟩
  by_cases hw : s.why = 0 ∧ s.fat = 0
  · simp only [go_sem, simprocAttr, hw]
    refine cl_spec (left_ok hr) (fun u h' hp _ => by obtain ⟨_, rfl⟩ := hp; exact .refl _) ?_
    rintro u h' ⟨rfl, rfl⟩
    simp only [go_sem, simprocAttr]
    have hl : s.bs.length ≤ 9223372036854775807 := by obtain ⟨a, cap, e⟩ := hr.2.1.shape; have := hr.2.1; rw [e] at this; exact this.len.2.1
    refine cnd_decide (fun hx => ?_) (fun hx => ?_)
    · have hn8 : ¬ s.at_ + 8 ≤ s.bs.length := by omega
      obtain ⟨a, cap, rfl⟩ := hr.2.1.shape
      simp only [go_sem, simprocAttr, hr.1, rdc]
      refine cl_spec (wrong_ok hr 3 s.bs.length) (fun _ _ _ hc => absurd hc (by decide +kernel)) ?_
      rintro u h' ⟨rfl, h1, h2⟩
      simp only [go_sem, simprocAttr, RdS.peek, hw, RdS.short, if_neg hn8, Option.getD_none, Option.isSome_none]
      exact ⟨h1, h2, by simp⟩
    · have h8 : s.at_ + 8 ≤ s.bs.length := by omega
      obtain ⟨a, cap, rfl⟩ := hr.2.1.shape
      obtain ⟨a', cap', hsl, hby⟩ := hr.2.1.slice 1 rfl (l := s.at_) (m := s.at_ + 8) (by omega) h8
      rw [show s.at_ + 8 - s.at_ = 8 by omega] at hsl hby
      have e2 : IntKind.i64.wrap ((s.at_ : Int) + 8) = ((s.at_ + 8 : Nat) : Int) := by rw [wi64] <;> omega
      have hpk : s.peek = some (leN ((s.bs.drop s.at_).take 8)) := by unfold RdS.peek; rw [if_pos ⟨hw.1, hw.2, h8⟩]
      have hsh : s.short = s := by unfold RdS.short; rw [if_pos h8]
      rw [hpk, hsh]
      generalize hseg : (s.bs.drop s.at_).take 8 = seg at hby ⊢
      have hl8 : seg.length = 8 := hby.len.1.symm
      have hb256 : ∀ b ∈ seg, b < 256 := fun b hb => by have := hby.vals rfl b hb; rw [u8_max] at this; omega
      simp only [go_sem, simprocAttr, hr.1, rdc, e2, hsl]
      refine go_loop (fun m ρ k => k = h' ∧ ∃ i : Nat, i ≤ 8 ∧ m = 8 - i ∧ ρ 47 = .slice a' 8 cap' ∧ ρ 48 = .int .i64 8 ∧ ρ 49 = .int .i64 i ∧ ρ 4 = .int .u64 (leN (seg.take i) : Nat)) 8 ⟨rfl, 0, by omega, by omega, by simp only [go_sem, simprocAttr], by simp only [go_sem, simprocAttr], by simp only [go_sem, simprocAttr]; try rfl, by simp only [go_sem, simprocAttr, List.take_zero, leN]; try rfl⟩ ?_
      rintro m ρ k ⟨rfl, i, hi, rfl, h47, h48, h49, h4⟩
      simp only [go_sem, simprocAttr, h47, h48, h49, h4]
      refine cnd_decide (fun hx => ?_) (fun hx => ?_)
      · obtain ⟨b, off, sp, c, md, x, rfl, _, hg, hx', _, hc⟩ := hby.atN (show i < 8 by omega)
        have e5 : IntKind.i64.wrap (8 * (i : Int)) = ((8 * i : Nat) : Int) := by rw [wi64] <;> omega
        have e6 : IntKind.u64.wrap (x : Int) = x := by have := hb256 x (List.mem_of_getElem? hx'); rw [wu64] <;> omega
        have e9 : IntKind.i64.wrap ((i : Int) + 1) = ((i + 1 : Nat) : Int) := by rw [wi64] <;> omega
        have e8 := le_step hb256 hx' (by omega)
        simp only [go_sem, simprocAttr, h47, h48, h49, h4, hg, hx, hc, e5, e6, e9]
        refine Hold.mk ⟨7 - i, by omega, rfl, i + 1, by omega, by omega, ?_⟩
        simp only [go_sem, simprocAttr, h47, h48]
        exact congrArg (Value.int .u64) e8
      · simp only [go_sem, simprocAttr, h47, h48, h49, h4]
        rw [List.take_of_length_le (by omega)]
        exact ⟨by simp, hr, .refl _ _, fun _ => trivial⟩
  · simp only [go_sem, simprocAttr, hw]
    have : s.peek = none := by unfold RdS.peek; rw [if_neg (fun e => hw ⟨e.1, e.2.1⟩)]
    have h2 : s.short = s := by unfold RdS.short; split <;> simp [RdS.wrong, hw]
    rw [this, h2]
    exact ⟨by simp, hr, .refl _ _, fun h => by simp at h⟩

theorem cloneL_ok {bs : List Nat} (hb : Bytes S h bs v) (hn : bs.length ≤ 140737488355328) :
    Does Try.prog 46 #[v] h (fun u h' => h.quiet h' ∧ Lst rB h.next (fun _ => False) h' bs u) := by
  obtain ⟨a, cap, rfl⟩ := hb.shape
  refine spec_go mixed Try.func46 rfl Try.results46 (n := Try.f46.ntmps) (by kernel_rfl) (by simp) ?_
  rcases a with _ | ad
  · have hl := hb.len
    have h0 : bs = [] := by obtain ⟨a', cap', css, e, h1, h2, h3, _⟩ := hb; cases e; have := h3 rfl; exact List.eq_nil_of_length_eq_zero (by omega)
    subst h0
    simp only [go_sem, simprocAttr]
    first | exact ⟨.refl _, .nil _ _ _ _⟩ | exact .nil _ _ _ _
  · have hq : h.quiet (h.push (.cells [] .rw)) := .push _ _
    obtain ⟨css, e1, ha⟩ := (hb.quiet hq).acells 1 rfl
    simp only [go_sem, simprocAttr, e1, ha.ones, List.length_nil]
    obtain ⟨u, h', e, hl, hf, _⟩ := (Lst.empty rB (lo := h.next) (T := fun _ => False) (h := h.push (.cells [] .rw)) (b := h.next) (o := 0) (Nat.le_refl _) (by simp)).app 1 rfl (bytes := 1) (n := bs.length)
      (nat_all2 (fun n hn => by have := hb.vals rfl n hn; exact this)) rfl (by simpa using hn) (by simp; omega) (by simp)
    rw [nat_flat, ← (nat_cells ha).1] at e
    simp only [go_sem, simprocAttr, e]
    exact ⟨Fw.behind hq hf (fun j hj => by simp at hj; omega), hl⟩
theorem clone_ok {bs : List Nat} (hb : Bytes S h bs v) (hn : bs.length ≤ 140737488355328) :
    Does Try.prog 46 #[v] h (fun u h' => h.quiet h' ∧ IsSl rB (fun j => h.next ≤ j) h' bs u) :=
  (cloneL_ok hb hn).mono fun u h' hp => ⟨hp.1, hp.2.isSl (fun j hj _ => hj.elim) (fun j hj => hj)⟩

def RdS.get (s : RdS) : Nat × RdS := match s.peek with | some n => (n, { s with at_ := s.at_ + 8 }) | none => (0, s.short)
def RdS.int (s : RdS) (most : Int) : Int × RdS := match s.peek with | none => (0, s.short) | some n => if most < 0 ∨ most < n then (0, s.wrong 6 s.at_) else (n, { s with at_ := s.at_ + 8 })
def RdS.part (s : RdS) : List Nat × RdS := match s.peek with
  | none => ([], s.short)
  | some n => if 2147483648 < n then ([], s.wrong 6 s.at_) else if s.bs.length < s.at_ + 8 + n then ([], s.wrong 3 s.bs.length) else ((s.bs.drop (s.at_ + 8)).take n, { s with at_ := s.at_ + 8 + n })
def RdS.fin (s : RdS) : RdS := if s.at_ < s.bs.length then s.wrong 16 s.at_ else s

theorem RdS.peek_some {s : RdS} {n : Nat} (hp : s.peek = some n) : s.at_ + 8 ≤ s.bs.length ∧ s.short = s ∧ s.why = 0 ∧ s.fat = 0 ∧ n = leN ((s.bs.drop s.at_).take 8) := by
  unfold RdS.peek at hp
  split at hp
  · rename_i hc; cases hp; exact ⟨hc.2.2, by unfold RdS.short; rw [if_pos hc.2.2], hc.1, hc.2.1, rfl⟩
  · cases hp
theorem RdAt.leN_lt {n : Nat} (hr : RdAt S h id v s) (hp : s.peek = some n) : n < 18446744073709551616 := by
  obtain ⟨h1, _, _, _, rfl⟩ := RdS.peek_some hp
  have := Go.AM.leN_lt (bs := (s.bs.drop s.at_).take 8) (fun b hb => by have := hr.2.1.vals rfl b (List.mem_of_mem_drop (List.mem_of_mem_take hb)); rw [u8_max] at this; omega)
  rw [show ((s.bs.drop s.at_).take 8).length = 8 by simp; omega] at this
  exact this

theorem get_ok (hr : RdAt S h id v s) : Does Try.prog 68 #[.pointer (some ⟨id, 0, none⟩)] h
      (fun u h' => u = .int .u64 (s.get.1 : Nat) ∧ RdAt S h' id v s.get.2 ∧ Fw (· = id) h h') := by
  refine spec_go mixed Try.func68 rfl Try.results68 (n := Try.f68.ntmps) (by kernel_rfl) (by simp) ?_
  simp only [go_sem, simprocAttr]
  refine cl_spec (peek_ok hr) (fun _ _ _ hc => absurd hc (by decide +kernel)) ?_
  rintro u h' ⟨rfl, h1, h2, h3⟩
  unfold RdS.get
  cases hp : s.peek with
  | none => simp only [go_sem, simprocAttr, hp, Option.getD_none, Option.isSome_none]; exact ⟨h1, h2⟩
  | some n =>
    obtain ⟨k1, k2, _⟩ := RdS.peek_some hp
    rw [hp] at h3; have := h3 rfl; subst this
    simp only [go_sem, simprocAttr, hp, Option.getD_some]
    refine cl_spec (skip_ok hr (m := 8) k1) (fun _ _ _ hc => absurd hc (by decide +kernel)) ?_
    rintro u h' ⟨rfl, _⟩
    simp only [go_sem, simprocAttr]
    exact ⟨hr.set rfl k1, .set _⟩

theorem int_ok (hr : RdAt S h id v s) {most : Int} (hm : most ≤ 9223372036854775807) : Does Try.prog 24 #[.pointer (some ⟨id, 0, none⟩), .int .i64 most] h
      (fun u h' => u = .int .i64 (s.int most).1 ∧ RdAt S h' id v (s.int most).2 ∧ Fw (· = id) h h') := by
  refine spec_go mixed Try.func24 rfl Try.results24 (n := Try.f24.ntmps) (by kernel_rfl) (by simp) ?_
  simp only [go_sem, simprocAttr]
  refine cl_spec (peek_ok hr) (fun _ _ _ hc => absurd hc (by decide +kernel)) ?_
  rintro u h' ⟨rfl, h1, h2, h3⟩
  unfold RdS.int
  cases hp : s.peek with
  | none => simp only [go_sem, simprocAttr, hp, Option.getD_none, Option.isSome_none]; exact ⟨h1, h2⟩
  | some n =>
    obtain ⟨k1, k2, _⟩ := RdS.peek_some hp
    have hn := hr.leN_lt hp
    rw [hp] at h3; have := h3 rfl; subst this
    simp only [go_sem, simprocAttr, hp, Option.getD_some]
    by_cases hneg : most < 0
    · simp only [go_sem, simprocAttr, hneg, hr.1, rdc]
      refine cl_spec (wrong_ok hr 6 s.at_) (fun _ _ _ hc => absurd hc (by decide +kernel)) ?_
      rintro u h' ⟨rfl, h1, h2⟩
      simp only [go_sem, simprocAttr]
      exact ⟨h1, h2⟩
    · have e : IntKind.u64.wrap most = most := by rw [wu64] <;> omega
      simp only [go_sem, simprocAttr, hneg, e]
      refine cnd_decide (fun hx => ?_) (fun hx => ?_)
      · simp only [go_sem, simprocAttr, hr.1, rdc, hx]
        refine cl_spec (wrong_ok hr 6 s.at_) (fun _ _ _ hc => absurd hc (by decide +kernel)) ?_
        rintro u h' ⟨rfl, h1, h2⟩
        simp only [go_sem, simprocAttr]
        exact ⟨h1, h2⟩
      · simp only [go_sem, simprocAttr, hx]
        refine cl_spec (skip_ok hr (m := 8) k1) (fun _ _ _ hc => absurd hc (by decide +kernel)) ?_
        rintro u h' ⟨rfl, _⟩
        have e : IntKind.i64.wrap (n : Int) = n := by rw [wi64] <;> omega
        simp only [go_sem, simprocAttr, e]
        exact ⟨hr.set rfl k1, .set _⟩

theorem fault_ok (hr : RdAt S h id v s) : Does Try.prog 25 #[.pointer (some ⟨id, 0, none⟩)] h
      (fun u h' => u = .agg #[.int .i64 s.why, .int .i64 s.fat] ∧ h.quiet h') := by
  refine spec_go mixed Try.func25 rfl Try.results25 (n := Try.f25.ntmps) (by kernel_rfl) (by simp) ?_
  simp only [go_sem, simprocAttr, hr.1, rdc, AHeap.get_push_lt _ _ hr.lt]
  all_goals exact .push _ _

theorem fin_ok (hr : RdAt S h id v s) : Does Try.prog 76 #[.pointer (some ⟨id, 0, none⟩)] h
      (fun u h' => u = .agg #[.int .i64 s.fin.why, .int .i64 s.fin.fat] ∧ RdAt S h' id v s.fin ∧ Fw (· = id) h h') := by
  refine spec_go mixed Try.func76 rfl Try.results76 (n := Try.f76.ntmps) (by kernel_rfl) (by simp) ?_
  simp only [go_sem, simprocAttr]
  have q0 : h.quiet (h.push (.cells [.int .i64 0, .int .i64 0] .rw)) := .push _ _
  have hr0 := hr.quiet q0
  have hlt := hr.lt
  refine cl_spec (left_ok hr0) (fun u h' hp _ => by obtain ⟨_, rfl⟩ := hp; exact .refl _) ?_
  rintro u h' ⟨rfl, rfl⟩
  simp only [go_sem, simprocAttr]
  have fin : ∀ h1, RdAt S h1 id v s.fin → Fw (· = id) (h.push (.cells [.int .i64 0, .int .i64 0] .rw)) h1 → h1.get h.next = .cells [.int .i64 0, .int .i64 0] .rw ∧ ∀ h2, h1.quiet h2 →
      h2.get h.next = .cells [.int .i64 0, .int .i64 0] .rw ∧ h.next < h2.next ∧ ∀ o, RdAt S (h2.set h.next o) id v s.fin ∧ Fw (· = id) h (h2.set h.next o) := by
    intro h1 hr1 f1
    have e1 : h1.get h.next = .cells [.int .i64 0, .int .i64 0] .rw := by rw [f1.2 _ (by simp) (by omega)]; simp
    have l1 : h.next < h1.next := AHeap.lt_of_alive h1 (by rw [e1]; simp)
    refine ⟨e1, fun h2 q2 => ⟨by rw [q2.2 _ l1]; exact e1, Nat.lt_of_lt_of_le l1 q2.1, fun o => ?_⟩⟩
    have hf : Fw (· = id) h (h2.set h.next o) := ⟨by have := q2.1; simp; omega, fun j hj hne => by
      rw [AHeap.get_set_ne _ _ (by omega), q2.2 j (by omega), f1.2 j (by simp; omega) hne, AHeap.get_push_lt _ _ hj]⟩
    exact ⟨hr.fw hf (by rw [AHeap.get_set_ne _ _ (by omega)]; exact (hr1.quiet q2).1) (by unfold RdS.fin; split <;> simp) (by unfold RdS.fin; split <;> simp [hr.2.2.2]), hf⟩
  refine cnd_decide (fun hx => ?_) (fun hx => ?_)
  · simp only [go_sem, simprocAttr, hr0.1, rdc]
    refine cl_spec (wrong_ok hr0 16 s.at_) (fun _ _ _ hc => absurd hc (by decide +kernel)) ?_
    rintro u h1 ⟨rfl, hr1, f1⟩
    have ef : s.fin = s.wrong 16 s.at_ := by unfold RdS.fin; rw [if_pos (by omega)]
    obtain ⟨e1, k⟩ := fin h1 (by rw [ef]; exact hr1) f1
    simp only [go_sem, simprocAttr]
    refine cl_spec (fault_ok hr1) (fun _ _ _ hc => absurd hc (by decide +kernel)) ?_
    rintro u h2 ⟨rfl, q2⟩
    obtain ⟨e2, l2, k⟩ := k h2 q2
    simp only [go_sem, simprocAttr, e2, AHeap.get_set_self _ _ l2]
    rw [ef] at k ⊢
    exact ⟨rfl, k _⟩
  · have ef : s.fin = s := by unfold RdS.fin; rw [if_neg (by omega)]
    obtain ⟨e1, k⟩ := fin _ (by rw [ef]; exact hr0) (.refl _ _)
    simp only [go_sem, simprocAttr]
    refine cl_spec (fault_ok hr0) (fun _ _ _ hc => absurd hc (by decide +kernel)) ?_
    rintro u h2 ⟨rfl, q2⟩
    obtain ⟨e2, l2, k⟩ := k h2 q2
    simp only [go_sem, simprocAttr, e2, AHeap.get_set_self _ _ l2]
    rw [ef] at k ⊢
    exact ⟨rfl, k _⟩

theorem new_ok {bs : List Nat} (hb : Bytes S h bs v) (hS : ∀ j, S j → j < h.next) : Does Try.prog 23 #[v] h
      (fun u h' => u = .pointer (some ⟨h.next, 0, none⟩) ∧ h' = h.push (rdc v ⟨bs, 0, 0, 0⟩) ∧ RdAt S h' h.next v ⟨bs, 0, 0, 0⟩) := by
  obtain ⟨a, cap, rfl⟩ := hb.shape
  refine spec_go mixed Try.func23 rfl Try.results23 (n := Try.f23.ntmps) (by kernel_rfl) (by simp) ?_
  simp only [go_sem, simprocAttr, rdc]
  exact ⟨by simp [rdc], hb.quiet (.push _ _), fun e => by have := hS _ e; omega, by simp⟩

end
end Go.Proofs.Ytolnacokdjognaa
