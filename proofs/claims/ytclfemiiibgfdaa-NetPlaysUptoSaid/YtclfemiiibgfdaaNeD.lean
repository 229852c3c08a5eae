/- net: messages. -/
import Derived.Test.YtclfemiiibgfdaaNeC
set_option linter.unusedSimpArgs false
set_option linter.unusedVariables false
set_option linter.unnecessarySimpa false
set_option maxRecDepth 100000
namespace Go.Proofs.Ytclfemiiibgfdaa
open Go.AM

structure Msg where
  fr : Int
  dst : Int
  kd : Int
  ep : Int
  sq : Int
  ak : Int
  load : List Nat
def Msg.ns (m : Msg) : List Int := [m.fr, m.dst, m.kd, m.ep, m.sq, m.ak]
def Msg.cs (m : Msg) (v : Value) : List Value := [.int .i64 m.fr, .int .i64 m.dst, .int .i64 m.kd, .int .i64 m.ep, .int .i64 m.sq, .int .i64 m.ak, v]
def Msg.inI (m : Msg) : Prop := ∀ x ∈ m.ns, -9223372036854775808 ≤ x ∧ x ≤ 9223372036854775807
def okN (i : Nat) (x : Int) : Prop := 0 ≤ x ∧ x ≤ (if i < 2 then 15 else 2147483648)
instance (i : Nat) (x : Int) : Decidable (okN i x) := inferInstanceAs (Decidable (_ ∧ _))
def Msg.right (m : Msg) : Prop := okN 0 m.fr ∧ okN 1 m.dst ∧ okN 2 m.kd ∧ okN 3 m.ep ∧ okN 4 m.sq ∧ okN 5 m.ak ∧ m.load.length ≤ 1200
instance (m : Msg) : Decidable m.right := inferInstanceAs (Decidable (_ ∧ _))
theorem Msg.right_iff (m : Msg) : m.right ↔ (∀ i x, m.ns[i]? = some x → okN i x) ∧ m.load.length ≤ 1200 := by
  constructor
  · rintro ⟨h0, h1, h2, h3, h4, h5, h6⟩
    refine ⟨fun i x hx => ?_, h6⟩
    obtain ⟨hl, -⟩ := List.getElem?_eq_some_iff.1 hx
    have hl : i < 6 := hl
    match i, hl with
    | 0, _ => cases hx; exact h0
    | 1, _ => cases hx; exact h1
    | 2, _ => cases hx; exact h2
    | 3, _ => cases hx; exact h3
    | 4, _ => cases hx; exact h4
    | 5, _ => cases hx; exact h5
  · rintro ⟨h, h6⟩
    exact ⟨h 0 _ rfl, h 1 _ rfl, h 2 _ rfl, h 3 _ rfl, h 4 _ rfl, h 5 _ rfl, h6⟩
/-- The places of a message's numbers. -/
def mptrs (id : Nat) : List Value := (List.range 6).map fun i => .pointer (some ⟨id, i, none⟩)
theorem mptrs_get {id i : Nat} (hi : i < 6) : (mptrs id)[i]? = some (.pointer (some ⟨id, i, none⟩)) := by
  simp [mptrs, List.getElem?_range hi]
theorem Msg.cs_get {m : Msg} {v : Value} {i : Nat} (hi : i < 6) : ∃ x, m.ns[i]? = some x ∧ (m.cs v)[i]? = some (.int .i64 x) := by
  match i, hi with
  | 0, _ => exact ⟨_, rfl, rfl⟩
  | 1, _ => exact ⟨_, rfl, rfl⟩
  | 2, _ => exact ⟨_, rfl, rfl⟩
  | 3, _ => exact ⟨_, rfl, rfl⟩
  | 4, _ => exact ⟨_, rfl, rfl⟩
  | 5, _ => exact ⟨_, rfl, rfl⟩
section
variable {h : AHeap} {S S' Z : Nat → Prop} {v : Value}
theorem numbers_ok {id : Nat} : Does Try.prog 28 #[.pointer (some ⟨id, 0, none⟩)] h (fun u h' => u = .slice (some ⟨h.next, 0, none⟩) 6 6 ∧ h' = h.push (.cells (mptrs id) .rw)) := by
  refine spec_go mixed Try.func28 rfl Try.results28 (n := Try.f28.ntmps) (by kernel_rfl) (by simp) ?_
  simp only [go_sem, simprocAttr]
  rfl
theorem right_ok {m : Msg} (hv : Bytes S h m.load v) : Does Try.prog 27 #[.agg (m.cs v).toArray] h (fun u h' => u = .bool (decide m.right) ∧ h.quiet h') := by
  obtain ⟨a, c, rfl⟩ := hv.shape
  have hl := hv.len
  have hri := m.right_iff
  have hget := fun i (hi : i < 6) => m.cs_get (v := .slice a m.load.length c) hi
  have h6 : (m.cs (.slice a m.load.length c))[6]? = some (.slice a m.load.length c) := rfl
  have hlen : (m.cs (.slice a m.load.length c)).length = 7 := rfl
  have hone : (m.cs (.slice a m.load.length c)).all one = true := rfl
  generalize m.cs (.slice a m.load.length c) = cs at hget h6 hlen hone
  refine spec_go mixed Try.func27 rfl Try.results27 (n := Try.f27.ntmps) (by kernel_rfl) (by simp) ?_
  simp only [go_sem, simprocAttr, hlen, hone]
  refine cl_spec numbers_ok (fun u h' hp _ => by rw [hp.2]; exact .push _ _) ?_
  rintro u k ⟨rfl, rfl⟩
  have hg1 : ((h.push (.cells cs .rw)).push (.cells (mptrs h.next) .rw)).get h.next = .cells cs .rw := by simp only [go_sem, simprocAttr]
  have hg2 : ((h.push (.cells cs .rw)).push (.cells (mptrs h.next) .rw)).get (h.next + 1) = .cells (mptrs h.next) .rw := by simp only [go_sem, simprocAttr]
  have hq : h.quiet ((h.push (.cells cs .rw)).push (.cells (mptrs h.next) .rw)) := by simp only [go_sem, simprocAttr]
  simp only [go_sem, simprocAttr]
  generalize (h.push (.cells cs .rw)).push (.cells (mptrs h.next) .rw) = k at hg1 hg2 hq
  refine go_loop (fun z ρ k' => ∃ i : Nat, i ≤ 6 ∧ z = 6 - i ∧ k' = k ∧ (∀ j x, j < i → m.ns[j]? = some x → okN j x) ∧ ρ 1 = .pointer (some ⟨h.next, 0, none⟩) ∧ ρ 6 = .slice (some ⟨h.next + 1, 0, none⟩) 6 6 ∧ ρ 7 = .int .i64 6 ∧ ρ 8 = .int .i64 i) 6 ⟨0, by omega, by omega, rfl, fun j x hj => by omega, by simp only [go_sem, simprocAttr]⟩ ?_
  rintro z ρ k' ⟨i, hi, rfl, rfl, hall, r1, r6, r7, r8⟩
  simp only [go_sem, simprocAttr, r1, r6, r7, r8]
  refine cnd_decide (fun hy => ?_) (fun hy => ?_)
  · have h1 : i < 6 := by omega
    obtain ⟨x, hx, hcx⟩ := hget i h1
    have hp := mptrs_get (id := h.next) h1
    have e9 : IntKind.i64.wrap ((i : Int) + 1) = ((i + 1 : Nat) : Int) := by rw [wi64] <;> omega
    have hno : ¬ okN i x → m.right = False := fun e => eq_false fun hr => e ((hri.1 hr).1 i x hx)
    have hst : okN i x → (∀ j y, j < i + 1 → m.ns[j]? = some y → okN j y) := fun e j y hj hw => by
      rcases Nat.lt_succ_iff_lt_or_eq.1 hj with e' | rfl
      · exact hall j y e' hw
      · rw [hx] at hw; cases hw; exact e
    by_cases h2 : (i : Int) < 2
    · have hok : okN i x ↔ 0 ≤ x ∧ x ≤ 15 := by unfold okN; rw [if_pos (by omega)]
      by_cases hx0 : x < 0
      · simp only [go_sem, simprocAttr, r1, r6, r7, r8, hg2, hp, hy, h2, decide_true, hg1, hcx, hx0, hno (fun e => by have := hok.1 e; omega), decide_false]

        exact hq
      · by_cases hx1 : 15 < x
        · simp only [go_sem, simprocAttr, r1, r6, r7, r8, hg2, hp, hy, h2, decide_true, hg1, hcx, hx0, hx1, hno (fun e => by have := hok.1 e; omega), decide_false]
          exact hq
        · simp only [go_sem, simprocAttr, r1, r6, r7, r8, hg2, hp, hy, h2, decide_true, hg1, hcx, hx0, hx1, decide_false, e9]
          exact Hold.mk ⟨6 - (i + 1), by omega, i + 1, by omega, rfl, rfl, hst (hok.2 (by omega)), by simp only [go_sem, simprocAttr, r1, r6, r7]⟩
    · have hok : okN i x ↔ 0 ≤ x ∧ x ≤ 2147483648 := by unfold okN; rw [if_neg (by omega)]
      by_cases hx0 : x < 0
      · simp only [go_sem, simprocAttr, r1, r6, r7, r8, hg2, hp, hy, h2, decide_true, hg1, hcx, hx0, hno (fun e => by have := hok.1 e; omega), decide_false]
        exact hq
      · by_cases hx1 : 2147483648 < x
        · simp only [go_sem, simprocAttr, r1, r6, r7, r8, hg2, hp, hy, h2, decide_true, hg1, hcx, hx0, hx1, hno (fun e => by have := hok.1 e; omega), decide_false]
          exact hq
        · simp only [go_sem, simprocAttr, r1, r6, r7, r8, hg2, hp, hy, h2, decide_true, hg1, hcx, hx0, hx1, decide_false, e9]
          exact Hold.mk ⟨6 - (i + 1), by omega, i + 1, by omega, rfl, rfl, hst (hok.2 (by omega)), by simp only [go_sem, simprocAttr, r1, r6, r7]⟩
  · have : i = 6 := by omega
    subst this
    have e : ((m.load.length : Int) ≤ 1200) = m.right := by
      refine propext ⟨fun e => hri.2 ⟨fun j x hx => hall j x ?_ hx, by omega⟩, fun e => by have := (hri.1 e).2; omega⟩
      obtain ⟨hl, -⟩ := List.getElem?_eq_some_iff.1 hx
      exact hl
    simp only [go_sem, simprocAttr, r1, hg1, h6, e]
    exact hq
end
end Go.Proofs.Ytclfemiiibgfdaa
