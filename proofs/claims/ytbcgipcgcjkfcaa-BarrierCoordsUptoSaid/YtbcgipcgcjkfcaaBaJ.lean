/- barrier: the document's coordinator: what it steps, hears, ends. -/
import Derived.Test.YtbcgipcgcjkfcaaBaI
set_option linter.unusedSimpArgs false
set_option linter.unusedVariables false
set_option linter.unnecessarySimpa false
set_option maxRecDepth 100000
namespace Go.Proofs.Ytbcgipcgcjkfcaa
open Go.AM

theorem opens_snoc {l : List Bool} {b : Bool} : ∀ {i : Nat}, opens i (l ++ [b]) = opens i l ++ (if b then [] else [((i + l.length : Nat) : Int)]) := by
  induction l with
  | nil => intro i; cases b <;> simp [opens]
  | cons c l ih =>
    intro i
    simp only [List.cons_append, opens, ih, List.length_cons]
    have : i + 1 + l.length = i + (l.length + 1) := by omega
    rw [this]
    cases c <;> simp
theorem opens_len {l : List Bool} : ∀ {i : Nat}, (opens i l).length ≤ l.length := by
  induction l with
  | nil => intro i; simp [opens]
  | cons b l ih => intro i; unfold opens; have := ih (i := i + 1); split <;> simp <;> omega

section
variable {h : AHeap} {S Z : Nat → Prop}

theorem rStep_ok {id : Nat} {r : Rc} (ha : RcAt Z h id r) : Does Try.prog 17 #[.pointer (some ⟨id, 0, none⟩)] h
    (fun u h' => OwnL rOrd (h.next ≤ ·) h' r.step u ∧ h.quiet h') := by
  have hlt := ha.lt
  obtain ⟨hz, ⟨n1, n2, p1, p2, hid⟩, ba, vc, vb, hg, ⟨hb1, hb2, hb3⟩, _⟩ := ha
  have hlb : ba < h.next := AHeap.lt_of_alive h (by rw [hb3]; simp)
  refine spec_go mixed Try.func17 rfl Try.results17 (n := Try.f17.ntmps) (by kernel_rfl) (by simp) ?_
  simp only [go_sem, simprocAttr]
  refine go_loop (fun z ρ k => ∃ (i : Nat) (w : Value), i ≤ r.ans.length ∧ z = r.ans.length - i ∧ OwnL rOrd (h.next ≤ ·) k (if 0 < r.ph then (opens 0 (r.ans.take i)).map fun i => (i, r.ph, r.id) else []) w ∧ h.quiet k ∧
    ρ 0 = .pointer (some ⟨id, 0, none⟩) ∧ ρ 3 = w ∧ ρ 4 = .int .i64 i) r.ans.length ⟨0, .slice none 0 0, by omega, by omega, by simp [opens]; exact .nil _ _ _, .refl _, by simp only [go_sem, simprocAttr]⟩ ?_
  rintro z ρ k ⟨i, w, hi, rfl, hw, q, r0, r3, r4⟩
  have g := (q.2 id hlt).trans hg
  have gb := (q.2 ba hlb).trans hb3
  simp only [go_sem, simprocAttr, r0, r3, r4, g, rcC]
  refine cnd_decide (fun hb => ?_) (fun hb => ?_)
  · have h1 : i < r.ans.length := by omega
    have e9 : IntKind.i64.wrap ((i : Int) + 1) = ((i + 1 : Nat) : Int) := by rw [wi64] <;> omega
    obtain ⟨b, hbi⟩ : ∃ b, r.ans[i]? = some b := ⟨_, List.getElem?_eq_getElem h1⟩
    have hbc : (r.ans.map Value.bool)[i]? = some (.bool b) := by simp [hbi]
    have et : opens 0 (r.ans.take (i + 1)) = opens 0 (r.ans.take i) ++ (if b then [] else [((i : Nat) : Int)]) := by
      rw [List.take_add_one, hbi]
      show opens 0 (r.ans.take i ++ [b]) = _
      rw [opens_snoc]; simp [List.length_take, Nat.min_eq_left hi]
    have hl2 : ((opens 0 (r.ans.take i)).map fun i => (i, r.ph, r.id)).length ≤ 16 := by
      rw [List.length_map]; exact Nat.le_trans opens_len (by rw [List.length_take]; omega)
    by_cases hp : 0 < r.ph
    · rw [if_pos hp] at hw
      cases b with
      | true =>
        simp only [go_sem, simprocAttr, r0, r3, r4, g, rcC, decide_eq_true hp, hb, gb, hbc, e9]
        refine Hold.mk ⟨r.ans.length - (i + 1), by omega, i + 1, w, by omega, rfl, ?_, q, by simp only [go_sem, simprocAttr, r0, r3]⟩
        rw [if_pos hp, et]; simpa using hw
      | false =>
        obtain ⟨w', k2, e2, hw', f', hn', a2, n2', c2, rfl⟩ := hw.app2 (bytes := 24) (y := ((i : Int), r.ph, r.id)) (cs := [.int .i64 i, .int .i64 r.ph, .int .i64 r.id]) 3 rfl (fun _ => rOrd_iff.2 ⟨rfl, show inI (i : Int) from ⟨by omega, by omega⟩, show inI r.ph from ⟨by omega, by omega⟩, hid⟩) (by omega) (by omega)
        simp only [go_sem, simprocAttr, r0, r3, r4, g, rcC, decide_eq_true hp, hb, gb, hbc, e9, e2]
        refine Hold.mk ⟨r.ans.length - (i + 1), by omega, i + 1, .slice a2 n2' c2, by omega, rfl, ?_, Fw.behind q f' (fun j e => hw.2 j e), by simp only [go_sem, simprocAttr, r0]⟩
        rw [if_pos hp, et]
        have := hw'.1
        simp only [Bool.false_eq_true, if_false, List.map_append, List.map_cons, List.map_nil]
        exact ⟨this, fun j hj => (hw'.2 j hj).elim (fun e => e) fun e => Nat.le_trans q.1 e⟩
    · rw [if_neg hp] at hw
      simp only [go_sem, simprocAttr, r0, r3, r4, g, rcC, decide_eq_false hp, hb, gb, hbc, e9]
      refine Hold.mk ⟨r.ans.length - (i + 1), by omega, i + 1, w, by omega, rfl, ?_, q, by simp only [go_sem, simprocAttr, r0, r3]⟩
      rw [if_neg hp]; exact hw
  · simp only [go_sem, simprocAttr, r3]
    have hi' : i = r.ans.length := by omega
    subst hi'
    rw [List.take_length] at hw
    exact ⟨hw, q⟩

theorem rEnds_ok {id : Nat} {r : Rc} (ha : RcAt Z h id r) (hl : r.com.length ≤ 1099511627776 ∧ r.ab.length ≤ 1099511627776) : Does Try.prog 43 #[.pointer (some ⟨id, 0, none⟩)] h
    (fun u h' => u = .tuple #[] ∧ RcAt (up Z h) h' id r.ends ∧ Fw Z h h') := by
  have hlt := ha.lt
  obtain ⟨hz, ⟨n1, n2, p1, p2, hid⟩, ba, vc, vb, hg, ⟨hb1, hb2, hb3⟩, ⟨hc1, hc2, hc3⟩, ⟨hd1, hd2, hd3⟩⟩ := ha
  have hlb : ba < h.next := AHeap.lt_of_alive h (by rw [hb3]; simp)
  obtain ⟨ac, cc, rfl⟩ := hc1.sl.shape
  obtain ⟨ad, cd, rfl⟩ := hd1.sl.shape
  refine spec_go mixed Try.func43 rfl Try.results43 (n := Try.f43.ntmps) (by kernel_rfl) (by simp) ?_
  unfold Rc.ends
  simp only [go_sem, simprocAttr, hg, rcC]
  by_cases h3 : r.ph = 3
  · have e3 : (r.ph = 3) = True := eq_true h3
    rw [if_pos h3]
    obtain ⟨w0, k0, w1, k1, q0, e1, Q0, o1, Q1, ⟨a0, m0, c0, rfl⟩, a1, m1, c1, rfl⟩ := dup_ok (h := h) (xs := r.com) (x := r.id) hl.1 (hc1.sl.ints) hid
    have g1 := (Q1.2 id hlt).trans hg
    have g0 := (Q0.2 id hlt).trans hg
    have l1 : id < k1.next := by have := Q1.1; omega
    have gs := fun o => AHeap.get_set_self k1 o l1
    have hC : RcAt (up Z h) (k1.set id (.cells (rcC { r with com := r.com ++ [r.id], id := 0 } ba (.slice a1 m1 c1) (.slice ad r.ab.length cd)) .rw)) id { r with com := r.com ++ [r.id], id := 0 } :=
      ⟨.inl hz, ⟨n1, n2, p1, p2, (show inI 0 from ⟨by decide, by decide⟩)⟩, ba, _, _, gs _, ⟨.inl hb1, hb2, by rw [AHeap.get_set_ne _ _ (Ne.symm hb2), Q1.2 ba hlb]; exact hb3⟩,
        ⟨OwnL.set ⟨o1.1, fun j hj => .inr (o1.2 j hj)⟩ (fun e => by have := o1.2 _ e; omega) _, fun e => by have := o1.2 _ e; omega, fun e => by have := o1.2 _ e; omega⟩,
        ⟨OwnL.set (hd1.mono Q1.1 fun j hj hl => ⟨.inl hj, Q1.2 j hl⟩) hd2 _, hd2, hd3⟩⟩
    have fC : Fw Z h (k1.set id (.cells (rcC { r with com := r.com ++ [r.id], id := 0 } ba (.slice a1 m1 c1) (.slice ad r.ab.length cd)) .rw)) :=
      (Fw.of_quiet (W := Z) Q1).trans (.set _) (fun _ _ e => e) (fun j _ e => by subst e; exact hz)
    unfold rcC at hC fC g1 g0
    simp only [go_sem, simprocAttr, e3, hg, rcC, hc1.sl.acellsI, q0, e1, g0, g1, gs, AHeap.set_set]
    refine cl_spec (turn_ok hC (by decide)) (fun _ _ _ hc => absurd hc (by decide +kernel)) ?_
    rintro u k3 ⟨rfl, h8, f8⟩
    simp only [go_sem, simprocAttr]
    exact ⟨h8.weaken (up_up fC.1), fC.trans f8 (fun _ _ e => e) (fun j hl e => e.elim (fun e => e) (fun e => by omega))⟩
  · have e3 : (r.ph = 3) = False := eq_false h3
    rw [if_neg h3]
    obtain ⟨w0, k0, w1, k1, q0, e1, Q0, o1, Q1, ⟨a0, m0, c0, rfl⟩, a1, m1, c1, rfl⟩ := dup_ok (h := h) (xs := r.ab) (x := r.id) hl.2 (hd1.sl.ints) hid
    have g1 := (Q1.2 id hlt).trans hg
    have g0 := (Q0.2 id hlt).trans hg
    have l1 : id < k1.next := by have := Q1.1; omega
    have gs := fun o => AHeap.get_set_self k1 o l1
    have hC : RcAt (up Z h) (k1.set id (.cells (rcC { r with ab := r.ab ++ [r.id], id := 0 } ba (.slice ac r.com.length cc) (.slice a1 m1 c1)) .rw)) id { r with ab := r.ab ++ [r.id], id := 0 } :=
      ⟨.inl hz, ⟨n1, n2, p1, p2, (show inI 0 from ⟨by decide, by decide⟩)⟩, ba, _, _, gs _, ⟨.inl hb1, hb2, by rw [AHeap.get_set_ne _ _ (Ne.symm hb2), Q1.2 ba hlb]; exact hb3⟩,
        ⟨OwnL.set (hc1.mono Q1.1 fun j hj hl => ⟨.inl hj, Q1.2 j hl⟩) hc2 _, hc2, hc3⟩,
        ⟨OwnL.set ⟨o1.1, fun j hj => .inr (o1.2 j hj)⟩ (fun e => by have := o1.2 _ e; omega) _, fun e => by have := o1.2 _ e; omega, fun e => by have := o1.2 _ e; omega⟩⟩
    have fC : Fw Z h (k1.set id (.cells (rcC { r with ab := r.ab ++ [r.id], id := 0 } ba (.slice ac r.com.length cc) (.slice a1 m1 c1)) .rw)) :=
      (Fw.of_quiet (W := Z) Q1).trans (.set _) (fun _ _ e => e) (fun j _ e => by subst e; exact hz)
    unfold rcC at hC fC g1 g0
    simp only [go_sem, simprocAttr, e3, hg, rcC, hd1.sl.acellsI, q0, e1, g0, g1, gs, AHeap.set_set]
    refine cl_spec (turn_ok hC (by decide)) (fun _ _ _ hc => absurd hc (by decide +kernel)) ?_
    rintro u k3 ⟨rfl, h8, f8⟩
    simp only [go_sem, simprocAttr]
    exact ⟨h8.weaken (up_up fC.1), fC.trans f8 (fun _ _ e => e) (fun j hl e => e.elim (fun e => e) (fun e => by omega))⟩
end
end Go.Proofs.Ytbcgipcgcjkfcaa
