/- barrier: the document's coordinator hears; the law BarrierCoords. -/
import Derived.Test.YtbcgipcgcjkfcaaBaJ
set_option linter.unusedSimpArgs false
set_option linter.unusedVariables false
set_option linter.unnecessarySimpa false
set_option maxRecDepth 100000
namespace Go.Proofs.Ytbcgipcgcjkfcaa
open Go.AM

section
variable {h : AHeap} {S Z : Nat → Prop}

theorem rHear_ok {id : Nat} {r : Rc} {a k x : Int} (ha : RcAt Z h id r) (hl : r.com.length ≤ 1099511627776 ∧ r.ab.length ≤ 1099511627776) : Does Try.prog 19 #[.pointer (some ⟨id, 0, none⟩), .int .i64 a, .int .i64 k, .int .i64 x] h
    (fun u h' => u = .int .i64 (r.hear a k x).1 ∧ RcAt (up Z h) h' id (r.hear a k x).2 ∧ Fw Z h h') := by
  have stay : RcAt (up Z h) h id r ∧ Fw Z h h := ⟨ha.weaken fun _ e => .inl e, .refl _ _⟩
  have hlt := ha.lt
  have ha0 := ha
  obtain ⟨hz, ⟨n1, n2, p1, p2, hid⟩, ba, vc, vb, hg, ⟨hb1, hb2, hb3⟩, ⟨hc1, hc2, hc3⟩, ⟨hd1, hd2, hd3⟩⟩ := ha
  have hlb : ba < h.next := AHeap.lt_of_alive h (by rw [hb3]; simp)
  refine spec_go mixed Try.func19 rfl Try.results19 (n := Try.f19.ntmps) (by kernel_rfl) (by simp) ?_
  unfold Rc.hear
  have w1 : IntKind.i64.wrap (r.ph + 10) = r.ph + 10 := by rw [wi64] <;> omega
  have w2 : IntKind.i64.wrap (r.ph + 1) = r.ph + 1 := by rw [wi64] <;> omega
  by_cases hA : a < 0 ∨ a ≥ r.ans.length ∨ k < 11 ∨ k > 14
  · rw [if_pos hA]
    by_cases h1 : a < 0
    · simp only [go_sem, simprocAttr, decide_eq_true h1]
      exact stay
    by_cases h2 : (r.ans.length : Int) ≤ a
    · simp only [go_sem, simprocAttr, decide_eq_false h1, hg, rcC, decide_eq_true h2]
      exact stay
    by_cases h3 : k < 11
    · simp only [go_sem, simprocAttr, decide_eq_false h1, hg, rcC, decide_eq_false h2, decide_eq_true h3]
      exact stay
    have h4 : 14 < k := by omega
    simp only [go_sem, simprocAttr, decide_eq_false h1, hg, rcC, decide_eq_false h2, decide_eq_false h3, decide_eq_true h4]
    exact stay
  rw [if_neg hA]
  have h1 : ¬ a < 0 := by omega
  have h2 : ¬ (r.ans.length : Int) ≤ a := by omega
  have h3 : ¬ k < 11 := by omega
  have h4 : ¬ 14 < k := by omega
  simp only [go_sem, simprocAttr, decide_eq_false h1, hg, rcC, decide_eq_false h2, decide_eq_false h3, decide_eq_false h4]
  by_cases hB : r.ph = 0 ∨ x ≠ r.id
  · rw [if_pos hB]
    by_cases b1 : r.ph = 0
    · have e1 : (r.ph = 0) = True := eq_true b1
      simp only [go_sem, simprocAttr, e1]
      exact stay
    · have e1 : (r.ph = 0) = False := eq_false b1
      have e2 : (x = r.id) = False := eq_false (hB.resolve_left b1)
      simp only [go_sem, simprocAttr, e1, hg, rcC, e2]
      exact stay
  rw [if_neg hB]
  have e1 : (r.ph = 0) = False := eq_false (fun e => hB (.inl e))
  have e2 : (x = r.id) = True := eq_true (Classical.not_not.1 fun e => hB (.inr e))
  simp only [go_sem, simprocAttr, e1, hg, rcC, e2]
  by_cases h5 : r.ph < 3 ∧ k = 14
  · rw [if_pos h5]
    obtain ⟨h5a, rfl⟩ := h5
    simp only [go_sem, simprocAttr, decide_eq_true h5a]
    refine cl_spec (turn_ok ha0 (by decide)) (fun _ _ _ hc => absurd hc (by decide +kernel)) ?_
    rintro u k2 ⟨rfl, h6⟩
    simp only [go_sem, simprocAttr]
    exact h6
  rw [if_neg h5]
  have hw : ∀ (J : Prop), J → J := fun _ j => j
  -- the answer that is wanted
  have key : ∀ {w : Int}, w = (if 3 ≤ r.ph then 13 else r.ph + 10) → True := fun _ => trivial
  by_cases p3 : r.ph < 3
  · have h6 : (k = 14) = False := eq_false (fun e => h5 ⟨p3, e⟩)
    have p3' : ¬ 3 ≤ r.ph := by omega
    simp only [go_sem, simprocAttr, decide_eq_true p3, h6, hg, rcC, w1, decide_eq_false p3']
    rw [if_neg p3']
    by_cases h7 : k = r.ph + 10
    · have e7 : (k = r.ph + 10) = True := eq_true h7
      rw [if_neg (show ¬ k ≠ r.ph + 10 from fun e => e h7)]
      have ha1 : 0 ≤ a := by omega
      have ha2 : a < (r.ans.length : Int) := by omega
      have ha3 : a.toNat < r.ans.length := by omega
      have ha4 : a.toNat + 1 ≤ r.ans.length := by omega
      simp only [go_sem, simprocAttr, e7, hg, rcC, ha1, ha2, and_self, hb3, List.length_map, ha3, ha4]
      refine go_gen fun h1 eh => ?_
      have n1' : h1.next = h.next := by rw [eh]; simp
      have gb1 : h1.get ba = .cells ((r.ans.set a.toNat true).map .bool) .rw := by rw [eh, AHeap.get_set_self _ _ hlb, List.map_set]
      have g1 : h1.get id = .cells (rcC { r with ans := r.ans.set a.toNat true } ba vc vb) .rw := by
        rw [eh, AHeap.get_set_ne _ _ hb2, hg]; simp [rcC]
      have fC : Fw Z h h1 := by rw [eh]; exact (Fw.set _).mono fun j _ e => by subst e; exact hb1
      have hC : RcAt (up Z h) h1 id { r with ans := r.ans.set a.toNat true } := by
        refine ⟨.inl hz, ⟨by simpa using n1, by simpa using n2, p1, p2, hid⟩, ba, vc, vb, g1, ⟨.inl hb1, hb2, gb1⟩, ?_, ?_⟩
        · rw [eh]; exact ⟨OwnL.set ⟨hc1.1, fun j hj => .inl (hc1.2 j hj)⟩ hc3 _, hc2, hc3⟩
        · rw [eh]; exact ⟨OwnL.set ⟨hd1.1, fun j hj => .inl (hd1.2 j hj)⟩ hd3 _, hd2, hd3⟩
      clear eh
      have hn : (r.ans.set a.toNat true).length = r.ans.length := by simp
      generalize hans : r.ans.set a.toNat true = ans at *
      unfold rcC at g1
      simp only [hn] at g1
      refine go_loop (fun z ρ k => ∃ i : Nat, i ≤ r.ans.length ∧ z = r.ans.length - i ∧ (∀ j, j < i → ans[j]? = some true) ∧ h1 = k ∧ ρ 0 = .pointer (some ⟨id, 0, none⟩) ∧ ρ 10 = .int .i64 i) r.ans.length ⟨0, by omega, by omega, fun j e => by omega, rfl, by simp only [go_sem, simprocAttr]⟩ ?_
      rintro z ρ _ ⟨i, hi, rfl, hall, rfl, r0, r10⟩
      simp only [go_sem, simprocAttr, r0, r10, g1]
      refine cnd_decide (fun hb => ?_) (fun hb => ?_)
      · have hi1 : i < r.ans.length := by omega
        have e9 : IntKind.i64.wrap ((i : Int) + 1) = ((i + 1 : Nat) : Int) := by rw [wi64] <;> omega
        obtain ⟨b, hbi⟩ : ∃ b, ans[i]? = some b := ⟨_, List.getElem?_eq_getElem (by omega)⟩
        have hbc : (ans.map Value.bool)[i]? = some (.bool b) := by simp [hbi]
        simp only [go_sem, simprocAttr, r0, r10, g1, hb, gb1, hbc]
        cases b with
        | true =>
          simp only [go_sem, simprocAttr, r0, r10, e9]
          exact Hold.mk ⟨r.ans.length - (i + 1), by omega, i + 1, by omega, rfl, fun j hj => by
            rcases Nat.lt_or_ge j i with h8 | h8
            · exact hall j h8
            · rw [show j = i by omega]; exact hbi, rfl, by simp only [go_sem, simprocAttr, r0]⟩
        | false =>
          rw [if_pos (show false ∈ ans from List.mem_of_getElem? hbi)]
          simp only [go_sem, simprocAttr]
          exact ⟨hC, fC⟩
      · have hall' : false ∉ ans := fun e => by
          obtain ⟨j, hj⟩ := List.getElem?_of_mem e
          have hjl : j < ans.length := (List.getElem?_eq_some_iff.1 hj).1
          rw [hall j (by omega)] at hj; cases hj
        rw [if_neg hall', if_pos p3]
        simp only [go_sem, simprocAttr, r0, g1, decide_eq_true p3, w2]
        refine cl_spec (turn_ok hC (show 0 ≤ r.ph + 1 ∧ r.ph + 1 ≤ 4 by omega)) (fun _ _ _ hc => absurd hc (by decide +kernel)) ?_
        rintro u k3 ⟨rfl, h8, f8⟩
        simp only [go_sem, simprocAttr]
        exact ⟨h8.weaken (up_up fC.1), fC.trans f8 (fun _ _ e => e) (fun j hl e => e.elim (fun e => e) (fun e => by omega))⟩
    · have e7 : (k = r.ph + 10) = False := eq_false h7
      rw [if_pos (show k ≠ r.ph + 10 from h7)]
      simp only [go_sem, simprocAttr, e7]
      exact stay
  · have p3' : 3 ≤ r.ph := by omega
    simp only [go_sem, simprocAttr, decide_eq_false p3, hg, rcC, w1, decide_eq_true p3']
    rw [if_pos p3']
    by_cases h7 : k = 13
    · have e7 : (k = 13) = True := eq_true h7
      rw [if_neg (show ¬ k ≠ 13 from fun e => e h7)]
      have ha1 : 0 ≤ a := by omega
      have ha2 : a < (r.ans.length : Int) := by omega
      have ha3 : a.toNat < r.ans.length := by omega
      have ha4 : a.toNat + 1 ≤ r.ans.length := by omega
      simp only [go_sem, simprocAttr, e7, hg, rcC, ha1, ha2, and_self, hb3, List.length_map, ha3, ha4]
      refine go_gen fun h1 eh => ?_
      have n1' : h1.next = h.next := by rw [eh]; simp
      have gb1 : h1.get ba = .cells ((r.ans.set a.toNat true).map .bool) .rw := by rw [eh, AHeap.get_set_self _ _ hlb, List.map_set]
      have g1 : h1.get id = .cells (rcC { r with ans := r.ans.set a.toNat true } ba vc vb) .rw := by
        rw [eh, AHeap.get_set_ne _ _ hb2, hg]; simp [rcC]
      have fC : Fw Z h h1 := by rw [eh]; exact (Fw.set _).mono fun j _ e => by subst e; exact hb1
      have hC : RcAt (up Z h) h1 id { r with ans := r.ans.set a.toNat true } := by
        refine ⟨.inl hz, ⟨by simpa using n1, by simpa using n2, p1, p2, hid⟩, ba, vc, vb, g1, ⟨.inl hb1, hb2, gb1⟩, ?_, ?_⟩
        · rw [eh]; exact ⟨OwnL.set ⟨hc1.1, fun j hj => .inl (hc1.2 j hj)⟩ hc3 _, hc2, hc3⟩
        · rw [eh]; exact ⟨OwnL.set ⟨hd1.1, fun j hj => .inl (hd1.2 j hj)⟩ hd3 _, hd2, hd3⟩
      clear eh
      have hn : (r.ans.set a.toNat true).length = r.ans.length := by simp
      generalize hans : r.ans.set a.toNat true = ans at *
      unfold rcC at g1
      simp only [hn] at g1
      refine go_loop (fun z ρ k => ∃ i : Nat, i ≤ r.ans.length ∧ z = r.ans.length - i ∧ (∀ j, j < i → ans[j]? = some true) ∧ h1 = k ∧ ρ 0 = .pointer (some ⟨id, 0, none⟩) ∧ ρ 10 = .int .i64 i) r.ans.length ⟨0, by omega, by omega, fun j e => by omega, rfl, by simp only [go_sem, simprocAttr]⟩ ?_
      rintro z ρ _ ⟨i, hi, rfl, hall, rfl, r0, r10⟩
      simp only [go_sem, simprocAttr, r0, r10, g1]
      refine cnd_decide (fun hb => ?_) (fun hb => ?_)
      · have hi1 : i < r.ans.length := by omega
        have e9 : IntKind.i64.wrap ((i : Int) + 1) = ((i + 1 : Nat) : Int) := by rw [wi64] <;> omega
        obtain ⟨b, hbi⟩ : ∃ b, ans[i]? = some b := ⟨_, List.getElem?_eq_getElem (by omega)⟩
        have hbc : (ans.map Value.bool)[i]? = some (.bool b) := by simp [hbi]
        simp only [go_sem, simprocAttr, r0, r10, g1, hb, gb1, hbc]
        cases b with
        | true =>
          simp only [go_sem, simprocAttr, r0, r10, e9]
          exact Hold.mk ⟨r.ans.length - (i + 1), by omega, i + 1, by omega, rfl, fun j hj => by
            rcases Nat.lt_or_ge j i with h8 | h8
            · exact hall j h8
            · rw [show j = i by omega]; exact hbi, rfl, by simp only [go_sem, simprocAttr, r0]⟩
        | false =>
          rw [if_pos (show false ∈ ans from List.mem_of_getElem? hbi)]
          simp only [go_sem, simprocAttr]
          exact ⟨hC, fC⟩
      · have hall' : false ∉ ans := fun e => by
          obtain ⟨j, hj⟩ := List.getElem?_of_mem e
          have hjl : j < ans.length := (List.getElem?_eq_some_iff.1 hj).1
          rw [hall j (by omega)] at hj; cases hj
        rw [if_neg hall', if_neg p3]
        simp only [go_sem, simprocAttr, r0, g1, decide_eq_false p3, w2]
        refine cl_spec (rEnds_ok hC hl) (fun _ _ _ hc => absurd hc (by decide +kernel)) ?_
        rintro u k3 ⟨rfl, h8, f8⟩
        simp only [go_sem, simprocAttr]
        exact ⟨h8.weaken (up_up fC.1), fC.trans f8 (fun _ _ e => e) (fun j hl e => e.elim (fun e => e) (fun e => by omega))⟩
    · have e7 : (k = 13) = False := eq_false h7
      rw [if_pos (show k ≠ 13 from h7)]
      simp only [go_sem, simprocAttr, e7]
      exact stay
end
end Go.Proofs.Ytbcgipcgcjkfcaa
