/- barrier: an agent's orders, the program's and the document's. -/
import Derived.Test.YtbcgipcgcjkfcaaBaA
set_option linter.unusedSimpArgs false
set_option linter.unusedVariables false
set_option linter.unnecessarySimpa false
set_option maxRecDepth 100000
namespace Go.Proofs.Ytbcgipcgcjkfcaa
open Go.AM

section
variable {h : AHeap} {S Z : Nat → Prop}

theorem AgAt.com {id : Nat} {a : Ag} (ha : AgAt Z h id a) (x : Int) (hx : inI x) (hl : a.com.length ≤ 1099511627776) :
    ∃ v v' h', h.get id = .cells [.bool true, .int .i64 a.fro, .int .i64 a.pre, v] .rw ∧ aappend (h.push (.cells [.int .i64 x] .rw)) 1 8 v 1 [.int .i64 x] = some (v', h') ∧ h'.get id = .cells [.bool true, .int .i64 a.fro, .int .i64 a.pre, v] .rw ∧ id < h'.next ∧ (∃ p q r, v' = .slice p q r) ∧
      AgAt (up Z h) (h'.set id (.cells [.bool true, .int .i64 0, .int .i64 0, v'] .rw)) id ⟨0, 0, a.com ++ [x]⟩ ∧ Fw Z h (h'.set id (.cells [.bool true, .int .i64 0, .int .i64 0, v'] .rw)) := by
  have hlt := ha.lt
  obtain ⟨hz, v, hg, ho, hne⟩ := ha
  have q := AHeap.quiet.push h (.cells [.int .i64 x] .rw)
  obtain ⟨v', h', e, ho', hf, hs⟩ := (ho.mono q.1 (fun j hj hl => ⟨hj, q.2 j hl⟩)).app1 (bytes := 8) (y := x) (cs := [.int .i64 x]) 1 rfl ⟨rfl, inI_iff.1 hx⟩ (by omega) (by omega)
  have hlt' : id < h'.next := by have := hf.1; have := q.1; omega
  have hg' : h'.get id = .cells [.bool true, .int .i64 a.fro, .int .i64 a.pre, v] .rw := by rw [hf.2 id (by have := q.1; omega) hne, q.2 id hlt]; exact hg
  have hblk : blk v' ≠ some id := by
    obtain ⟨css, _, _, ⟨a', e', k2, _⟩ | ⟨ob, e', _, k3⟩⟩ := ho'.1
    · simp at k2
    · rw [e']; rintro e2; cases e2; rw [hg'] at k3; simp at k3
  refine ⟨v, v', h', hg, e, hg', hlt', hs, ⟨.inl hz, v', AHeap.get_set_self _ _ hlt', ?_, hblk⟩, ?_⟩
  · refine ⟨ho'.1.mono (Nat.le_refl _) (by simp) (fun _ e _ _ => e.elim) (fun j hj _ => AHeap.get_set_ne _ _ (by rintro rfl; exact hblk hj)), fun j hj => ?_⟩
    rcases ho'.2 j hj with h1 | h1
    · exact .inl h1
    · exact .inr (by simp at h1; omega)
  · exact ((Fw.of_quiet (W := Z) q).trans hf (fun _ _ e => e) (fun j _ e => ho.2 j e)).trans (.set _) (fun _ _ e => e) (fun j _ e => by subst e; exact hz)

theorem Order_ok {id : Nat} {a : Ag} (ha : AgAt Z h id a) {kind x : Int} (hx : inI x) (hl : a.com.length ≤ 1099511627776) : Does Try.prog 31 #[.pointer (some ⟨id, 0, none⟩), .int .i64 kind, .int .i64 x] h
      (fun u h' => u = .int .i64 (a.order kind x).1 ∧ AgAt (up Z h) h' id (a.order kind x).2 ∧ Fw Z h h') := by
  have hz := ha.1
  have stay : AgAt (up Z h) h id a ∧ Fw Z h h := ⟨ha.weaken fun _ e => .inl e, .refl _ _⟩
  have one : ∀ f p, ∃ v, h.get id = .cells [.bool true, .int .i64 a.fro, .int .i64 a.pre, v] .rw ∧ AgAt (up Z h) (h.set id (.cells [.bool true, .int .i64 f, .int .i64 p, v] .rw)) id ⟨f, p, a.com⟩ ∧ Fw Z h (h.set id (.cells [.bool true, .int .i64 f, .int .i64 p, v] .rw)) := fun f p => by
    obtain ⟨v, h1, h2⟩ := ha.set f p
    exact ⟨v, h1, h2.weaken fun _ e => .inl e, (Fw.set _).mono fun j _ e => by subst e; exact hz⟩
  refine spec_go mixed Try.func31 rfl Try.results31 (n := Try.f31.ntmps) (by kernel_rfl) (by simp) ?_
  simp only [go_sem, simprocAttr]
  refine cl_spec (aok_ok ha) (fun _ _ _ hc => absurd hc (by decide +kernel)) ?_
  rintro u k ⟨rfl, rfl⟩
  unfold Ag.order
  by_cases h1 : x < 1
  · rw [if_pos h1]
    simp only [go_sem, simprocAttr, h1, decide_true]
    exact stay
  rw [if_neg h1]
  simp only [go_sem, simprocAttr, h1, decide_false]
  refine cl_spec (aCommitted_ok ha) (fun _ _ _ hc => absurd hc (by decide +kernel)) ?_
  rintro u k ⟨rfl, rfl⟩
  by_cases k1 : kind = 1
  · rw [if_pos k1]
    subst k1
    simp only [go_sem, simprocAttr]
    by_cases hc : x ∈ a.com
    · rw [if_pos (.inl hc)]
      simp only [go_sem, simprocAttr, decide_eq_true hc]
      exact stay
    · simp only [go_sem, simprocAttr, decide_eq_false hc]
      refine cl_spec (busy_ok ha) (fun _ _ _ hc => absurd hc (by decide +kernel)) ?_
      rintro u k ⟨rfl, rfl⟩
      by_cases hb : a.busy x
      · rw [if_pos (.inr hb)]
        simp only [go_sem, simprocAttr, decide_eq_true hb]
        exact stay
      · rw [if_neg (fun e => e.elim hc hb)]
        obtain ⟨v, hg, h2⟩ := one x a.pre
        simp only [go_sem, simprocAttr, decide_eq_false hb, hg]
        exact h2
  rw [if_neg k1]
  by_cases k2 : kind = 2
  · rw [if_pos k2]
    subst k2
    simp only [go_sem, simprocAttr]
    obtain ⟨v, hg, h2⟩ := one a.fro x
    by_cases hc : ¬ a.fro = x ∧ ¬ a.pre = x
    · have e1 : (x = a.fro) = False := eq_false (fun e => hc.1 e.symm)
      have e2 : (x = a.pre) = False := eq_false (fun e => hc.2 e.symm)
      rw [if_pos hc]
      simp only [go_sem, simprocAttr, hg, e1, e2]
      exact stay
    · rw [if_neg hc]
      by_cases h3 : a.fro = x
      · have e1 : (x = a.fro) = True := eq_true h3.symm
        simp only [go_sem, simprocAttr, hg, e1]
        exact h2
      · have e1 : (x = a.fro) = False := eq_false (fun e => h3 e.symm)
        have e2 : (x = a.pre) = True := eq_true (by omega)
        simp only [go_sem, simprocAttr, hg, e1, e2]
        exact h2
  rw [if_neg k2]
  by_cases k3 : kind = 3
  · rw [if_pos k3]
    subst k3
    simp only [go_sem, simprocAttr]
    obtain ⟨v, v', h', hg, e, hg', hlt', ⟨p, q, r, rfl⟩, h2⟩ := ha.com x hx hl
    by_cases hp : a.pre = x
    · rw [if_pos hp]
      have e1 : (x = a.pre) = True := eq_true hp.symm
      have gs := fun o => AHeap.get_set_self h' o hlt'
      simp only [go_sem, simprocAttr, hg, e1, e, hg', gs, AHeap.set_set]
      exact h2
    · rw [if_neg hp]
      have e1 : (x = a.pre) = False := eq_false (fun e => hp e.symm)
      by_cases hc : x ∈ a.com
      · rw [if_pos hc]
        simp only [go_sem, simprocAttr, hg, e1, decide_eq_true hc]
        exact stay
      · rw [if_neg hc]
        simp only [go_sem, simprocAttr, hg, e1, decide_eq_false hc]
        exact stay
  rw [if_neg k3]
  by_cases k4 : kind = 4
  · rw [if_pos k4]
    subst k4
    simp only [go_sem, simprocAttr]
    by_cases hc : x ∈ a.com
    · rw [if_pos hc]
      simp only [go_sem, simprocAttr, decide_eq_true hc]
      exact stay
    · rw [if_neg hc]
      simp only [go_sem, simprocAttr, decide_eq_false hc]
      have hlt := ha.lt
      refine go_gen fun H eH => ?_
      obtain ⟨gP, lP, qH⟩ := AHeap.quiet.box (h := k) (k := H) (by rw [eH]; exact .refl _)
      clear eH
      have haH := ha.quiet qH
      obtain ⟨v, hgv, _⟩ := haH.set a.fro a.pre
      have two : ∀ f p, AgAt Z (H.set id (.cells [.bool true, .int .i64 f, .int .i64 p, v] .rw)) id ⟨f, p, a.com⟩ := fun f p => by
        obtain ⟨v', hg', h2⟩ := haH.set f p
        rw [hgv] at hg'
        injection hg' with hg' _
        simp only [List.cons.injEq, and_true, true_and] at hg'
        subst hg'; exact h2
      have hlH := haH.lt
      have gs : ∀ o, (H.set id o).get id = o := fun o => AHeap.get_set_self _ _ hlH
      have gp : ∀ o, (H.set id o).get k.next = _ := fun o => (AHeap.get_set_ne _ _ (by omega)).trans gP
      refine go_loop (fun z ρ K => ∃ i : Nat, i ≤ 2 ∧ z = 2 - i ∧ K = H.set id (.cells [.bool true, .int .i64 (if 1 ≤ i then (if a.fro = x then 0 else a.fro) else a.fro), .int .i64 (if 2 ≤ i then (if a.pre = x then 0 else a.pre) else a.pre), v] .rw) ∧
        ρ 0 = .pointer (some ⟨id, 0, none⟩) ∧ ρ 2 = .int .i64 x ∧ ρ 87 = .slice (some ⟨k.next, 0, none⟩) 2 2 ∧ ρ 88 = .int .i64 2 ∧ ρ 89 = .int .i64 i) 2
        ⟨0, by omega, by omega, by simp only [show ¬ (1 ≤ 0) by omega, show ¬ (2 ≤ 0) by omega, if_false]; exact (AHeap.set_get hgv (by simp)).symm, by simp only [go_sem, simprocAttr]⟩ ?_
      rintro z ρ K ⟨i, hi, rfl, rfl, r0, r2, r87, r88, r89⟩
      simp only [go_sem, simprocAttr, r0, r2, r87, r88, r89]
      refine cnd_decide (fun hy => ?_) (fun hy => ?_)
      · have hi2 : i = 0 ∨ i = 1 := by omega
        rcases hi2 with rfl | rfl
        · by_cases e : a.fro = x
          · have e1 : (a.fro = x) = True := eq_true e
            simp only [go_sem, simprocAttr, r0, r2, r87, r88, r89, gs, gp, e1]
            exact Hold.mk ⟨1, by omega, 1, by omega, rfl, by simp [AHeap.set_set], by simp only [go_sem, simprocAttr, r0, r2, r87, r88]; rfl⟩
          · have e1 : (a.fro = x) = False := eq_false e
            simp only [go_sem, simprocAttr, r0, r2, r87, r88, r89, gs, gp, e1]
            exact Hold.mk ⟨1, by omega, 1, by omega, rfl, by simp [AHeap.set_set], by simp only [go_sem, simprocAttr, r0, r2, r87, r88]; rfl⟩
        · by_cases e : a.pre = x
          · have e1 : (a.pre = x) = True := eq_true e
            simp only [go_sem, simprocAttr, r0, r2, r87, r88, r89, gs, gp, e1]
            exact Hold.mk ⟨0, by omega, 2, by omega, rfl, by simp [AHeap.set_set], by simp only [go_sem, simprocAttr, r0, r2, r87, r88]; rfl⟩
          · have e1 : (a.pre = x) = False := eq_false e
            simp only [go_sem, simprocAttr, r0, r2, r87, r88, r89, gs, gp, e1]
            exact Hold.mk ⟨0, by omega, 2, by omega, rfl, by simp [AHeap.set_set], by simp only [go_sem, simprocAttr, r0, r2, r87, r88]; rfl⟩
      · have : i = 2 := by omega
        subst this
        simp only [go_sem, simprocAttr]
        exact ⟨(two _ _).weaken fun _ e => .inl e, ((Fw.of_quiet (W := Z) qH).trans (.set _) (fun _ _ e => e) (fun j _ e => by subst e; exact hz))⟩
  · rw [if_neg k4]
    simp only [go_sem, simprocAttr, k1, k2, k3, k4]
    exact stay
end
end Go.Proofs.Ytbcgipcgcjkfcaa
