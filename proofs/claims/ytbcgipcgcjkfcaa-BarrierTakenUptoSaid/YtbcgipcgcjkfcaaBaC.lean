/- barrier: the document's agent; an agent answers all orders as the document's does. -/
import Derived.Test.YtbcgipcgcjkfcaaBaB
import Derived.Test.YtbcgipcgcjkfcaaBaZ
set_option linter.unusedSimpArgs false
set_option linter.unusedVariables false
set_option linter.unnecessarySimpa false
set_option maxRecDepth 100000
namespace Go.Proofs.Ytbcgipcgcjkfcaa
open Go.AM

section
variable {h : AHeap} {S Z : Nat → Prop}

/-- The document's agent that stands in an object. -/
def RaAt (Z : Nat → Prop) (h : AHeap) (id : Nat) (a : Ag) : Prop := Z id ∧ ∃ v, h.get id = .cells [.int .i64 a.fro, .int .i64 a.pre, v] .rw ∧ OwnL rI Z h a.com v ∧ blk v ≠ some id
theorem RaAt.lt {id : Nat} {a : Ag} (ha : RaAt Z h id a) : id < h.next := by obtain ⟨_, v, hg, _⟩ := ha; exact AHeap.lt_of_alive h (by rw [hg]; simp)
theorem RaAt.mono {Z' : Nat → Prop} {h' : AHeap} {id : Nat} {a : Ag} (ha : RaAt Z h id a) (hn : h.next ≤ h'.next) (hm : ∀ j, Z j → j < h.next → Z' j ∧ h'.get j = h.get j) : RaAt Z' h' id a := by
  have hlt := ha.lt
  obtain ⟨hz, v, hg, ho, hne⟩ := ha
  exact ⟨(hm id hz hlt).1, v, by rw [(hm id hz hlt).2]; exact hg, ho.mono hn hm, hne⟩
theorem RaAt.quiet {h' : AHeap} {id : Nat} {a : Ag} (ha : RaAt Z h id a) (q : h.quiet h') : RaAt Z h' id a := ha.mono q.1 fun j hj hl => ⟨hj, q.2 j hl⟩
theorem RaAt.weaken {Z' : Nat → Prop} {id : Nat} {a : Ag} (ha : RaAt Z h id a) (hm : ∀ j, Z j → Z' j) : RaAt Z' h id a := ha.mono (Nat.le_refl _) fun j hj _ => ⟨hm j hj, rfl⟩
theorem RaAt.set {id : Nat} {a : Ag} (ha : RaAt Z h id a) : ∃ v, h.get id = .cells [.int .i64 a.fro, .int .i64 a.pre, v] .rw ∧ OwnL rI Z h a.com v ∧ ∀ f p, RaAt Z (h.set id (.cells [.int .i64 f, .int .i64 p, v] .rw)) id ⟨f, p, a.com⟩ := by
  have hlt := ha.lt
  obtain ⟨hz, v, hg, ho, hne⟩ := ha
  refine ⟨v, hg, ho, fun f p => ⟨hz, v, AHeap.get_set_self _ _ hlt, ⟨ho.1.mono (Nat.le_refl _) (by simp) (fun _ e _ _ => e.elim) (fun j hj _ => AHeap.get_set_ne _ _ (by rintro rfl; exact hne hj)), ho.2⟩, hne⟩⟩

theorem rOrder_ok {id : Nat} {a : Ag} (ha : RaAt Z h id a) {kind x : Int} (hx : inI x) (hl : a.com.length ≤ 1099511627776) : Does Try.prog 32 #[.pointer (some ⟨id, 0, none⟩), .int .i64 kind, .int .i64 x] h
      (fun u h' => u = .int .i64 (a.order kind x).1 ∧ RaAt (up Z h) h' id (a.order kind x).2 ∧ Fw Z h h') := by
  have hz := ha.1
  have hlt := ha.lt
  have stay : RaAt (up Z h) h id a ∧ Fw Z h h := ⟨ha.weaken fun _ e => .inl e, .refl _ _⟩
  obtain ⟨v, hg, ho, hset⟩ := ha.set
  have one : ∀ f p, RaAt (up Z h) (h.set id (.cells [.int .i64 f, .int .i64 p, v] .rw)) id ⟨f, p, a.com⟩ ∧ Fw Z h (h.set id (.cells [.int .i64 f, .int .i64 p, v] .rw)) := fun f p =>
    ⟨(hset f p).weaken fun _ e => .inl e, (Fw.set _).mono fun j _ e => by subst e; exact hz⟩
  have gs : ∀ o, (h.set id o).get id = o := fun o => AHeap.get_set_self _ _ hlt
  refine spec_go mixed Try.func32 rfl Try.results32 (n := Try.f32.ntmps) (by kernel_rfl) (by simp) ?_
  simp only [go_sem, simprocAttr]
  unfold Ag.order
  refine cnd_decide (fun h1 => ?_) (fun h1 => ?_)
  · rw [if_pos h1]
    simp only [go_sem, simprocAttr]
    exact stay
  rw [if_neg h1]
  simp only [go_sem, simprocAttr, hg]
  refine cl_spec (Has_ok ho.sl) (fun _ _ _ hc => absurd hc (by decide +kernel)) ?_
  rintro u k ⟨rfl, rfl⟩
  by_cases k1 : kind = 1
  · rw [if_pos k1]
    subst k1
    simp only [go_sem, simprocAttr]
    by_cases hc : x ∈ a.com
    · rw [if_pos (.inl hc)]
      simp only [go_sem, simprocAttr, decide_eq_true hc]
      exact stay
    · by_cases hb : a.busy x
      · rw [if_pos (.inr hb)]
        simp only [go_sem, simprocAttr, decide_eq_false hc, hg]
        unfold Ag.busy at hb
        by_cases b1 : a.fro = 0
        · have e1 : (a.fro = 0) = True := eq_true b1
          have b2 : ¬ a.pre = 0 ∧ ¬ a.pre = x := by omega
          have e2 : (a.pre = 0) = False := eq_false b2.1
          have e3 : (a.pre = x) = False := eq_false b2.2
          simp only [go_sem, simprocAttr, e1, e2, e3, hg]
          exact stay
        · have e1 : (a.fro = 0) = False := eq_false b1
          by_cases b2 : a.fro = x
          · have e2 : (a.fro = x) = True := eq_true b2
            have b3 : ¬ a.pre = 0 ∧ ¬ a.pre = x := by omega
            have e3 : (a.pre = 0) = False := eq_false b3.1
            have e4 : (a.pre = x) = False := eq_false b3.2
            simp only [go_sem, simprocAttr, e1, e2, e3, e4, hg]
            exact stay
          · have e2 : (a.fro = x) = False := eq_false b2
            simp only [go_sem, simprocAttr, e1, e2, hg]
            exact stay
      · rw [if_neg (fun e => e.elim hc hb)]
        have h2 := one x a.pre
        unfold Ag.busy at hb
        simp only [go_sem, simprocAttr, decide_eq_false hc, hg]
        by_cases b1 : a.fro = 0
        · have e1 : (a.fro = 0) = True := eq_true b1
          by_cases b2 : a.pre = 0
          · have e2 : (a.pre = 0) = True := eq_true b2
            simp only [go_sem, simprocAttr, e1, e2, hg]
            exact h2
          · have e2 : (a.pre = 0) = False := eq_false b2
            have e3 : (a.pre = x) = True := eq_true (by omega)
            simp only [go_sem, simprocAttr, e1, e2, e3, hg]
            exact h2
        · have e1 : (a.fro = 0) = False := eq_false b1
          have e4 : (a.fro = x) = True := eq_true (by omega)
          by_cases b2 : a.pre = 0
          · have e2 : (a.pre = 0) = True := eq_true b2
            simp only [go_sem, simprocAttr, e1, e2, e4, hg]
            exact h2
          · have e2 : (a.pre = 0) = False := eq_false b2
            have e3 : (a.pre = x) = True := eq_true (by omega)
            simp only [go_sem, simprocAttr, e1, e2, e3, e4, hg]
            exact h2
  rw [if_neg k1]
  by_cases k2 : kind = 2
  · rw [if_pos k2]
    subst k2
    have h2 := one a.fro x
    simp only [go_sem, simprocAttr, hg]
    by_cases e1 : a.pre = x
    · have e1' : (a.pre = x) = True := eq_true e1
      rw [if_neg (fun e => e.2 e1)]
      simp only [go_sem, simprocAttr, e1', hg]
      exact h2
    · have e1' : (a.pre = x) = False := eq_false e1
      by_cases e2 : a.fro = x
      · have e2' : (a.fro = x) = True := eq_true e2
        rw [if_neg (fun e => e.1 e2)]
        simp only [go_sem, simprocAttr, e1', e2', hg]
        exact h2
      · have e2' : (a.fro = x) = False := eq_false e2
        rw [if_pos ⟨e2, e1⟩]
        simp only [go_sem, simprocAttr, e1', e2', hg]
        exact stay
  rw [if_neg k2]
  by_cases k3 : kind = 3
  · rw [if_pos k3]
    subst k3
    obtain ⟨A, cap, rfl⟩ := ho.sl.shape
    simp only [go_sem, simprocAttr, hg]
    by_cases hp : a.pre = x
    · rw [if_pos hp]
      have e1 : (a.pre = x) = True := eq_true hp
      obtain ⟨w0, k0, q0, l0, f0, n0⟩ := (Lst.nil rI 0 (fun _ => False) k).app (ys := a.com) (css' := a.com.map fun n => [.int .i64 n]) 1 rfl (bytes := 8) (n := a.com.length) (.of_map _ fun n hn => ⟨rfl, ho.sl.ints n hn⟩) rfl (by simp; omega) (by simp; omega) (Nat.zero_le _)
      have eflat : (a.com.map fun n => ([.int .i64 n] : List Value)).flatten = a.com.map fun n => .int .i64 n := by
        generalize a.com = l
        induction l with
        | nil => rfl
        | cons y l ih => simp [ih]
      rw [eflat] at q0
      have Q0 : k.quiet k0 := f0.quiet (fun j _ e => by cases e)
      have o0 : OwnL rI (up Z k) k0 a.com w0 := ⟨by simpa using l0, fun j hj => by
        rcases n0 with n0 | ⟨ob, n0, hge⟩
        · rw [n0] at hj; cases hj
        · rw [n0] at hj; cases hj; exact .inr hge⟩
      have q1 := AHeap.quiet.push k0 (.cells [.int .i64 x] .rw)
      obtain ⟨w1, k1', e2, o1, f1, p, q, r, rfl⟩ := (o0.mono q1.1 (fun j hj hl => ⟨hj, q1.2 j hl⟩)).app1 (bytes := 8) (y := x) (cs := [.int .i64 x]) 1 rfl ⟨rfl, inI_iff.1 hx⟩ (by omega) (by omega)
      have g1 : k1'.get id = .cells [.int .i64 a.fro, .int .i64 a.pre, .slice A a.com.length cap] .rw := by
        rw [f1.2 id (by have := Q0.1; have := q1.1; omega) (fun e => by
          rcases n0 with n0 | ⟨ob, n0, hge⟩
          · rw [n0] at e; cases e
          · rw [n0] at e; cases e; omega), q1.2 id (by have := Q0.1; omega), Q0.2 id hlt]; exact hg
      have l1 : id < k1'.next := AHeap.lt_of_alive _ (by rw [g1]; simp)
      have gs1 : ∀ o, (k1'.set id o).get id = o := fun o => AHeap.get_set_self _ _ l1
      have hb1 : ∀ j, blk (.slice p q r) = some j → k.next ≤ j ∨ up Z k j := fun j hj => by
        rcases o1.2 j hj with h1 | h1
        · exact .inr h1
        · left; have := Q0.1; have := q1.1; omega
      simp only [go_sem, simprocAttr, e1, hg, ho.sl.acellsI, q0, e2, g1, gs1, AHeap.set_set]
      have hne : blk (.slice p q r) ≠ some id := by
        obtain ⟨css, _, _, ⟨a', e', k2, _⟩ | ⟨ob, e', _, k3⟩⟩ := o1.1
        · simp at k2
        · rw [e']; rintro e3; cases e3; rw [g1] at k3; simp at k3
      refine ⟨⟨.inl hz, _, AHeap.get_set_self _ _ l1, ⟨o1.1.mono (Nat.le_refl _) (by simp) (fun _ e _ _ => e.elim) (fun j hj _ => AHeap.get_set_ne _ _ (by rintro rfl; exact hne hj)), fun j hj => ?_⟩, hne⟩, ?_⟩
      · rcases hb1 j hj with h1 | h1
        · exact .inr h1
        · exact h1
      · refine (((Fw.of_quiet (W := Z) (Q0.trans q1)).trans f1 (fun _ _ e => e) (fun j hjl e => ?_)).trans (.set _) (fun _ _ e => e) (fun j _ e => by subst e; exact hz))
        rcases n0 with n0 | ⟨ob, n0, hge⟩
        · rw [n0] at e; cases e
        · rw [n0] at e; cases e; omega
    · rw [if_neg hp]
      have e1 : (a.pre = x) = False := eq_false hp
      by_cases hc : x ∈ a.com
      · rw [if_pos hc]
        simp only [go_sem, simprocAttr, e1, decide_eq_true hc]
        exact stay
      · rw [if_neg hc]
        simp only [go_sem, simprocAttr, e1, decide_eq_false hc]
        exact stay
  rw [if_neg k3]
  by_cases k4 : kind = 4
  · rw [if_pos k4]
    subst k4
    simp only [go_sem, simprocAttr]
    by_cases hc : x ∈ a.com
    · rw [if_pos hc]
      simp only [go_sem, simprocAttr, decide_eq_true hc]
      exact stay
    · rw [if_neg hc]
      simp only [go_sem, simprocAttr, decide_eq_false hc, hg]
      by_cases b1 : a.fro = x
      · have e1 : (a.fro = x) = True := eq_true b1
        simp only [go_sem, simprocAttr, e1, hg, gs]
        by_cases b2 : a.pre = x
        · have e2 : (a.pre = x) = True := eq_true b2
          have h2 := one 0 0
          simp only [go_sem, simprocAttr, e2, gs, AHeap.set_set]
          exact h2
        · have e2 : (a.pre = x) = False := eq_false b2
          have h2 := one 0 a.pre
          simp only [go_sem, simprocAttr, e2]
          exact h2
      · have e1 : (a.fro = x) = False := eq_false b1
        simp only [go_sem, simprocAttr, e1, hg]
        by_cases b2 : a.pre = x
        · have e2 : (a.pre = x) = True := eq_true b2
          have h2 := one a.fro 0
          simp only [go_sem, simprocAttr, e2, hg]
          exact h2
        · have e2 : (a.pre = x) = False := eq_false b2
          simp only [go_sem, simprocAttr, e2]
          exact stay
  · rw [if_neg k4]
    simp only [go_sem, simprocAttr, k1, k2, k3, k4]
    exact stay
end
end Go.Proofs.Ytbcgipcgcjkfcaa
