/- barrier: the document's coordinator. -/
import Derived.Test.YtbcgipcgcjkfcaaBaG
set_option linter.unusedSimpArgs false
set_option linter.unusedVariables false
set_option linter.unnecessarySimpa false
set_option maxRecDepth 100000
namespace Go.Proofs.Ytbcgipcgcjkfcaa
open Go.AM

structure Rc where
  ans : List Bool
  ph : Int
  id : Int
  com : List Int
  ab : List Int
def Rc.good (r : Rc) : Prop := 1 ≤ r.ans.length ∧ r.ans.length ≤ 16 ∧ 0 ≤ r.ph ∧ r.ph ≤ 4 ∧ inI r.id
def Rc.turn (r : Rc) (p : Int) : Rc := { r with ph := p, ans := List.replicate r.ans.length false }
def Rc.state (r : Rc) (x : Int) : Int := if x ∈ r.com ∨ (r.ph = 3 ∧ x = r.id) then 2 else if x ∈ r.ab ∨ (r.ph = 4 ∧ x = r.id) then 3 else if 0 < r.ph ∧ x = r.id then 1 else 0
def Rc.begin (r : Rc) (x : Int) : Int × Rc := if x < 1 then (1, r) else if 0 < r.ph then (11, r) else if r.state x ≠ 0 then (10, r) else if 1024 ≤ r.com.length + r.ab.length then (6, r) else (0, { r with id := x }.turn 1)
def opens : Nat → List Bool → List Int
  | _, [] => []
  | i, b :: l => if b then opens (i + 1) l else ((i : Nat) : Int) :: opens (i + 1) l
def Rc.step (r : Rc) : List (Int × Int × Int) := if 0 < r.ph then (opens 0 r.ans).map fun i => (i, r.ph, r.id) else []
def Rc.ends (r : Rc) : Rc := (if r.ph = 3 then { r with com := r.com ++ [r.id], id := 0 } else { r with ab := r.ab ++ [r.id], id := 0 } : Rc).turn 0
def Rc.hear (r : Rc) (a k x : Int) : Int × Rc :=
  if a < 0 ∨ a ≥ r.ans.length ∨ k < 11 ∨ k > 14 then (1, r) else if r.ph = 0 ∨ x ≠ r.id then (11, r) else if r.ph < 3 ∧ k = 14 then (0, r.turn 4)
  else if k ≠ (if 3 ≤ r.ph then 13 else r.ph + 10) then (0, r)
  else if false ∈ r.ans.set a.toNat true then (0, { r with ans := r.ans.set a.toNat true })
  else (0, if r.ph < 3 then ({ r with ans := r.ans.set a.toNat true } : Rc).turn (r.ph + 1) else ({ r with ans := r.ans.set a.toNat true } : Rc).ends)
def Rc.abort (r : Rc) : Int × Rc := if r.ph ≠ 1 ∧ r.ph ≠ 2 then (11, r) else (0, r.turn 4)
def Rc.crash (r : Rc) : Rc := if r.ph = 1 ∨ r.ph = 2 then r.turn 4 else r.turn r.ph

section
variable {h : AHeap} {S Z : Nat → Prop}

def rcC (r : Rc) (ba : Nat) (vc vb : Value) : List Value := [.slice (some ⟨ba, 0, none⟩) r.ans.length r.ans.length, .int .i64 r.ph, .int .i64 r.id, vc, vb]
def RcAt (Z : Nat → Prop) (h : AHeap) (id : Nat) (r : Rc) : Prop := Z id ∧ r.good ∧ ∃ ba vc vb, h.get id = .cells (rcC r ba vc vb) .rw ∧ (Z ba ∧ ba ≠ id ∧ h.get ba = .cells (r.ans.map .bool) .rw) ∧
  (OwnL rI Z h r.com vc ∧ blk vc ≠ some id ∧ blk vc ≠ some ba) ∧ (OwnL rI Z h r.ab vb ∧ blk vb ≠ some id ∧ blk vb ≠ some ba)
theorem RcAt.lt {id : Nat} {r : Rc} (ha : RcAt Z h id r) : id < h.next := by obtain ⟨_, _, ba, vc, vb, hg, _⟩ := ha; exact AHeap.lt_of_alive h (by rw [hg]; simp)
theorem RcAt.mono {Z' : Nat → Prop} {h' : AHeap} {id : Nat} {r : Rc} (ha : RcAt Z h id r) (hn : h.next ≤ h'.next) (hm : ∀ j, Z j → j < h.next → Z' j ∧ h'.get j = h.get j) : RcAt Z' h' id r := by
  have hlt := ha.lt
  obtain ⟨hz, hgd, ba, vc, vb, hg, ⟨hb1, hb2, hb3⟩, ⟨hc1, hc2⟩, ⟨hd1, hd2⟩⟩ := ha
  have hlb : ba < h.next := AHeap.lt_of_alive h (by rw [hb3]; simp)
  exact ⟨(hm id hz hlt).1, hgd, ba, vc, vb, by rw [(hm id hz hlt).2]; exact hg, ⟨(hm ba hb1 hlb).1, hb2, by rw [(hm ba hb1 hlb).2]; exact hb3⟩, ⟨hc1.mono hn hm, hc2⟩, ⟨hd1.mono hn hm, hd2⟩⟩
theorem RcAt.weaken {Z' : Nat → Prop} {id : Nat} {r : Rc} (ha : RcAt Z h id r) (hm : ∀ j, Z j → Z' j) : RcAt Z' h id r := ha.mono (Nat.le_refl _) fun j hj _ => ⟨hm j hj, rfl⟩
theorem OwnL.set {α : Type} {r : Rep α} {xs : List α} {v : Value} (ho : OwnL r Z h xs v) {id : Nat} (hne : blk v ≠ some id) (o : AObj) (hr : ∀ k cs x, r.R (fun _ => False) k x cs → True := fun _ _ _ _ => trivial) : OwnL r Z (h.set id o) xs v :=
  ⟨ho.1.mono (Nat.le_refl _) (by simp) (fun _ e _ _ => e.elim) (fun j hj _ => AHeap.get_set_ne _ _ (by rintro rfl; exact hne hj)), ho.2⟩

theorem azeros_bool (n : Nat) : azeros [.bool false] n = (List.replicate n false).map .bool := by
  unfold azeros
  apply List.ext_getElem?
  intro i
  by_cases h : i < n
  · simp [h, Nat.mod_one]
  · simp [h]

theorem turn_ok {id : Nat} {r : Rc} {p : Int} (ha : RcAt Z h id r) (hp : 0 ≤ p ∧ p ≤ 4) : Does Try.prog 40 #[.pointer (some ⟨id, 0, none⟩), .int .i64 p] h
    (fun u h' => u = .tuple #[] ∧ RcAt (up Z h) h' id (r.turn p) ∧ Fw Z h h') := by
  have hlt := ha.lt
  obtain ⟨hz, hgd, ba, vc, vb, hg, ⟨hb1, hb2, hb3⟩, ⟨hc1, hc2, hc3⟩, ⟨hd1, hd2, hd3⟩⟩ := ha
  obtain ⟨n1, n2, p1, p2, hid⟩ := hgd
  have gs := fun o => AHeap.get_set_self h o hlt
  refine spec_go mixed Try.func40 rfl Try.results40 (n := Try.f40.ntmps) (by kernel_rfl) (by simp) ?_
  have m1 : 1 * (r.ans.length : Int) ≤ 281474976710656 := by omega
  have m2 : (r.ans.length : Int) ≤ 281474976710656 := by omega
  have gp : ∀ o o', ((h.set id o).push o').get id = o := fun o o' => by rw [AHeap.get_push_lt _ _ (by simpa using hlt)]; exact gs o
  simp only [go_sem, simprocAttr, hg, rcC, gs, Nat.le_refl, m1, m2, true_and, azeros_bool, gp]
  generalize eX : AObj.cells [Value.slice (some ⟨ba, 0, none⟩) r.ans.length r.ans.length, .int .i64 p, .int .i64 r.id, vc, vb] .rw = X
  generalize eY : AObj.cells (List.map Value.bool (List.replicate r.ans.length false)) .rw = Y
  have q : (h.set id X).quiet ((h.set id X).push Y) := .push _ _
  have l1 : id < ((h.set id X).push Y).next := by simp; omega
  have keep : ∀ {o} {xs : List Int} {v : Value}, OwnL rI Z h xs v → blk v ≠ some id → OwnL rI (up Z h) (((h.set id X).push Y).set id o) xs v ∧ blk v ≠ some id ∧ blk v ≠ some h.next := fun ho hne => by
    refine ⟨OwnL.set (((ho.set hne X).mono q.1 fun j hj hl => ⟨.inl hj, q.2 j hl⟩)) hne _, hne, fun e => ?_⟩
    have := ho.lt e
    omega
  refine ⟨⟨.inl hz, ⟨by simpa [Rc.turn] using n1, by simpa [Rc.turn] using n2, hp.1, hp.2, hid⟩, h.next, vc, vb, ?_, ⟨.inr (Nat.le_refl _), by omega, ?_⟩, keep hc1 hc2, keep hd1 hd2⟩, ?_⟩
  · rw [AHeap.get_set_self _ _ l1]; simp [rcC, Rc.turn]
  · rw [AHeap.get_set_ne _ _ (by omega), ← eY]
    have : (h.set id X).next = h.next := by simp
    rw [← this, AHeap.get_push_self]; simp [Rc.turn]
  · exact (((Fw.set X).mono (V := Z) fun j _ e => by subst e; exact hz).trans (Fw.of_quiet (W := Z) q) (fun _ _ e => e) (fun _ _ e => e)).trans (.set _) (fun _ _ e => e) (fun j _ e => by subst e; exact hz)

theorem rState_ok {id : Nat} {r : Rc} (ha : RcAt Z h id r) {x : Int} : Does Try.prog 26 #[.pointer (some ⟨id, 0, none⟩), .int .i64 x] h
    (fun u h' => u = .int .i64 (r.state x) ∧ h' = h) := by
  obtain ⟨hz, hgd, ba, vc, vb, hg, hb, ⟨hc1, hc2⟩, ⟨hd1, hd2⟩⟩ := ha
  obtain ⟨ans, ph, rid, com, ab⟩ := r
  obtain ⟨n1, n2, p1, p2, hid⟩ := hgd
  simp only at n1 n2 p1 p2 hid hc1 hd1
  have hp : ph = 0 ∨ ph = 1 ∨ ph = 2 ∨ ph = 3 ∨ ph = 4 := by omega
  refine spec_go mixed Try.func26 rfl Try.results26 (n := Try.f26.ntmps) (by kernel_rfl) (by simp) ?_
  simp only [go_sem, simprocAttr, hg, rcC]
  refine cl_spec (Has_ok hc1.sl) (fun u h' hp _ => hp.2 ▸ .refl _) ?_
  rintro u k ⟨rfl, rfl⟩
  unfold Rc.state
  by_cases h1 : x ∈ com
  · simp only [go_sem, simprocAttr, decide_eq_true h1]
    simp [h1]
  rcases hp with rfl | rfl | rfl | rfl | rfl <;> by_cases h3 : x = rid
  all_goals
    first
    | have e3 : (x = rid) = True := eq_true h3
    | have e3 : (x = rid) = False := eq_false h3
    simp only [go_sem, simprocAttr, decide_eq_false h1, hg, rcC, e3]
    try first
    | (simp [h1, e3]; done)
    | (refine cl_spec (Has_ok hd1.sl) (fun u h' hp _ => hp.2 ▸ .refl _) ?_
       rintro u k ⟨rfl, rfl⟩
       by_cases h4 : x ∈ ab
       · simp only [go_sem, simprocAttr, decide_eq_true h4, hg, rcC, e3]
         try simp [h1, e3, h4]
       · simp only [go_sem, simprocAttr, decide_eq_false h4, hg, rcC, e3]
         try simp [h1, e3, h4])

theorem rAbort_ok {id : Nat} {r : Rc} (ha : RcAt Z h id r) : Does Try.prog 21 #[.pointer (some ⟨id, 0, none⟩)] h
    (fun u h' => u = .int .i64 r.abort.1 ∧ RcAt (up Z h) h' id r.abort.2 ∧ Fw Z h h') := by
  have ha0 := ha
  obtain ⟨hz, hgd, ba, vc, vb, hg, _⟩ := ha
  refine spec_go mixed Try.func21 rfl Try.results21 (n := Try.f21.ntmps) (by kernel_rfl) (by simp) ?_
  simp only [go_sem, simprocAttr, hg, rcC]
  unfold Rc.abort
  by_cases h1 : r.ph = 1
  · have e1 : (r.ph = 1) = True := eq_true h1
    rw [if_neg (fun e => e.1 h1)]
    simp only [go_sem, simprocAttr, e1]
    refine cl_spec (turn_ok ha0 (by decide)) (fun _ _ _ hc => absurd hc (by decide +kernel)) ?_
    rintro u k ⟨rfl, h2⟩
    simp only [go_sem, simprocAttr]
    exact h2
  · have e1 : (r.ph = 1) = False := eq_false h1
    by_cases h3 : r.ph = 2
    · have e3 : (r.ph = 2) = True := eq_true h3
      rw [if_neg (fun e => e.2 h3)]
      simp only [go_sem, simprocAttr, e1, e3, hg, rcC]
      refine cl_spec (turn_ok ha0 (by decide)) (fun _ _ _ hc => absurd hc (by decide +kernel)) ?_
      rintro u k ⟨rfl, h2⟩
      simp only [go_sem, simprocAttr]
      exact h2
    · have e3 : (r.ph = 2) = False := eq_false h3
      rw [if_pos ⟨h1, h3⟩]
      simp only [go_sem, simprocAttr, e1, e3, hg, rcC]
      exact ⟨ha0.weaken fun _ e => .inl e, .refl _ _⟩

theorem rCrash_ok {id : Nat} {r : Rc} (ha : RcAt Z h id r) : Does Try.prog 23 #[.pointer (some ⟨id, 0, none⟩)] h
    (fun u h' => u = .tuple #[] ∧ RcAt (up Z h) h' id r.crash ∧ Fw Z h h') := by
  have ha0 := ha
  obtain ⟨hz, hgd, ba, vc, vb, hg, _⟩ := ha
  refine spec_go mixed Try.func23 rfl Try.results23 (n := Try.f23.ntmps) (by kernel_rfl) (by simp) ?_
  simp only [go_sem, simprocAttr, hg, rcC]
  unfold Rc.crash
  have two : ∀ (k k2 : AHeap), RcAt (up Z h) k id (r.turn 4) → Fw Z h k → RcAt (up (up Z h) k) k2 id ((r.turn 4).turn 4) → Fw (up Z h) k k2 → RcAt (up Z h) k2 id (r.turn 4) ∧ Fw Z h k2 := fun k k2 h4 f4 h6 f6 => by
    refine ⟨?_, f4.trans f6 (fun _ _ e => e) (fun j hl e => e.elim (fun e => e) (fun e => by omega))⟩
    have h7 := h6.weaken (up_up f4.1)
    have e : (r.turn 4).turn 4 = r.turn 4 := by simp [Rc.turn]
    rw [e] at h7; exact h7
  by_cases h12 : r.ph = 1 ∨ r.ph = 2
  · rw [if_pos h12]
    by_cases h1 : r.ph = 1
    · have e1 : (r.ph = 1) = True := eq_true h1
      simp only [go_sem, simprocAttr, e1]
      refine cl_spec (turn_ok ha0 (by decide)) (fun _ _ _ hc => absurd hc (by decide +kernel)) ?_
      rintro u k ⟨rfl, h4, f4⟩
      have h40 := h4
      obtain ⟨hz', hgd', ba', vc', vb', hg', _⟩ := h4
      simp only [go_sem, simprocAttr, hg', rcC, Rc.turn]
      refine cl_spec (turn_ok h40 (by decide)) (fun _ _ _ hc => absurd hc (by decide +kernel)) ?_
      rintro u k2 ⟨rfl, h6, f6⟩
      simp only [go_sem, simprocAttr]
      exact two _ _ h40 f4 h6 f6
    · have e1 : (r.ph = 1) = False := eq_false h1
      have e2 : (r.ph = 2) = True := eq_true (h12.resolve_left h1)
      simp only [go_sem, simprocAttr, e1, e2, hg, rcC]
      refine cl_spec (turn_ok ha0 (by decide)) (fun _ _ _ hc => absurd hc (by decide +kernel)) ?_
      rintro u k ⟨rfl, h4, f4⟩
      have h40 := h4
      obtain ⟨hz', hgd', ba', vc', vb', hg', _⟩ := h4
      simp only [go_sem, simprocAttr, hg', rcC, Rc.turn]
      refine cl_spec (turn_ok h40 (by decide)) (fun _ _ _ hc => absurd hc (by decide +kernel)) ?_
      rintro u k2 ⟨rfl, h6, f6⟩
      simp only [go_sem, simprocAttr]
      exact two _ _ h40 f4 h6 f6
  · rw [if_neg h12]
    have e1 : (r.ph = 1) = False := eq_false (fun e => h12 (.inl e))
    have e2 : (r.ph = 2) = False := eq_false (fun e => h12 (.inr e))
    simp only [go_sem, simprocAttr, e1, e2, hg, rcC]
    refine cl_spec (turn_ok ha0 ⟨hgd.2.2.1, hgd.2.2.2.1⟩) (fun _ _ _ hc => absurd hc (by decide +kernel)) ?_
    rintro u k ⟨rfl, h2⟩
    simp only [go_sem, simprocAttr]
    exact h2

theorem RcAt.setId {id : Nat} {r : Rc} {x : Int} (ha : RcAt Z h id r) (hx : inI x) : ∃ ba vc vb, h.get id = .cells (rcC r ba vc vb) .rw ∧ RcAt Z (h.set id (.cells (rcC { r with id := x } ba vc vb) .rw)) id { r with id := x } ∧ Fw Z h (h.set id (.cells (rcC { r with id := x } ba vc vb) .rw)) := by
  have hlt := ha.lt
  obtain ⟨hz, ⟨n1, n2, p1, p2, hid⟩, ba, vc, vb, hg, ⟨hb1, hb2, hb3⟩, ⟨hc1, hc2, hc3⟩, ⟨hd1, hd2, hd3⟩⟩ := ha
  refine ⟨ba, vc, vb, hg, ⟨hz, ⟨n1, n2, p1, p2, hx⟩, ba, vc, vb, AHeap.get_set_self _ _ hlt, ⟨hb1, hb2, by rw [AHeap.get_set_ne _ _ (Ne.symm hb2)]; exact hb3⟩, ⟨hc1.set hc2 _, hc2, hc3⟩, ⟨hd1.set hd2 _, hd2, hd3⟩⟩, (Fw.set _).mono fun j _ e => by subst e; exact hz⟩

theorem rBegin_ok {id : Nat} {r : Rc} {x : Int} (ha : RcAt Z h id r) (hx : inI x) : Does Try.prog 14 #[.pointer (some ⟨id, 0, none⟩), .int .i64 x] h
    (fun u h' => u = .int .i64 (r.begin x).1 ∧ RcAt (up Z h) h' id (r.begin x).2 ∧ Fw Z h h') := by
  have stay : RcAt (up Z h) h id r ∧ Fw Z h h := ⟨ha.weaken fun _ e => .inl e, .refl _ _⟩
  have ha0 := ha
  obtain ⟨ba, vc, vb, hg, hs, fs⟩ := ha.setId hx
  obtain ⟨hz, hgd, ba', vc', vb', hg', hb, ⟨hc1, _⟩, ⟨hd1, _⟩⟩ := ha
  rw [hg] at hg'
  obtain ⟨rfl, rfl, rfl⟩ : ba = ba' ∧ vc = vc' ∧ vb = vb' := by simpa [rcC] using hg'
  obtain ⟨ac, cc, rfl⟩ := hc1.sl.shape
  obtain ⟨ad, cd, rfl⟩ := hd1.sl.shape
  have lc : r.com.length ≤ 281474976710656 := by obtain ⟨_, _, e, _⟩ := hc1.1; exact e
  have ld : r.ab.length ≤ 281474976710656 := by obtain ⟨_, _, e, _⟩ := hd1.1; exact e
  have ew : IntKind.i64.wrap ((r.com.length : Int) + r.ab.length) = (r.com.length : Int) + r.ab.length := by rw [wi64] <;> omega
  refine spec_go mixed Try.func14 rfl Try.results14 (n := Try.f14.ntmps) (by kernel_rfl) (by simp) ?_
  unfold Rc.begin
  simp only [go_sem, simprocAttr]
  refine cnd_decide (fun h1 => ?_) (fun h1 => ?_)
  · rw [if_pos h1]
    simp only [go_sem, simprocAttr]
    exact stay
  rw [if_neg h1]
  simp only [go_sem, simprocAttr, hg, rcC]
  refine cnd_decide (fun h2 => ?_) (fun h2 => ?_)
  · rw [if_pos h2]
    simp only [go_sem, simprocAttr]
    exact stay
  rw [if_neg h2]
  simp only [go_sem, simprocAttr]
  refine cl_spec (rState_ok ha0) (fun _ _ _ hc => absurd hc (by decide +kernel)) ?_
  rintro u k ⟨rfl, hk⟩
  subst hk
  by_cases h3 : r.state x = 0
  · have e3 : (r.state x = 0) = True := eq_true h3
    rw [if_neg (show ¬ r.state x ≠ 0 from fun e => e h3)]
    simp only [go_sem, simprocAttr, e3, hg, rcC, ew]
    refine cnd_decide (fun h4 => ?_) (fun h4 => ?_)
    · rw [if_pos (by omega)]
      simp only [go_sem, simprocAttr]
      exact stay
    rw [if_neg (by omega)]
    unfold rcC at hs fs
    simp only [go_sem, simprocAttr, hg, rcC]
    refine cl_spec (turn_ok hs (by decide)) (fun _ _ _ hc => absurd hc (by decide +kernel)) ?_
    rintro u k2 ⟨rfl, h6, f6⟩
    simp only [go_sem, simprocAttr]
    exact ⟨h6.weaken (by unfold up; simp), fs.trans f6 (fun _ _ e => e) (fun _ _ e => e)⟩
  · have e3 : (r.state x = 0) = False := eq_false h3
    rw [if_pos h3]
    simp only [go_sem, simprocAttr, e3]
    exact stay

theorem dup_ok {xs : List Int} {x : Int} (hl : xs.length ≤ 1099511627776) (hi : ∀ n ∈ xs, IntKind.i64.min ≤ n ∧ n ≤ IntKind.i64.max) (hx : inI x) :
    ∃ w0 k0 w1 k1, aappend h 1 8 (.slice none 0 0) xs.length (xs.map fun n => .int .i64 n) = some (w0, k0) ∧ aappend (k0.push (.cells [.int .i64 x] .rw)) 1 8 w0 1 [.int .i64 x] = some (w1, k1) ∧ h.quiet k0 ∧
      OwnL rI (h.next ≤ ·) k1 (xs ++ [x]) w1 ∧ h.quiet k1 ∧ (∃ a n c, w0 = .slice a n c) ∧ ∃ a n c, w1 = .slice a n c := by
  obtain ⟨w0, k0, q0, l0, f0, n0⟩ := (Lst.nil rI 0 (fun _ => False) h).app (ys := xs) (css' := xs.map fun n => [.int .i64 n]) 1 rfl (bytes := 8) (n := xs.length) (.of_map _ fun n hn => ⟨rfl, hi n hn⟩) rfl (by simp; omega) (by simp; omega) (Nat.zero_le _)
  have eflat : (xs.map fun n => ([.int .i64 n] : List Value)).flatten = xs.map fun n => .int .i64 n := by
    generalize xs = l
    induction l with
    | nil => rfl
    | cons y l ih => simp [ih]
  rw [eflat] at q0
  have Q0 : h.quiet k0 := f0.quiet (fun j _ e => by cases e)
  have o0 : OwnL rI (h.next ≤ ·) k0 xs w0 := ⟨by simpa using l0, fun j hj => by
    rcases n0 with n0 | ⟨ob, n0, hge⟩
    · rw [n0] at hj; cases hj
    · rw [n0] at hj; cases hj; exact hge⟩
  obtain ⟨a0, c0, rfl⟩ := o0.sl.shape
  obtain ⟨w1, k1, e1, o1, f1, _, a1, n1, c1, rfl⟩ := o0.app2 (bytes := 8) (y := x) (cs := [.int .i64 x]) 1 rfl (fun _ => ⟨rfl, inI_iff.1 hx⟩) (by omega) (by omega)
  exact ⟨_, k0, _, k1, q0, e1, Q0, ⟨o1.1, fun j hj => (o1.2 j hj).elim (fun e => e) fun e => Nat.le_trans Q0.1 e⟩, Fw.behind Q0 f1 (fun j e => o0.2 j e), ⟨_, _, _, rfl⟩, _, _, _, rfl⟩
end
end Go.Proofs.Ytbcgipcgcjkfcaa
