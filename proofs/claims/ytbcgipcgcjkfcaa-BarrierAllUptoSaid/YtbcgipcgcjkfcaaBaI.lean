/- barrier: the program's coordinator is the document's: the plain law. -/
import Derived.Test.YtbcgipcgcjkfcaaBaH
set_option linter.unusedSimpArgs false
set_option linter.unusedVariables false
set_option linter.unnecessarySimpa false
set_option maxRecDepth 100000
namespace Go.Proofs.Ytbcgipcgcjkfcaa
open Go.AM
theorem look_put (m : List (Int × Int)) (n v x : Int) : look (putM m n v) x = if x = n then v else look m x := by
  induction m with
  | nil => simp [putM, look]
  | cons p ps ih =>
    unfold putM
    by_cases h : n = p.1
    · rw [if_pos h]; simp only [look]
      by_cases h2 : x = n
      · rw [if_pos h2, if_pos h2]
      · rw [if_neg h2, if_neg h2, if_neg (by omega)]
    · rw [if_neg h]; simp only [look, ih]
      by_cases h2 : x = p.1
      · rw [if_pos h2, if_pos h2, if_neg (by omega)]
      · rw [if_neg h2, if_neg h2]
theorem look_nz {m : List (Int × Int)} (hz : ∀ p ∈ m, p.2 ≠ 0) {n : Int} (h : look m n = 0) : ∀ v, (putM m n v).length = m.length + 1 := by
  induction m with
  | nil => intro v; simp [putM]
  | cons p ps ih =>
    intro v
    unfold look at h
    unfold putM
    by_cases h1 : n = p.1
    · rw [if_pos h1] at h; exact absurd h (hz p (by simp))
    · rw [if_neg h1] at h ⊢
      simp only [List.length_cons, ih (fun q hq => hz q (by simp [hq])) h v]
theorem put_nz {m : List (Int × Int)} (hz : ∀ p ∈ m, p.2 ≠ 0) {n v : Int} (hv : v ≠ 0) : ∀ p ∈ putM m n v, p.2 ≠ 0 := by
  induction m with
  | nil => intro p hp; simp [putM] at hp; subst hp; exact hv
  | cons q ps ih =>
    intro p hp
    unfold putM at hp
    split at hp
    · rcases List.mem_cons.1 hp with rfl | hp
      · exact hv
      · exact hz p (by simp [hp])
    · rcases List.mem_cons.1 hp with rfl | hp
      · exact hz _ (by simp)
      · exact ih (fun q hq => hz q (by simp [hq])) p hp

theorem opens_ge {l : List Bool} : ∀ {i : Nat} {x : Int}, x ∈ opens i l → (i : Int) ≤ x := by
  induction l with
  | nil => intro i x h; cases h
  | cons b l ih =>
    intro i x h
    unfold opens at h
    split at h
    · have := ih h; omega
    · rcases List.mem_cons.1 h with rfl | h
      · exact Int.le_refl _
      · have := ih h; omega
theorem filter_all {l : List Int} {a : Int} (h : ∀ x ∈ l, x ≠ a) : l.filter (· ≠ a) = l := List.filter_eq_self.2 fun x hx => by simpa using h x hx
theorem opens_set {l : List Bool} : ∀ {i a : Nat}, a < l.length → opens i (l.set a true) = (opens i l).filter (· ≠ ((i + a : Nat) : Int)) := by
  induction l with
  | nil => intro i a h; simp at h
  | cons b l ih =>
    intro i a h
    cases a with
    | zero =>
      have hf : (opens (i + 1) l).filter (· ≠ ((i : Nat) : Int)) = opens (i + 1) l := filter_all fun x hx => by have := opens_ge hx; omega
      simp only [List.set_cons_zero, opens, if_true, Nat.add_zero]
      cases b with
      | true => simp only [if_true]; exact hf.symm
      | false =>
        simp only [Bool.false_eq_true, if_false]
        rw [List.filter_cons_of_neg (by simp)]; exact hf.symm
    | succ a =>
      have e := ih (i := i + 1) (a := a) (by simpa using h)
      have e2 : ((i + 1 + a : Nat) : Int) = ((i + (a + 1) : Nat) : Int) := by omega
      rw [e2] at e
      simp only [List.set_cons_succ, opens]
      cases b with
      | true => simp only [if_true]; exact e
      | false =>
        simp only [Bool.false_eq_true, if_false]
        rw [List.filter_cons_of_pos (by simp only [ne_eq, decide_eq_true_eq]; omega), e]
theorem opens_nil {l : List Bool} : ∀ {i : Nat}, (opens i l).length = 0 ↔ false ∉ l := by
  induction l with
  | nil => intro i; simp [opens]
  | cons b l ih =>
    intro i
    unfold opens
    cases b with
    | true => simp only [if_true]; rw [ih]; simp
    | false => simp
theorem opens_rep (n : Nat) : ∀ i, opens i (List.replicate n false) = (List.range' i n).map fun (j : Nat) => (j : Int) := by
  induction n with
  | zero => intro i; rfl
  | succ n ih => intro i; simp only [List.replicate_succ, opens, Bool.false_eq_true, if_false, ih, List.range'_succ, List.map_cons]
theorem opens_all (c : Co) (n : Nat) (hn : c.n = n) : c.all = opens 0 (List.replicate n false) := by
  rw [opens_rep]; unfold Co.all; rw [hn, List.range_eq_range']

/-- The program's coordinator is the document's. -/
structure Sim (c : Co) (r : Rc) : Prop where
  n : c.n = r.ans.length
  ph : c.ph = r.ph
  id : c.id = r.id
  pos : 1 ≤ c.n
  lo : 0 ≤ c.ph
  hi : c.ph ≤ 4
  op : c.ph ≠ 0 → c.op = opens 0 r.ans
  past : ∀ x, look c.past x = if x ∈ r.com then 2 else if x ∈ r.ab then 3 else 0
  len : c.past.length = r.com.length + r.ab.length
  nz : ∀ p ∈ c.past, p.2 ≠ 0
  run : c.ph ≠ 0 → c.id ∉ r.com ∧ c.id ∉ r.ab

theorem Sim.new {n : Nat} (hn : 1 ≤ n) : Sim ⟨n, 0, 0, [], []⟩ ⟨List.replicate n false, 0, 0, [], []⟩ :=
  ⟨by simp, rfl, rfl, hn, Int.le_refl 0, (show (0 : Int) ≤ 4 by decide), fun e => absurd rfl e, fun x => by simp [look], rfl, by simp, fun e => absurd rfl e⟩
theorem Sim.enter {c : Co} {r : Rc} (s : Sim c r) {p : Int} (h0 : 0 ≤ p) (h4 : p ≤ 4) (hr : p ≠ 0 → c.id ∉ r.com ∧ c.id ∉ r.ab) : Sim (c.enter p) (r.turn p) :=
  ⟨by simp [Co.enter, Rc.turn, s.n], rfl, s.id, s.pos, h0, h4, fun _ => opens_all c _ s.n, s.past, s.len, s.nz, hr⟩
theorem Sim.state {c : Co} {r : Rc} (s : Sim c r) (x : Int) : c.state x = r.state x := by
  unfold Co.state Rc.state
  rw [s.past x, ← s.ph, ← s.id]
  have lo := s.lo
  have hi := s.hi
  have hrun := s.run
  by_cases h1 : x ∈ r.com
  · simp [h1]
  · by_cases h2 : x ∈ r.ab
    · have h3 : ¬ (c.ph = 3 ∧ x = c.id) := fun e => (hrun (by omega)).2 (e.2 ▸ h2)
      simp [h1, h2, h3]
    · simp only [h1, h2, if_false, false_or, ne_eq, not_true_eq_false]
      by_cases h3 : x = c.id
      · subst h3
        simp only [and_true, or_false, not_true_eq_false]
        repeat' split
        all_goals omega
      · simp [h3]
theorem Sim.step {c : Co} {r : Rc} (s : Sim c r) : c.step = r.step := by
  unfold Co.step Rc.step
  rw [← s.ph, ← s.id]
  have lo := s.lo
  by_cases h : c.ph = 0
  · rw [if_pos h, if_neg (by omega)]
  · rw [if_neg h, if_pos (by omega), s.op h]
theorem Sim.begin {c : Co} {r : Rc} (s : Sim c r) (x : Int) : (c.begin x).1 = (r.begin x).1 ∧ Sim (c.begin x).2 (r.begin x).2 := by
  unfold Co.begin Rc.begin
  have lo := s.lo
  have hph := s.ph
  by_cases h1 : x < 1
  · rw [if_pos h1, if_pos h1]; exact ⟨rfl, s⟩
  rw [if_neg h1, if_neg h1]
  by_cases h2 : c.ph = 0
  · rw [if_neg (show ¬ c.ph ≠ 0 from fun e => e h2), if_neg (show ¬ 0 < r.ph by omega)]
    have e : r.state x = look c.past x := by
      rw [← s.state x]; unfold Co.state
      by_cases h3 : look c.past x = 0
      · rw [if_neg (fun e => e h3), if_pos (.inl h2), h3]
      · rw [if_pos h3]
    rw [e, s.len]
    by_cases h3 : look c.past x = 0
    · rw [if_neg (show ¬ look c.past x ≠ 0 from fun e => e h3), if_neg (show ¬ look c.past x ≠ 0 from fun e => e h3)]
      by_cases h4 : 1024 ≤ r.com.length + r.ab.length
      · rw [if_pos h4, if_pos h4]; exact ⟨rfl, s⟩
      · rw [if_neg h4, if_neg h4]
        have hx : x ∉ r.com ∧ x ∉ r.ab := by
          have := s.past x
          rw [h3] at this
          constructor
          · intro e; rw [if_pos e] at this; omega
          · intro e
            by_cases e2 : x ∈ r.com
            · rw [if_pos e2] at this; omega
            · rw [if_neg e2, if_pos e] at this; omega
        refine ⟨rfl, Sim.enter (c := { c with id := x }) (r := { r with id := x }) ⟨s.n, s.ph, rfl, s.pos, s.lo, s.hi, s.op, s.past, s.len, s.nz, fun e => absurd h2 e⟩ (by decide) (by decide) (fun _ => hx)⟩
    · rw [if_pos h3, if_pos h3]; exact ⟨rfl, s⟩
  · rw [if_pos (show c.ph ≠ 0 from h2), if_pos (show 0 < r.ph by omega)]; exact ⟨rfl, s⟩
theorem Sim.abort {c : Co} {r : Rc} (s : Sim c r) : c.abort.1 = r.abort.1 ∧ Sim c.abort.2 r.abort.2 := by
  unfold Co.abort Rc.abort
  rw [← s.ph]
  by_cases h : c.ph ≠ 1 ∧ c.ph ≠ 2
  · rw [if_pos h, if_pos h]; exact ⟨rfl, s⟩
  · rw [if_neg h, if_neg h]; exact ⟨rfl, s.enter (by decide) (by decide) (fun _ => s.run (by omega))⟩
theorem turn_turn (r : Rc) (p q : Int) : (r.turn p).turn q = r.turn q := by simp [Rc.turn]
theorem Sim.crash {c : Co} {r : Rc} (s : Sim c r) : Sim c.crash r.crash := by
  have lo := s.lo
  have hi := s.hi
  have hph := s.ph
  unfold Co.crash Rc.crash
  by_cases h0 : c.ph = 0
  · rw [if_pos h0, if_neg (show ¬ (r.ph = 1 ∨ r.ph = 2) by omega)]
    exact ⟨by simp [Rc.turn, s.n], s.ph, s.id, s.pos, s.lo, s.hi, fun e => absurd h0 e, s.past, s.len, s.nz, s.run⟩
  · rw [if_neg h0]
    by_cases h : c.ph = 1 ∨ c.ph = 2
    · have e : c.abort = (0, c.enter 4) := if_neg (by omega)
      rw [e, if_pos (show (0, c.enter 4).1 = (0 : Int) from rfl), if_pos (show r.ph = 1 ∨ r.ph = 2 by omega)]
      exact s.enter (by decide) (by decide) (fun _ => s.run h0)
    · have e : c.abort = (11, c) := if_pos (by omega)
      rw [e, if_neg (show ¬ ((11 : Int), c).1 = 0 by simp), if_neg (show ¬ (r.ph = 1 ∨ r.ph = 2) by omega), ← hph]
      exact s.enter lo hi (fun _ => s.run h0)
theorem Sim.hear {c : Co} {r : Rc} (s : Sim c r) (a k x : Int) : (c.hear a k x).1 = (r.hear a k x).1 ∧ Sim (c.hear a k x).2 (r.hear a k x).2 := by
  unfold Co.hear Rc.hear
  have lo := s.lo
  have hi := s.hi
  obtain ⟨ans, rph, rid, com, ab⟩ := r
  obtain rfl : c.ph = rph := s.ph
  obtain rfl : c.id = rid := s.id
  have sn : c.n = ans.length := s.n
  simp only
  by_cases h1 : a < 0 ∨ a ≥ c.n ∨ k < 11 ∨ k > 14
  · rw [if_pos h1, if_pos (show a < 0 ∨ a ≥ (ans.length : Nat) ∨ k < 11 ∨ k > 14 by omega)]; exact ⟨rfl, s⟩
  rw [if_neg h1, if_neg (show ¬ (a < 0 ∨ a ≥ (ans.length : Nat) ∨ k < 11 ∨ k > 14) by omega)]
  by_cases h2 : c.ph = 0 ∨ x ≠ c.id
  · rw [if_pos h2, if_pos h2]; exact ⟨rfl, s⟩
  rw [if_neg h2, if_neg h2]
  have h0 : c.ph ≠ 0 := fun e => h2 (.inl e)
  have hr := s.run h0
  by_cases h3 : k = 14
  · rw [if_pos h3]
    unfold Co.abort
    by_cases h4 : c.ph < 3
    · rw [if_neg (by omega), if_pos ⟨h4, h3⟩]
      exact ⟨rfl, s.enter (by decide) (by decide) (fun _ => hr)⟩
    · rw [if_pos (show c.ph ≠ 1 ∧ c.ph ≠ 2 by omega), if_neg (show ¬ (c.ph < 3 ∧ k = 14) from fun e => h4 e.1), if_pos (show k ≠ (if 3 ≤ c.ph then 13 else c.ph + 10) by rw [if_pos (by omega)]; omega)]
      exact ⟨rfl, s⟩
  rw [if_neg h3, if_neg (show ¬ (c.ph < 3 ∧ k = 14) from fun e => h3 e.2)]
  have hw : min (c.ph - 1 + 11) 13 = (if 3 ≤ c.ph then 13 else c.ph + 10) := by split <;> omega
  rw [hw]
  by_cases h5 : k = (if 3 ≤ c.ph then 13 else c.ph + 10)
  · rw [if_pos h5, if_neg (show ¬ k ≠ _ from fun e => e h5)]
    have ha : a.toNat < ans.length := by omega
    have hf : c.op.filter (· ≠ a) = opens 0 (ans.set a.toNat true) := by
      rw [s.op h0, opens_set ha]
      congr 1
      funext y
      have : ((0 + a.toNat : Nat) : Int) = a := by omega
      rw [this]
    have s1 : Sim { c with op := c.op.filter (· ≠ a) } ⟨ans.set a.toNat true, c.ph, c.id, com, ab⟩ :=
      ⟨by simp [s.n], s.ph, s.id, s.pos, s.lo, s.hi, fun _ => hf, s.past, s.len, s.nz, s.run⟩
    by_cases h6 : false ∈ ans.set a.toNat true
    · rw [if_pos h6, if_neg (show ¬ (c.op.filter (· ≠ a)).length = 0 by rw [hf, opens_nil]; exact fun e => e h6)]
      exact ⟨rfl, s1⟩
    · rw [if_neg h6, if_pos (show (c.op.filter (· ≠ a)).length = 0 by rw [hf, opens_nil]; exact h6)]
      refine ⟨rfl, ?_⟩
      unfold Co.next
      simp only
      by_cases h7 : c.ph < 3
      · rw [if_pos h7, if_pos (show c.ph = 1 ∨ c.ph = 2 by omega)]
        exact s1.enter (by omega) (by omega) (fun _ => hr)
      · rw [if_neg h7, if_neg (show ¬ (c.ph = 1 ∨ c.ph = 2) by omega), if_pos (show c.ph = 3 ∨ c.ph = 4 by omega)]
        have hz : look c.past c.id = 0 := by rw [s.past, if_neg hr.1, if_neg hr.2]
        have hv : c.ph - 3 + 2 ≠ 0 := by omega
        unfold Rc.ends
        simp only
        by_cases h8 : c.ph = 3
        · rw [if_pos h8]
          refine ⟨by simp [Rc.turn, s.n], rfl, rfl, s.pos, Int.le_refl 0, (show (0 : Int) ≤ 4 by decide), fun e => absurd rfl e, fun y => ?_, ?_, put_nz s.nz hv, fun e => absurd rfl e⟩
          · simp only [look_put, Rc.turn, s.past y, List.mem_append, List.mem_singleton]
            by_cases h9 : y = c.id
            · subst h9; simp; omega
            · by_cases h10 : y ∈ com <;> by_cases h11 : y ∈ ab <;> simp [h9, h10, h11]
          · simp only [look_nz s.nz hz, Rc.turn, s.len, List.length_append, List.length_singleton]; omega
        · rw [if_neg h8]
          refine ⟨by simp [Rc.turn, s.n], rfl, rfl, s.pos, Int.le_refl 0, (show (0 : Int) ≤ 4 by decide), fun e => absurd rfl e, fun y => ?_, ?_, put_nz s.nz hv, fun e => absurd rfl e⟩
          · simp only [look_put, Rc.turn, s.past y, List.mem_append, List.mem_singleton]
            by_cases h9 : y = c.id
            · subst h9; simp [hr.1]; omega
            · by_cases h10 : y ∈ com <;> by_cases h11 : y ∈ ab <;> simp [h9, h10, h11]
          · simp only [look_nz s.nz hz, Rc.turn, s.len, List.length_append, List.length_singleton]; omega
  · rw [if_neg h5, if_pos (show k ≠ _ from h5)]
    exact ⟨rfl, s⟩
end Go.Proofs.Ytbcgipcgcjkfcaa
