/- cow: the plain law: trees are deep as they may be, and have the lists of the document. -/
import Derived.Test.YtfdbadpiklmbaaaCoH
set_option linter.unusedSimpArgs false
set_option linter.unusedVariables false
set_option linter.unnecessarySimpa false
set_option maxRecDepth 100000
namespace Go.Proofs.Ytfdbadpiklmbaaa
open Go.AM

/-! Depth. -/
def T.bal : T → Prop
  | .nil => True
  | .node l _ r => l.bal ∧ r.bal ∧ l.depth ≤ r.depth + 1 ∧ r.depth ≤ l.depth + 1
theorem T.even_bal {l : T} {x : Ext} {r : T} (hl : l.bal) (hr : r.bal) (h1 : l.depth ≤ r.depth + 2) (h2 : r.depth ≤ l.depth + 2) :
    (T.even l x r).bal ∧ max l.depth r.depth ≤ (T.even l x r).depth ∧ (T.even l x r).depth ≤ max l.depth r.depth + 1 ∧ (l.depth ≤ r.depth + 1 → r.depth ≤ l.depth + 1 → (T.even l x r).depth = 1 + max l.depth r.depth) := by
  unfold T.even
  split
  · cases l with
    | nil => rename_i h; simp [T.depth] at h
    | node ll lx lr =>
      obtain ⟨b1, b2, b3, b4⟩ := hl
      dsimp only
      split
      · simp only [T.depth, T.bal, b1, b2, hr, true_and] at *; omega
      · cases lr with
        | nil => rename_i h; simp [T.depth] at h
        | node a m b =>
          obtain ⟨c1, c2, c3, c4⟩ := b2
          simp only [T.depth, T.bal, b1, c1, c2, hr, true_and] at *; omega
  · split
    · cases r with
      | nil => rename_i h; simp [T.depth] at h
      | node rl rx rr =>
        obtain ⟨b1, b2, b3, b4⟩ := hr
        dsimp only
        split
        · simp only [T.depth, T.bal, b1, b2, hl, true_and] at *; omega
        · cases rl with
          | nil => rename_i h; simp [T.depth] at h
          | node a m b =>
            obtain ⟨c1, c2, c3, c4⟩ := b1
            simp only [T.depth, T.bal, b2, c1, c2, hl, true_and] at *; omega
    · refine ⟨⟨hl, hr, by omega, by omega⟩, ?_, ?_, fun _ _ => rfl⟩ <;> simp only [T.depth] <;> omega
theorem T.join_bal (l : T) (x : Ext) (r : T) : l.bal → r.bal → (T.join l x r).bal ∧ max l.depth r.depth ≤ (T.join l x r).depth ∧ (T.join l x r).depth ≤ max l.depth r.depth + 1 := by
  fun_induction T.join l x r with
  | case1 r h => simp [T.depth] at h
  | case2 r ll lx lr h ih =>
    intro hl hr
    obtain ⟨b1, b2, b3, b4⟩ := hl
    obtain ⟨i1, i2, i3⟩ := ih b2 hr
    simp only [T.depth] at h
    obtain ⟨e1, e2, e3, e4⟩ := T.even_bal (x := lx) b1 i1 (by omega) (by omega)
    refine ⟨e1, ?_, ?_⟩ <;> simp only [T.depth] <;> omega
  | case3 l h1 h => simp [T.depth] at h
  | case4 l rl rx rr h1 h ih =>
    intro hl hr
    obtain ⟨b1, b2, b3, b4⟩ := hr
    obtain ⟨i1, i2, i3⟩ := ih hl b1
    simp only [T.depth] at h h1
    obtain ⟨e1, e2, e3, e4⟩ := T.even_bal (x := rx) i1 b2 (by omega) (by omega)
    refine ⟨e1, ?_, ?_⟩ <;> simp only [T.depth] <;> omega
  | case5 l r h1 h2 =>
    intro hl hr
    refine ⟨⟨hl, hr, by omega, by omega⟩, ?_, ?_⟩ <;> simp only [T.depth] <;> omega
theorem T.last_bal : ∀ (r l : T) (x : Ext), l.bal → r.bal → (T.last l x r).1.bal
  | .nil, _, _, hl, _ => hl
  | .node rl rx rr, l, x, hl, hr => (T.join_bal l x _ hl (T.last_bal rr rl rx hr.1 hr.2.1)).1
theorem T.first_bal : ∀ (l : T) (x : Ext) (r : T), l.bal → r.bal → (T.first l x r).2.bal
  | .nil, _, _, _, hr => hr
  | .node ll lx lr, x, r, hl, hr => (T.join_bal _ x r (T.first_bal ll lx lr hl.1 hl.2.1) hr).1
theorem T.split_bal (o : Int) : ∀ t : T, t.bal → (T.split o t).1.bal ∧ (T.split o t).2.bal
  | .nil, _ => ⟨trivial, trivial⟩
  | .node l x r, h => by
    have h1 := T.split_bal o l h.1
    have h2 := T.split_bal o r h.2.1
    unfold T.split
    split
    · exact ⟨h1.1, (T.join_bal _ _ _ h1.2 h.2.1).1⟩
    split
    · exact ⟨(T.join_bal _ _ _ h.1 h2.1).1, h2.2⟩
    · exact ⟨(T.join_bal _ _ .nil h.1 (show T.bal .nil from trivial)).1, (T.join_bal .nil _ _ (show T.bal .nil from trivial) h.2.1).1⟩
theorem T.both_bal {l r : T} (hl : l.bal) (hr : r.bal) : (T.both l r).bal := by
  unfold T.both
  cases l with
  | nil => exact hr
  | node ll lx lr => exact (T.join_bal _ _ _ (T.last_bal lr ll lx hl.1 hl.2.1) hr).1
theorem T.put_bal {l : T} {x : Ext} {r : T} (hl : l.bal) (hr : r.bal) : (T.put l x r).bal := by
  have a : (T.lowOf l x).1.bal := by
    unfold T.lowOf
    cases l with
    | nil => exact trivial
    | node ll lx lr =>
      dsimp only
      split
      · exact T.last_bal lr ll lx hl.1 hl.2.1
      · exact hl
  have b : ∀ y, (T.highOf y r).2.bal := fun y => by
    unfold T.highOf
    cases r with
    | nil => exact trivial
    | node rl rx rr =>
      dsimp only
      split
      · exact T.first_bal rl rx rr hr.1 hr.2.1
      · exact hr
  exact (T.join_bal _ _ _ a (b _)).1
/-- The least of a depth. -/
def mn : Nat → Nat
  | 0 => 0
  | 1 => 1
  | n + 2 => mn (n + 1) + mn n + 1
theorem mn_mono : ∀ n, mn n ≤ mn (n + 1)
  | 0 => by decide
  | 1 => by decide
  | n + 2 => by have := mn_mono n; have := mn_mono (n + 1); simp only [mn] at *; omega
theorem mn_le {a b : Nat} (h : a ≤ b) : mn a ≤ mn b := by
  induction h with
  | refl => exact Nat.le_refl _
  | step h ih => exact Nat.le_trans ih (mn_mono _)
theorem T.mn_size : ∀ t : T, t.bal → mn t.depth ≤ t.size
  | .nil, _ => Nat.le_refl _
  | .node l x r, ⟨h1, h2, h3, h4⟩ => by
    have a := T.mn_size l h1
    have b := T.mn_size r h2
    simp only [T.depth, T.size]
    rcases Nat.le_total l.depth r.depth with h | h
    · rw [Nat.max_eq_right h]
      cases hd : r.depth with
      | zero => simp [mn]; omega
      | succ d =>
        have : mn d ≤ mn l.depth := mn_le (by omega)
        rw [hd] at b
        rw [show 1 + (d + 1) = d + 2 by omega]; simp only [mn]; omega
    · rw [Nat.max_eq_left h]
      cases hd : l.depth with
      | zero => simp [mn]; omega
      | succ d =>
        have : mn d ≤ mn r.depth := mn_le (by omega)
        rw [hd] at a
        rw [show 1 + (d + 1) = d + 2 by omega]; simp only [mn]; omega
theorem mn_half : ∀ n, 3 * (mn n + 1) ≤ 2 * (mn (n + 1) + 1)
  | 0 => by decide
  | 1 => by decide
  | n + 2 => by have := mn_half n; have := mn_half (n + 1); simp only [mn] at *; omega
theorem mn_four (n : Nat) : 4 * (mn n + 1) ≤ mn (n + 3) + 1 := by
  have := mn_half n
  show _ ≤ mn (n + 2) + mn (n + 1) + 1 + 1
  simp only [mn]; omega
theorem mn_pow (a : Nat) : ∀ k, 4 ^ k * (mn a + 1) ≤ mn (3 * k + a) + 1
  | 0 => by simp
  | k + 1 => by
    have := mn_pow a k
    have h4 := mn_four (3 * k + a)
    rw [show 3 * (k + 1) + a = 3 * k + a + 3 by omega, Nat.pow_succ]
    have : 4 ^ k * 4 * (mn a + 1) = 4 * (4 ^ k * (mn a + 1)) := by rw [Nat.mul_comm (4 ^ k) 4, Nat.mul_assoc]
    omega
/-- How many bits. -/
def bits : Nat → Nat → Nat
  | 0, _ => 0
  | f + 1, n => if n = 0 then 0 else 1 + bits f (n / 2)
theorem bits_lt : ∀ (f n : Nat), n ≤ f → n < 2 ^ bits f n
  | 0, n, h => by have : n = 0 := by omega
                  subst this; simp [bits]
  | f + 1, n, h => by
    unfold bits
    split
    · rename_i e; subst e; simp
    · have := bits_lt f (n / 2) (by omega)
      rw [Nat.add_comm, Nat.pow_succ]; omega
theorem T.deep {t : T} (h : t.bal) {f : Nat} (hf : t.size + 1 ≤ f) : t.depth ≤ bits f (t.size + 1) * 3 / 2 + 1 := by
  have h1 := bits_lt f (t.size + 1) hf
  have h2 := t.mn_size h
  generalize bits f (t.size + 1) = b at *
  apply Classical.byContradiction
  intro hn
  have hd : b * 3 / 2 + 2 ≤ t.depth := by omega
  have h3 := Nat.le_trans (mn_le hd) h2
  rcases Nat.mod_two_eq_zero_or_one b with hb | hb
  · obtain ⟨k, rfl⟩ : ∃ k, b = 2 * k := ⟨b / 2, by omega⟩
    have h4 := mn_pow 2 k
    have e1 : 2 * k * 3 / 2 + 2 = 3 * k + 2 := by omega
    rw [e1] at h3
    have e2 : 2 ^ (2 * k) = 4 ^ k := by rw [Nat.pow_mul]
    rw [e2] at h1
    have e3 : mn 2 = 2 := by decide
    rw [e3] at h4
    omega
  · obtain ⟨k, rfl⟩ : ∃ k, b = 2 * k + 1 := ⟨b / 2, by omega⟩
    have h4 := mn_pow 3 k
    have e1 : (2 * k + 1) * 3 / 2 + 2 = 3 * k + 3 := by omega
    rw [e1] at h3
    have e2 : 2 ^ (2 * k + 1) = 4 ^ k * 2 := by rw [Nat.pow_succ, Nat.pow_mul]
    rw [e2] at h1
    have e3 : mn 3 = 4 := by decide
    rw [e3] at h4
    omega
end Go.Proofs.Ytfdbadpiklmbaaa
