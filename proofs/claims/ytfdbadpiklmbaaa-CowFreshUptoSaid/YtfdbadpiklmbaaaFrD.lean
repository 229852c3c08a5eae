/- cow: the plain law: how many new nodes a Put, or a Cut, leaves. -/
import Derived.Test.YtfdbadpiklmbaaaFrC
set_option linter.unusedSimpArgs false
set_option linter.unusedVariables false
set_option linter.unnecessarySimpa false
set_option maxRecDepth 100000
namespace Go.Proofs.Ytfdbadpiklmbaaa
open Go.AM
theorem FT.even_fresh (l : FT) (x : Ext) (r : FT) : (FT.even l x r).fresh ≤ l.fresh + r.fresh + 3 := by
  unfold FT.even
  split
  · cases l with
    | nil => simp only [FT.fresh]; simp; omega
    | node f ll lx lr =>
      dsimp only
      split
      · simp only [FT.fresh, if_true]; omega
      · cases lr with
        | nil => simp only [FT.fresh, if_true]; omega
        | node g a m b => simp only [FT.fresh, if_true]; omega
  · split
    · cases r with
      | nil => simp only [FT.fresh]; simp; omega
      | node f rl rx rr =>
        dsimp only
        split
        · simp only [FT.fresh, if_true]; omega
        · cases rl with
          | nil => simp only [FT.fresh, if_true]; omega
          | node g a m b => simp only [FT.fresh, if_true]; omega
    · simp only [FT.fresh, if_true]; omega
def FT.bal (t : FT) : Prop := t.er.bal
theorem FT.join_bal {l : FT} {x : Ext} {r : FT} (hl : l.bal) (hr : r.bal) : (FT.join l x r).bal ∧ max l.depth r.depth ≤ (FT.join l x r).depth ∧ (FT.join l x r).depth ≤ max l.depth r.depth + 1 := by
  unfold FT.bal
  rw [FT.er_join, ← FT.er_depth, ← FT.er_depth, ← FT.er_depth, FT.er_join]
  exact T.join_bal _ _ _ hl hr
theorem FT.join_fresh (l : FT) (x : Ext) (r : FT) : l.bal → r.bal → (FT.join l x r).fresh ≤ l.fresh + r.fresh + 1 + 3 * ((l.depth - r.depth) + (r.depth - l.depth) - 1) := by
  fun_induction FT.join l x r with
  | case1 r h => simp [FT.depth] at h
  | case2 r f ll lx lr h ih =>
    intro hl hr
    obtain ⟨b1, b2, b3, b4⟩ := hl
    rw [FT.er_depth, FT.er_depth] at b3 b4
    have i := ih b2 hr
    have e := FT.even_fresh ll lx (FT.join lr x r)
    simp only [FT.depth, FT.fresh] at *
    have hf : (if f = true then 1 else 0) ≥ 0 := Nat.zero_le _
    omega
  | case3 l h1 h => simp [FT.depth] at h
  | case4 l f rl rx rr h1 h ih =>
    intro hl hr
    obtain ⟨b1, b2, b3, b4⟩ := hr
    rw [FT.er_depth, FT.er_depth] at b3 b4
    have i := ih hl b1
    have e := FT.even_fresh (FT.join l x rl) rx rr
    simp only [FT.depth, FT.fresh] at *
    omega
  | case5 l r h1 h2 =>
    intro hl hr
    simp only [FT.fresh, if_true]; omega
theorem FT.join_mid {l : FT} {x : Ext} {r : FT} (h1 : l.depth ≤ r.depth + 1) (h2 : r.depth ≤ l.depth + 1) : (FT.join l x r).depth = 1 + max l.depth r.depth := by
  rw [FT.join.eq_def, if_neg (by omega), if_neg (by omega)]; rfl
/-- The last one taken away. -/
theorem FT.last_fresh : ∀ (r : FT) (f : Bool) (l : FT) (x : Ext), (FT.node f l x r).bal → (FT.last l x r).1.bal ∧ (FT.last l x r).1.depth ≤ (FT.node f l x r).depth ∧ (FT.node f l x r).depth ≤ (FT.last l x r).1.depth + 1 ∧ (FT.last l x r).1.fresh ≤ l.fresh + r.fresh + 4 * r.depth
  | .nil, f, l, x, h => by
    obtain ⟨b1, b2, b3, b4⟩ := h
    refine ⟨b1, ?_⟩
    simp only [FT.last, FT.depth, FT.fresh]
    omega
  | .node g rl rx rr, f, l, x, h => by
    obtain ⟨b1, b2, b3, b4⟩ := h
    obtain ⟨i1, i2, i3, i4⟩ := FT.last_fresh rr g rl rx b2
    obtain ⟨j1, j2, j3⟩ := FT.join_bal (x := x) (show l.bal from b1) i1
    have k := FT.join_fresh l x (FT.last rl rx rr).1 b1 i1
    have mid := FT.join_mid (l := l) (x := x) (r := (FT.last rl rx rr).1)
    rw [FT.er_depth, FT.er_depth] at b3 b4
    refine ⟨j1, ?_⟩
    simp only [FT.last]
    generalize (FT.join l x (FT.last rl rx rr).1).depth = J at *
    generalize (FT.join l x (FT.last rl rx rr).1).fresh = JF at *
    generalize (FT.last rl rx rr).1.depth = D at *
    generalize (FT.last rl rx rr).1.fresh = DF at *
    simp only [FT.depth, FT.fresh] at *
    split <;> by_cases h9 : l.depth ≤ D + 1 <;> by_cases h8 : D ≤ l.depth + 1 <;> (try have := mid h9 h8) <;> refine ⟨?_, ?_, ?_⟩ <;> omega
theorem FT.first_fresh : ∀ (l : FT) (f : Bool) (x : Ext) (r : FT), (FT.node f l x r).bal → (FT.first l x r).2.bal ∧ (FT.first l x r).2.depth ≤ (FT.node f l x r).depth ∧ (FT.node f l x r).depth ≤ (FT.first l x r).2.depth + 1 ∧ (FT.first l x r).2.fresh ≤ l.fresh + r.fresh + 4 * l.depth
  | .nil, f, x, r, h => by
    obtain ⟨b1, b2, b3, b4⟩ := h
    refine ⟨b2, ?_⟩
    simp only [FT.first, FT.depth, FT.fresh]
    omega
  | .node g ll lx lr, f, x, r, h => by
    obtain ⟨b1, b2, b3, b4⟩ := h
    obtain ⟨i1, i2, i3, i4⟩ := FT.first_fresh ll g lx lr b1
    obtain ⟨j1, j2, j3⟩ := FT.join_bal (x := x) i1 (show r.bal from b2)
    have k := FT.join_fresh (FT.first ll lx lr).2 x r i1 b2
    have mid := FT.join_mid (l := (FT.first ll lx lr).2) (x := x) (r := r)
    rw [FT.er_depth, FT.er_depth] at b3 b4
    refine ⟨j1, ?_⟩
    simp only [FT.first]
    generalize (FT.join (FT.first ll lx lr).2 x r).depth = J at *
    generalize (FT.join (FT.first ll lx lr).2 x r).fresh = JF at *
    generalize (FT.first ll lx lr).2.depth = D at *
    generalize (FT.first ll lx lr).2.fresh = DF at *
    simp only [FT.depth, FT.fresh] at *
    split <;> by_cases h9 : D ≤ r.depth + 1 <;> by_cases h8 : r.depth ≤ D + 1 <;> (try have := mid h9 h8) <;> refine ⟨?_, ?_, ?_⟩ <;> omega
/-- A split: the parts are no deeper. -/
theorem FT.split_fresh (o : Int) : ∀ t : FT, t.bal → (FT.split o t).1.bal ∧ (FT.split o t).2.bal ∧ (FT.split o t).1.depth ≤ t.depth ∧ (FT.split o t).2.depth ≤ t.depth ∧
    (FT.split o t).1.fresh + (FT.split o t).2.fresh ≤ t.fresh + t.depth + 1 + 3 * ((FT.split o t).1.depth + (FT.split o t).2.depth)
  | .nil, _ => by simp [FT.split, FT.bal, FT.er, T.bal, FT.depth, FT.fresh]
  | .node f l x r, h => by
    obtain ⟨b1, b2, b3, b4⟩ := h
    obtain ⟨i1, i2, i3, i4, i5⟩ := FT.split_fresh o l b1
    obtain ⟨j1, j2, j3, j4, j5⟩ := FT.split_fresh o r b2
    rw [FT.er_depth, FT.er_depth] at b3 b4
    unfold FT.split
    split
    · obtain ⟨k1, k2, k3⟩ := FT.join_bal (x := x) i2 (show r.bal from b2)
      have k4 := FT.join_fresh (FT.split o l).2 x r i2 b2
      refine ⟨i1, k1, ?_⟩
      dsimp only
      simp only [FT.depth, FT.fresh]
      refine ⟨?_, ?_, ?_⟩ <;> omega
    split
    · obtain ⟨k1, k2, k3⟩ := FT.join_bal (x := x) (show l.bal from b1) j1
      have k4 := FT.join_fresh l x (FT.split o r).1 b1 j1
      refine ⟨k1, j2, ?_⟩
      dsimp only
      simp only [FT.depth, FT.fresh]
      refine ⟨?_, ?_, ?_⟩ <;> omega
    · have n0 : FT.bal .nil := trivial
      obtain ⟨k1, k2, k3⟩ := FT.join_bal (x := x.clip 0 o) (show l.bal from b1) n0
      have k4 := FT.join_fresh l (x.clip 0 o) .nil b1 n0
      obtain ⟨m1, m2, m3⟩ := FT.join_bal (x := x.clip o 1024) n0 (show r.bal from b2)
      have m4 := FT.join_fresh .nil (x.clip o 1024) r n0 b2
      refine ⟨k1, m1, ?_⟩
      dsimp only
      simp only [FT.depth, FT.fresh] at *
      refine ⟨?_, ?_, ?_⟩ <;> omega
theorem FT.lowOf_fresh {l : FT} {x : Ext} (h : l.bal) : (FT.lowOf l x).1.bal ∧ (FT.lowOf l x).1.depth ≤ l.depth ∧ l.depth ≤ (FT.lowOf l x).1.depth + 1 ∧ (FT.lowOf l x).1.fresh ≤ l.fresh + 4 * l.depth := by
  unfold FT.lowOf
  cases l with
  | nil => simp [FT.bal, FT.er, T.bal, FT.depth, FT.fresh]
  | node f ll lx lr =>
    dsimp only
    split
    · obtain ⟨h1, h2, h3, h4⟩ := FT.last_fresh lr f ll lx h
      refine ⟨h1, h2, h3, ?_⟩
      simp only [FT.fresh, FT.depth] at *
      omega
    · exact ⟨h, Nat.le_refl _, Nat.le_succ _, Nat.le_add_right _ _⟩
theorem FT.highOf_fresh {r : FT} {x : Ext} (h : r.bal) : (FT.highOf x r).2.bal ∧ (FT.highOf x r).2.depth ≤ r.depth ∧ r.depth ≤ (FT.highOf x r).2.depth + 1 ∧ (FT.highOf x r).2.fresh ≤ r.fresh + 4 * r.depth := by
  unfold FT.highOf
  cases r with
  | nil => simp [FT.bal, FT.er, T.bal, FT.depth, FT.fresh]
  | node f ll lx lr =>
    dsimp only
    split
    · obtain ⟨h1, h2, h3, h4⟩ := FT.first_fresh ll f lx lr h
      refine ⟨h1, h2, h3, ?_⟩
      simp only [FT.fresh, FT.depth] at *
      omega
    · exact ⟨h, Nat.le_refl _, Nat.le_succ _, Nat.le_add_right _ _⟩
theorem FTput_fresh {t : FT} {x : Ext} (h : t.bal) (h0 : t.fresh = 0) : (FTput t x).fresh ≤ 16 * (t.depth + (FTput t x).depth + 2) := by
  obtain ⟨i1, i2, i3, i4, i5⟩ := FT.split_fresh x.off t h
  obtain ⟨j1, j2, j3, j4, j5⟩ := FT.split_fresh (x.off + x.len) _ i2
  unfold FTput FT.put
  obtain ⟨a1, a2, a3, a4⟩ := FT.lowOf_fresh (x := x) i1
  obtain ⟨c1, c2, c3, c4⟩ := FT.highOf_fresh (x := (FT.lowOf (FT.split x.off t).1 x).2) j2
  obtain ⟨k1, k2, k3⟩ := FT.join_bal (x := (FT.highOf (FT.lowOf (FT.split x.off t).1 x).2 (FT.split (x.off + x.len) (FT.split x.off t).2).2).1) a1 c1
  have k4 := FT.join_fresh _ (FT.highOf (FT.lowOf (FT.split x.off t).1 x).2 (FT.split (x.off + x.len) (FT.split x.off t).2).2).1 _ a1 c1
  omega
theorem FTcut_fresh {t : FT} {o n : Int} (h : t.bal) (h0 : t.fresh = 0) : (FTcut t o n).fresh ≤ 16 * (t.depth + (FTcut t o n).depth + 2) := by
  obtain ⟨i1, i2, i3, i4, i5⟩ := FT.split_fresh o t h
  obtain ⟨j1, j2, j3, j4, j5⟩ := FT.split_fresh (o + n) _ i2
  unfold FTcut FT.both
  generalize (FT.split (o + n) (FT.split o t).2) = q at *
  generalize FT.split o t = p at *
  obtain ⟨p1, p2⟩ := p
  dsimp only at *
  cases p1 with
  | nil =>
    simp only [FT.depth, FT.fresh] at *
    omega
  | node f ll lx lr =>
    obtain ⟨h1, h2, h3, h4⟩ := FT.last_fresh lr f ll lx i1
    obtain ⟨k1, k2, k3⟩ := FT.join_bal (x := (FT.last ll lx lr).2) h1 j2
    have k4 := FT.join_fresh _ (FT.last ll lx lr).2 _ h1 j2
    dsimp only
    simp only [FT.depth, FT.fresh] at *
    omega
end Go.Proofs.Ytfdbadpiklmbaaa
