/- cow: trees with their nodes told old or new, and trees without; which objects a tree's nodes are. -/
import Derived.Test.YtfdbadpiklmbaaaFrB
import Derived.Test.YtfdbadpiklmbaaaCoT
set_option linter.unusedSimpArgs false
set_option linter.unusedVariables false
set_option linter.unnecessarySimpa false
set_option maxRecDepth 100000
namespace Go.Proofs.Ytfdbadpiklmbaaa
open Go.AM
theorem FT.er_even (l : FT) (x : Ext) (r : FT) : (FT.even l x r).er = T.even l.er x r.er := by
  unfold FT.even T.even
  simp only [FT.er_depth]
  split
  · cases l with
    | nil => rfl
    | node f ll lx lr =>
      simp only [FT.er, FT.er_depth]
      split
      · rfl
      · cases lr <;> rfl
  · split
    · cases r with
      | nil => rfl
      | node f rl rx rr =>
        simp only [FT.er, FT.er_depth]
        split
        · rfl
        · cases rl <;> rfl
    · rfl
theorem FT.er_join (l : FT) (x : Ext) (r : FT) : (FT.join l x r).er = T.join l.er x r.er := by
  fun_induction FT.join l x r with
  | case1 r h => simp [FT.depth] at h
  | case2 r f ll lx lr h ih =>
    rw [T.join.eq_def, FT.er_depth, FT.er_depth, if_pos h, FT.er_even, ih]; rfl
  | case3 l h1 h => simp [FT.depth] at h
  | case4 l f rl rx rr h1 h ih =>
    rw [T.join.eq_def, FT.er_depth, FT.er_depth, if_neg h1, if_pos h, FT.er_even, ih]; rfl
  | case5 l r h1 h2 =>
    rw [T.join.eq_def, FT.er_depth, FT.er_depth, if_neg h1, if_neg h2]; rfl
theorem FT.er_last : ∀ (r l : FT) (x : Ext), (FT.last l x r).1.er = (T.last l.er x r.er).1 ∧ (FT.last l x r).2 = (T.last l.er x r.er).2
  | .nil, l, x => ⟨rfl, rfl⟩
  | .node f rl rx rr, l, x => by
    obtain ⟨h1, h2⟩ := FT.er_last rr rl rx
    simp only [FT.last, FT.er_join, FT.er, T.last, h1, h2, and_self]
theorem FT.er_first : ∀ (l : FT) (x : Ext) (r : FT), (FT.first l x r).2.er = (T.first l.er x r.er).2 ∧ (FT.first l x r).1 = (T.first l.er x r.er).1
  | .nil, x, r => ⟨rfl, rfl⟩
  | .node f ll lx lr, x, r => by
    obtain ⟨h1, h2⟩ := FT.er_first ll lx lr
    simp only [FT.first, FT.er_join, FT.er, T.first, h1, h2, and_self]
theorem FT.er_both (l r : FT) : (FT.both l r).er = T.both l.er r.er := by
  unfold FT.both T.both
  cases l with
  | nil => rfl
  | node f ll lx lr => simp only [FT.er, FT.er_join, FT.er_last]
theorem FT.er_split (o : Int) : ∀ t : FT, (FT.split o t).1.er = (T.split o t.er).1 ∧ (FT.split o t).2.er = (T.split o t.er).2
  | .nil => ⟨rfl, rfl⟩
  | .node f l x r => by
    obtain ⟨h1, h2⟩ := FT.er_split o l
    obtain ⟨h3, h4⟩ := FT.er_split o r
    simp only [FT.split, FT.er, T.split]
    split
    · simp only [FT.er_join, h1, h2, and_self]
    split
    · simp only [FT.er_join, h3, h4, and_self]
    · simp only [FT.er_join, FT.er, and_self]
theorem FT.er_lowOf (l : FT) (x : Ext) : (FT.lowOf l x).1.er = (T.lowOf l.er x).1 ∧ (FT.lowOf l x).2 = (T.lowOf l.er x).2 := by
  unfold FT.lowOf T.lowOf
  cases l with
  | nil => exact ⟨rfl, rfl⟩
  | node f ll lx lr =>
    obtain ⟨h1, h2⟩ := FT.er_last lr ll lx
    simp only [FT.er, h2]
    split <;> simp only [FT.er, h1, and_self]
theorem FT.er_highOf (x : Ext) (r : FT) : (FT.highOf x r).2.er = (T.highOf x r.er).2 ∧ (FT.highOf x r).1 = (T.highOf x r.er).1 := by
  unfold FT.highOf T.highOf
  cases r with
  | nil => exact ⟨rfl, rfl⟩
  | node f ll lx lr =>
    obtain ⟨h1, h2⟩ := FT.er_first ll lx lr
    simp only [FT.er, h2]
    split <;> simp only [FT.er, h1, and_self]
theorem FT.er_put (l : FT) (x : Ext) (r : FT) : (FT.put l x r).er = T.put l.er x r.er := by
  unfold FT.put T.put
  simp only [FT.er_join, FT.er_lowOf, FT.er_highOf]
theorem FT.er_all {P : Ext → Prop} : ∀ t : FT, t.er.all P = t.all P
  | .nil => rfl
  | .node f l x r => by simp only [FT.er, T.all, FT.all, l.er_all, r.er_all]
/-- A tree of old nodes. -/
def T.old : T → FT
  | .nil => .nil
  | .node l x r => .node false l.old x r.old
theorem T.old_er : ∀ t : T, t.old.er = t
  | .nil => rfl
  | .node l x r => by simp only [T.old, FT.er, l.old_er, r.old_er]
theorem T.old_fresh : ∀ t : T, t.old.fresh = 0
  | .nil => rfl
  | .node l x r => by simp only [T.old, FT.fresh, l.old_fresh, r.old_fresh]; rfl
def FTput (t : FT) (x : Ext) : FT := FT.put (FT.split x.off t).1 x (FT.split (x.off + x.len) (FT.split x.off t).2).2
def FTcut (t : FT) (o n : Int) : FT := FT.both (FT.split o t).1 (FT.split (o + n) (FT.split o t).2).2
theorem FTput_er (t : FT) (x : Ext) : (FTput t x).er = Tput t.er x := by
  simp only [FTput, Tput, FT.er_put, FT.er_split]
theorem FTcut_er (t : FT) (o n : Int) : (FTcut t o n).er = Tcut t.er o n := by
  simp only [FTcut, Tcut, FT.er_both, FT.er_split]

/-- The objects that are a tree's nodes, in order. -/
def IdAt (h : AHeap) : T → Value → List Nat → Prop
  | .nil, v, L => v = .pointer none ∧ L = []
  | .node l x r, v, L => ∃ id pl pr L1 L2, v = .pointer (some ⟨id, 0, none⟩) ∧ h.get id = .cells (nodeC x pl pr (T.node l x r).depth (T.node l x r).size) .rw ∧ IdAt h l pl L1 ∧ IdAt h r pr L2 ∧ L = L1 ++ id :: L2
section
variable {h h' : AHeap} {O S S' Z : Nat → Prop}
theorem TrAt.ids : ∀ {t : T} {v : Value}, TrAt S h t v → ∃ L, IdAt h t v L ∧ ∀ j ∈ L, S j
  | .nil, v, e => ⟨[], ⟨e, rfl⟩, by simp⟩
  | .node l x r, v, ⟨id, pl, pr, e, hs, hg, hl, hr⟩ => by
    obtain ⟨L1, h1, h2⟩ := hl.ids
    obtain ⟨L2, h3, h4⟩ := hr.ids
    refine ⟨_, ⟨id, pl, pr, L1, L2, e, hg, h1, h3, rfl⟩, fun j hj => ?_⟩
    rcases List.mem_append.1 hj with hj | hj
    · exact h2 j hj
    · rcases List.mem_cons.1 hj with rfl | hj
      · exact hs
      · exact h4 j hj
theorem IdAt.lt : ∀ {t : T} {v : Value} {L : List Nat}, IdAt h t v L → ∀ j ∈ L, j < h.next
  | .nil, v, L, e => by rw [e.2]; simp
  | .node l x r, v, L, ⟨id, pl, pr, L1, L2, e, hg, hl, hr, eL⟩ => fun j hj => by
    subst eL
    rcases List.mem_append.1 hj with hj | hj
    · exact hl.lt j hj
    · rcases List.mem_cons.1 hj with rfl | hj
      · exact AHeap.lt_of_alive h (by rw [hg]; simp)
      · exact hr.lt j hj
theorem IdAt.keep : ∀ {t : T} {v : Value} {L : List Nat}, IdAt h t v L → (∀ j ∈ L, h'.get j = h.get j) → IdAt h' t v L
  | .nil, v, L, e, _ => e
  | .node l x r, v, L, ⟨id, pl, pr, L1, L2, e, hg, hl, hr, eL⟩, k => by
    subst eL
    exact ⟨id, pl, pr, L1, L2, e, (k id (by simp)).trans hg, hl.keep (fun j hj => k j (by simp [hj])), hr.keep (fun j hj => k j (by simp [hj])), rfl⟩
theorem IdAt.quiet {t : T} {v : Value} {L : List Nat} (i : IdAt h t v L) (q : h.quiet h') : IdAt h' t v L := i.keep fun j hj => q.2 j (i.lt j hj)
theorem IdAt.rw : ∀ {t : T} {v : Value} {L : List Nat}, IdAt h t v L → ∀ j ∈ L, ∃ c, h.get j = .cells c .rw
  | .nil, v, L, e => by rw [e.2]; simp
  | .node l x r, v, L, ⟨id, pl, pr, L1, L2, e, hg, hl, hr, eL⟩ => fun j hj => by
    subst eL
    rcases List.mem_append.1 hj with hj | hj
    · exact hl.rw j hj
    · rcases List.mem_cons.1 hj with rfl | hj
      · exact ⟨_, hg⟩
      · exact hr.rw j hj
theorem IdAt.len : ∀ {t : T} {v : Value} {L : List Nat}, IdAt h t v L → L.length = t.size
  | .nil, v, L, e => by rw [e.2]; rfl
  | .node l x r, v, L, ⟨id, pl, pr, L1, L2, e, hg, hl, hr, eL⟩ => by
    subst eL
    simp only [List.length_append, List.length_cons, T.size, hl.len, hr.len]; omega
/-- All nodes of a tree are old. -/
theorem FAt.old : ∀ {t : T} {v : Value} {L : List Nat}, TrAt S h t v → IdAt h t v L → (∀ j ∈ L, O j) → FAt O S h t.old v
  | .nil, v, L, e, _, _ => e
  | .node l x r, v, L, ⟨id, pl, pr, e, hs, hg, hl, hr⟩, ⟨id', pl', pr', L1, L2, e', hg', hl', hr', eL⟩, ho => by
    subst eL
    rw [e] at e'
    cases e'
    rw [hg] at hg'
    have hpl : pl = pl' := by simp [nodeC] at hg'; exact hg'.1
    have hpr : pr = pr' := by simp [nodeC] at hg'; exact hg'.2
    subst hpl hpr
    refine ⟨id, pl, pr, e, ⟨hs, fun _ => ho id (by simp)⟩, ?_, FAt.old hl hl' (fun j hj => ho j (by simp [hj])), FAt.old hr hr' (fun j hj => ho j (by simp [hj]))⟩
    rw [hg, ← FT.er_depth, ← FT.er_size]
    simp only [FT.er, T.old_er]
/-- What is not old is told new. -/
theorem FAt.count (O : Nat → Prop) [DecidablePred O] : ∀ {t : FT} {v : Value} {L : List Nat}, FAt O S h t v → IdAt h t.er v L → (L.filter fun j => !decide (O j)).length ≤ t.fresh
  | .nil, v, L, _, e => by rw [e.2]; exact Nat.le_refl _
  | .node f l x r, v, L, ⟨id, pl, pr, e, hs, hg, hl, hr⟩, ⟨id', pl', pr', L1, L2, e', hg', hl', hr', eL⟩ => by
    subst eL
    rw [e] at e'
    cases e'
    rw [hg] at hg'
    have hpl : pl = pl' := by simp [nodeC] at hg'; exact hg'.1
    have hpr : pr = pr' := by simp [nodeC] at hg'; exact hg'.2.1
    subst hpl hpr
    have i1 := FAt.count O hl hl'
    have i2 := FAt.count O hr hr'
    rw [List.filter_append, List.filter_cons, List.length_append]
    simp only [FT.fresh]
    cases f with
    | false =>
      have := hs.2 rfl
      simp only [this, decide_true, Bool.not_true, Bool.false_eq_true, if_false]
      omega
    | true =>
      split
      · simp only [List.length_cons, if_true]; omega
      · simp only [if_true]; omega
end
end Go.Proofs.Ytfdbadpiklmbaaa
