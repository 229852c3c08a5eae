/- cow: the plain law: lists. -/
import Derived.Test.YtfdbadpiklmbaaaCoP
set_option linter.unusedSimpArgs false
set_option linter.unusedVariables false
set_option linter.unnecessarySimpa false
set_option maxRecDepth 100000
namespace Go.Proofs.Ytfdbadpiklmbaaa
open Go.AM

/-- One lies ahead of the other, and they are two. -/
def Rx (a b : Ext) : Prop := a.off + a.len ≤ b.off ∧ ¬ a.meets b
/-- A list in its form. -/
def GoodL (l : List Ext) : Prop := (∀ x ∈ l, x.ok) ∧ l.Pairwise Rx
theorem GoodL.nil : GoodL [] := ⟨by simp, .nil⟩
theorem GoodL.sub {l l' : List Ext} (g : GoodL l) (h : l'.Sublist l) : GoodL l' := ⟨fun x hx => g.1 x (h.subset hx), g.2.sublist h⟩
theorem GoodL.left {a b : List Ext} (g : GoodL (a ++ b)) : GoodL a := g.sub (List.sublist_append_left a b)
theorem GoodL.right {a b : List Ext} (g : GoodL (a ++ b)) : GoodL b := g.sub (List.sublist_append_right a b)
theorem GoodL.len_from : ∀ {l : List Ext} {z : Nat}, GoodL l → z ≤ 1024 → (∀ x ∈ l, (z : Int) ≤ x.off) → z + l.length ≤ 1024
  | [], z, _, hz, _ => by simpa using hz
  | x :: l, z, g, hz, ho => by
    have hx := g.1 x (by simp)
    have hxo := ho x (by simp)
    unfold Ext.ok at hx
    have := GoodL.len_from (l := l) (z := z + 1) (g.sub (List.sublist_cons_self x l)) (by omega) fun y hy => by
      have := (List.pairwise_cons.1 g.2).1 y hy
      unfold Rx at this; omega
    simp only [List.length_cons]; omega
theorem GoodL.len {l : List Ext} (g : GoodL l) : l.length ≤ 1024 := by
  have := GoodL.len_from (z := 0) g (by omega) fun x hx => by have := g.1 x hx; unfold Ext.ok at this; omega
  omega
theorem lis_iff : ∀ {l : List Ext} {z : Int}, Lis z l ↔ (∀ x ∈ l, x.ok ∧ z ≤ x.off) ∧ l.Pairwise (fun a b => a.off + a.len ≤ b.off)
  | [], _ => by simp [Lis]
  | x :: l, z => by
    simp only [Lis, List.pairwise_cons, List.mem_cons, forall_eq_or_imp]
    rw [lis_iff (l := l)]
    constructor
    · rintro ⟨h1, h2, h3, h4⟩
      have h1' := h1
      unfold Ext.ok at h1'
      exact ⟨⟨⟨h1, h2⟩, fun y hy => ⟨(h3 y hy).1, by have := (h3 y hy).2; omega⟩⟩, fun y hy => (h3 y hy).2, h4⟩
    · rintro ⟨⟨⟨h1, h2⟩, h3⟩, h4, h5⟩
      exact ⟨h1, h2, fun y hy => ⟨(h3 y hy).1, h4 y hy⟩, h5⟩
theorem adj_iff : ∀ {l : List Ext}, (∀ x ∈ l, x.ok) → l.Pairwise (fun a b => a.off + a.len ≤ b.off) → (Adj l ↔ l.Pairwise Rx)
  | [], _, _ => by simp [Adj]
  | [x], _, _ => by simp [Adj]
  | x :: y :: l, ho, hp => by
    obtain ⟨p1, p2⟩ := List.pairwise_cons.1 hp
    have ih := adj_iff (l := y :: l) (fun z hz => ho z (List.mem_cons_of_mem _ hz)) p2
    rw [List.pairwise_cons, ← ih]
    constructor
    · rintro ⟨h1, h2⟩
      refine ⟨fun z hz => ⟨p1 z hz, ?_⟩, h2⟩
      rcases List.mem_cons.1 hz with rfl | hz
      · exact h1
      · have q := (List.pairwise_cons.1 p2).1 z hz
        have hy := ho y (by simp)
        have := p1 y (by simp)
        unfold Ext.ok at hy
        rintro ⟨m, _⟩; omega
    · exact fun ⟨h1, h2⟩ => ⟨(h1 y (by simp)).2, h2⟩
theorem right_iff {l : List Ext} : RightL l ↔ GoodL l := by
  constructor
  · rintro ⟨h1, h2, h3⟩
    obtain ⟨k1, k2⟩ := lis_iff.1 h2
    exact ⟨fun x hx => (k1 x hx).1, (adj_iff (fun x hx => (k1 x hx).1) k2).1 h3⟩
  · intro g
    have k2 : l.Pairwise (fun a b => a.off + a.len ≤ b.off) := g.2.imp fun h => h.1
    exact ⟨g.len, lis_iff.2 ⟨fun x hx => ⟨g.1 x hx, by have := g.1 x hx; unfold Ext.ok at this; omega⟩, k2⟩, (adj_iff g.1 k2).2 g.2⟩

/-- What of a list lies from one block to ahead of another one. -/
def partL (f t : Int) (l : List Ext) : List Ext := l.flatMap fun x => if x.lies f t then [x.clip f t] else []
theorem partL_append (f t : Int) (a b : List Ext) : partL f t (a ++ b) = partL f t a ++ partL f t b := by simp [partL]
theorem partL_cons (f t : Int) (x : Ext) (l : List Ext) : partL f t (x :: l) = (if x.lies f t then [x.clip f t] else []) ++ partL f t l := by simp [partL]
theorem partL_mem {f t : Int} {l : List Ext} {y : Ext} : y ∈ partL f t l ↔ ∃ x ∈ l, x.lies f t ∧ y = x.clip f t := by
  unfold partL
  rw [List.mem_flatMap]
  constructor
  · rintro ⟨x, hx, hy⟩
    split at hy
    · exact ⟨x, hx, ‹_›, by simpa using hy⟩
    · cases hy
  · rintro ⟨x, hx, hl, rfl⟩
    exact ⟨x, hx, by rw [if_pos hl]; simp⟩
theorem partL_none {f t : Int} {l : List Ext} (h : ∀ x ∈ l, ¬ x.lies f t) : partL f t l = [] := by
  induction l with
  | nil => rfl
  | cons x l ih => rw [partL_cons, if_neg (h x (by simp)), ih fun y hy => h y (List.mem_cons_of_mem _ hy)]; rfl
theorem Ext.clip_all {x : Ext} {f t : Int} (h1 : f ≤ x.off) (h2 : x.off + x.len ≤ t) : x.clip f t = x := by
  unfold Ext.clip
  rw [Int.max_eq_right h1, Int.min_eq_right h2]
  obtain ⟨o, n, p, b⟩ := x
  dsimp only at *
  simp only [Ext.mk.injEq, true_and, and_true]; omega
theorem partL_all {f t : Int} {l : List Ext} (h : ∀ x ∈ l, x.ok ∧ f ≤ x.off ∧ x.off + x.len ≤ t) : partL f t l = l := by
  induction l with
  | nil => rfl
  | cons x l ih =>
    obtain ⟨h1, h2, h3⟩ := h x (by simp)
    unfold Ext.ok at h1
    rw [partL_cons, if_pos (by unfold Ext.lies; omega), ih fun y hy => h y (List.mem_cons_of_mem _ hy), Ext.clip_all h2 h3]; rfl
theorem Rx.clip {a b : Ext} (h : Rx a b) (ha : a.ok) (hb : b.ok) {f t : Int} (la : a.lies f t) (lb : b.lies f t) : Rx (a.clip f t) (b.clip f t) := by
  unfold Rx Ext.meets Ext.ok Ext.lies Ext.clip at *
  dsimp only at *
  refine ⟨by omega, fun ⟨m1, m2, m3⟩ => h.2 ⟨by omega, by omega, m3⟩⟩
theorem GoodL.part {l : List Ext} (g : GoodL l) (f t : Int) : GoodL (partL f t l) := by
  refine ⟨fun y hy => ?_, ?_⟩
  · obtain ⟨x, hx, hl, rfl⟩ := partL_mem.1 hy
    exact Ext.ok_clip (g.1 x hx) hl
  · induction l with
    | nil => exact .nil
    | cons x l ih =>
      have ih := ih (g.sub (List.sublist_cons_self x l))
      rw [partL_cons]
      split
      · rename_i hl
        rw [List.singleton_append, List.pairwise_cons]
        refine ⟨fun y hy => ?_, ih⟩
        obtain ⟨z, hz, hlz, rfl⟩ := partL_mem.1 hy
        exact ((List.pairwise_cons.1 g.2).1 z hz).clip (g.1 x (by simp)) (g.1 z (by simp [hz])) hl hlz
      · simpa using ih
theorem GoodL.mid {a b : List Ext} {x : Ext} (g : GoodL (a ++ x :: b)) : GoodL a ∧ x.ok ∧ GoodL b ∧ (∀ y ∈ a, Rx y x) ∧ (∀ y ∈ b, Rx x y) := by
  obtain ⟨p1, p2, p3⟩ := List.pairwise_append.1 g.2
  exact ⟨g.left, g.1 x (by simp), g.right.sub (List.sublist_cons_self x b), fun y hy => p3 y hy x (by simp), fun y hy => (List.pairwise_cons.1 p2).1 y hy⟩

theorem T.parts_eq (f t : Int) : ∀ {a : T}, GoodL a.list → a.parts f t = partL f t a.list
  | .nil, _ => rfl
  | .node l x r, g => by
    obtain ⟨gl, gx, gr, hl, hr⟩ := g.mid
    simp only [T.parts, T.list, partL_append, partL_cons]
    rw [T.parts_eq f t gl, T.parts_eq f t gr]
    unfold Ext.ok at gx
    congr 1
    · split
      · rfl
      · refine (partL_none fun y hy => ?_).symm
        have := hl y hy; have := gl.1 y hy
        unfold Rx at *; unfold Ext.ok Ext.lies at *; omega
    · congr 1
      split
      · rfl
      · refine (partL_none fun y hy => ?_).symm
        have := hr y hy; have := gr.1 y hy
        unfold Rx at *; unfold Ext.ok Ext.lies at *; omega
theorem T.split_list (o : Int) (h0 : 0 ≤ o) (h1 : o ≤ 1024) : ∀ {a : T}, GoodL a.list → (T.split o a).1.list = partL 0 o a.list ∧ (T.split o a).2.list = partL o 1024 a.list
  | .nil, _ => ⟨rfl, rfl⟩
  | .node l x r, g => by
    obtain ⟨gl, gx, gr, hl, hr⟩ := g.mid
    obtain ⟨il1, il2⟩ := T.split_list o h0 h1 gl
    obtain ⟨ir1, ir2⟩ := T.split_list o h0 h1 gr
    have gx' := gx
    unfold Ext.ok at gx'
    have okl : ∀ y ∈ l.list, y.ok := gl.1
    have okr : ∀ y ∈ r.list, y.ok := gr.1
    unfold T.split
    simp only [T.list, partL_append, partL_cons]
    split
    · rename_i c
      rw [T.join_list, il1, il2]
      have n1 : ¬ x.lies 0 o := by unfold Ext.lies; omega
      have n2 : x.lies o 1024 := by unfold Ext.lies; omega
      rw [if_neg n1, if_pos n2, Ext.clip_all c (by omega)]
      have e1 : partL 0 o r.list = [] := partL_none fun y hy => by have := hr y hy; unfold Rx at this; unfold Ext.lies; omega
      have e2 : partL o 1024 r.list = r.list := partL_all fun y hy => by
        have := hr y hy; have h3 := okr y hy; refine ⟨h3, ?_⟩; unfold Ext.ok at h3; unfold Rx at this; omega
      rw [e1, e2]; simp
    split
    · rename_i c1 c
      rw [T.join_list, ir1, ir2]
      have n1 : x.lies 0 o := by unfold Ext.lies; omega
      have n2 : ¬ x.lies o 1024 := by unfold Ext.lies; omega
      rw [if_neg n2, if_pos n1, Ext.clip_all (by omega) c]
      have e1 : partL o 1024 l.list = [] := partL_none fun y hy => by have := hl y hy; unfold Rx at this; unfold Ext.lies; omega
      have e2 : partL 0 o l.list = l.list := partL_all fun y hy => by
        have := hl y hy; have h3 := okl y hy; refine ⟨h3, ?_⟩; unfold Ext.ok at h3; unfold Rx at this; omega
      rw [e1, e2]; simp
    · rename_i c1 c2
      rw [T.join_list, T.join_list]
      have n1 : x.lies 0 o := by unfold Ext.lies; omega
      have n2 : x.lies o 1024 := by unfold Ext.lies; omega
      rw [if_pos n1, if_pos n2]
      have e1 : partL o 1024 l.list = [] := partL_none fun y hy => by have := hl y hy; unfold Rx at this; unfold Ext.lies; omega
      have e2 : partL 0 o l.list = l.list := partL_all fun y hy => by
        have := hl y hy; have h3 := okl y hy; refine ⟨h3, ?_⟩; unfold Ext.ok at h3; unfold Rx at this; omega
      have e3 : partL 0 o r.list = [] := partL_none fun y hy => by have := hr y hy; unfold Rx at this; unfold Ext.lies; omega
      have e4 : partL o 1024 r.list = r.list := partL_all fun y hy => by
        have := hr y hy; have h3 := okr y hy; refine ⟨h3, ?_⟩; unfold Ext.ok at h3; unfold Rx at this; omega
      rw [e1, e2, e3, e4]
      simp [T.list]
theorem partL_part {l : List Ext} (g : ∀ x ∈ l, x.ok) {a b : Int} (h : a ≤ b) : partL b 1024 (partL a 1024 l) = partL b 1024 l := by
  induction l with
  | nil => rfl
  | cons x l ih =>
    have gx := g x (by simp)
    unfold Ext.ok at gx
    rw [partL_cons, partL_append, ih fun y hy => g y (by simp [hy]), partL_cons]
    congr 1
    split
    · rename_i c
      rw [partL_cons]
      have : (x.clip a 1024).lies b 1024 ↔ x.lies b 1024 := by unfold Ext.lies Ext.clip at *; dsimp only; omega
      simp only [this]
      split
      · rename_i c2
        simp only [partL, List.flatMap_nil, List.append_nil, List.cons.injEq, and_true]
        unfold Ext.lies Ext.clip at *
        simp only [Ext.mk.injEq, and_true]
        dsimp only at *
        have : max a x.off = max a x.off := rfl
        refine ⟨by omega, by omega, by omega⟩
      · rfl
    · rename_i c
      rw [if_neg (by unfold Ext.lies at *; omega)]; rfl
end Go.Proofs.Ytfdbadpiklmbaaa
