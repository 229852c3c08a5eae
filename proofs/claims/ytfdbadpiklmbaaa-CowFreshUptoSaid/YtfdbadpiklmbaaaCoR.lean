/- cow: the plain law: what is put, and cut, is the document's. -/
import Derived.Test.YtfdbadpiklmbaaaCoQ
set_option linter.unusedSimpArgs false
set_option linter.unusedVariables false
set_option linter.unnecessarySimpa false
set_option maxRecDepth 100000
namespace Go.Proofs.Ytfdbadpiklmbaaa
open Go.AM

/-- The document's join. -/
def jstep (out : List Ext) (y : Ext) : List Ext :=
  match out.getLast? with
  | some z => if z.meets y then out.dropLast ++ [z.with y] else out ++ [y]
  | none => out ++ [y]
def joinL (l : List Ext) : List Ext := l.foldl jstep []
def putL (l : List Ext) (x : Ext) : List Ext := joinL (partL 0 x.off l ++ [x] ++ partL (x.off + x.len) 1024 l)
def cutL (l : List Ext) (o n : Int) : List Ext := partL 0 o l ++ partL (o + n) 1024 l

theorem jstep_new {out : List Ext} {y : Ext} (h : ∀ z ∈ out, ¬ z.meets y) : jstep out y = out ++ [y] := by
  unfold jstep
  split
  · rename_i z hz
    rw [if_neg (h z (List.mem_of_getLast? hz))]
  · rfl
theorem jstep_one {out : List Ext} {z y : Ext} (h : z.meets y) : jstep (out ++ [z]) y = out ++ [z.with y] := by
  unfold jstep
  rw [List.getLast?_concat]
  simp only [if_pos h, List.dropLast_concat]
theorem jfold_new : ∀ (l out : List Ext), (∀ z ∈ out, ∀ y ∈ l, ¬ z.meets y) → l.Pairwise (fun a b => ¬ a.meets b) → l.foldl jstep out = out ++ l
  | [], out, _, _ => by simp
  | y :: l, out, h, p => by
    obtain ⟨p1, p2⟩ := List.pairwise_cons.1 p
    rw [List.foldl_cons, jstep_new fun z hz => h z hz y (by simp), jfold_new l _ ?_ p2]
    · simp
    · intro z hz w hw
      rcases List.mem_append.1 hz with hz | hz
      · exact h z hz w (by simp [hw])
      · obtain rfl : z = y := by simpa using hz
        exact p1 w hw
theorem GoodL.nm {l : List Ext} (g : GoodL l) : l.Pairwise (fun a b => ¬ a.meets b) := g.2.imp fun h => h.2

/-- Low, what is put, and high. -/
def lowL (l : List Ext) (x : Ext) : List Ext × Ext :=
  match l.getLast? with
  | some y => if y.meets x then (l.dropLast, y.with x) else (l, x)
  | none => (l, x)
def highL (x : Ext) (r : List Ext) : Ext × List Ext :=
  match r with
  | y :: r => if x.meets y then (x.with y, r) else (x, y :: r)
  | [] => (x, [])
theorem T.lowOf_list (l : T) (x : Ext) : (T.lowOf l x).1.list = (lowL l.list x).1 ∧ (T.lowOf l x).2 = (lowL l.list x).2 := by
  unfold T.lowOf lowL
  cases l with
  | nil => exact ⟨rfl, rfl⟩
  | node ll lx lr =>
    have e := T.last_list lr ll lx
    dsimp only
    rw [show (T.node ll lx lr).list = (T.last ll lx lr).1.list ++ [(T.last ll lx lr).2] from e.symm]
    rw [List.getLast?_concat]
    dsimp only
    split
    · rw [List.dropLast_concat]; exact ⟨rfl, rfl⟩
    · exact ⟨e.symm, rfl⟩
theorem T.highOf_list (x : Ext) (r : T) : (T.highOf x r).1 = (highL x r.list).1 ∧ (T.highOf x r).2.list = (highL x r.list).2 := by
  unfold T.highOf
  cases r with
  | nil => exact ⟨rfl, rfl⟩
  | node rl rx rr =>
    have e := T.first_list rl rx rr
    dsimp only
    rw [show (T.node rl rx rr).list = (T.first rl rx rr).1 :: (T.first rl rx rr).2.list from e.symm]
    unfold highL
    dsimp only
    split
    · exact ⟨rfl, rfl⟩
    · exact ⟨rfl, e.symm⟩
theorem T.put_list (l : T) (x : Ext) (r : T) : (T.put l x r).list = (lowL l.list x).1 ++ (highL (lowL l.list x).2 r.list).1 :: (highL (lowL l.list x).2 r.list).2 := by
  unfold T.put
  rw [T.join_list, (T.lowOf_list l x).1, (T.highOf_list _ r).1, (T.highOf_list _ r).2, (T.lowOf_list l x).2]

theorem snoc_of {l : List Ext} {y : Ext} (h : l.getLast? = some y) : l = l.dropLast ++ [y] := by
  have hne : l ≠ [] := by rintro rfl; cases h
  rw [List.getLast?_eq_some_getLast hne] at h
  have h2 : l.getLast hne = y := Option.some.inj h
  rw [← h2]; exact (List.dropLast_concat_getLast hne).symm
/-- What stands then: a list in its form. -/
theorem low_good {l : List Ext} {x : Ext} (g : GoodL l) (hx : x.ok) (hl : ∀ y ∈ l, y.off + y.len ≤ x.off) :
    GoodL ((lowL l x).1 ++ [(lowL l x).2]) ∧ (lowL l x).2.off + (lowL l x).2.len = x.off + x.len ∧ (lowL l x).2.phys + (lowL l x).2.len = x.phys + x.len ∧ (lowL l x).2.birth = x.birth ∧ l.foldl jstep [] ++ [] = l ∧ jstep l x = (lowL l x).1 ++ [(lowL l x).2] := by
  have ef : l.foldl jstep [] ++ [] = l := by rw [jfold_new l [] (by simp) g.nm]; simp
  unfold lowL
  cases hg : l.getLast? with
  | none =>
    have : l = [] := by simpa using hg
    subst this
    exact ⟨⟨by simpa using hx, by simp⟩, rfl, rfl, rfl, rfl, rfl⟩
  | some y =>
    have es := snoc_of hg
    dsimp only
    have hyl := List.mem_of_getLast? hg
    have hy := g.1 y hyl
    split
    · rename_i hm
      have hw := Ext.ok_with hy hx hm
      have hm' := hm
      unfold Ext.meets at hm'
      have g2 := g
      rw [es] at g2
      obtain ⟨p1, p2, p3⟩ := List.pairwise_append.1 g2.2
      refine ⟨⟨fun z hz => ?_, List.pairwise_append.2 ⟨p1, by simp, fun a ha b hb => ?_⟩⟩, ?_, ?_, ?_, ef, ?_⟩
      · rcases List.mem_append.1 hz with hz | hz
        · exact g2.1 z (List.mem_append_left _ hz)
        · obtain rfl : z = _ := by simpa using hz
          exact hw
      · obtain rfl : b = _ := by simpa using hb
        have := p3 a ha y (by simp)
        unfold Rx Ext.meets Ext.with at *
        exact this
      · unfold Ext.with; dsimp only; omega
      · unfold Ext.with; dsimp only; omega
      · exact hm'.2.2
      · conv => lhs; rw [es]
        exact jstep_one hm
    · rename_i hm
      have nm : ∀ z ∈ l, ¬ z.meets x := fun z hz => by
        rw [es] at hz
        rcases List.mem_append.1 hz with hz | hz
        · have g2 := g.2
          rw [es] at g2
          have := (List.pairwise_append.1 g2).2.2 z hz y (by simp)
          have hyx := hl y hyl
          unfold Rx Ext.meets Ext.ok at *; omega
        · obtain rfl : z = y := by simpa using hz
          exact hm
      refine ⟨⟨fun z hz => ?_, List.pairwise_append.2 ⟨g.2, by simp, fun a ha b hb => ?_⟩⟩, rfl, rfl, rfl, ef, jstep_new nm⟩
      · rcases List.mem_append.1 hz with hz | hz
        · exact g.1 z hz
        · obtain rfl : z = x := by simpa using hz
          exact hx
      · obtain rfl : b = x := by simpa using hb
        exact ⟨hl a ha, nm a ha⟩
theorem high_good {l r : List Ext} {x : Ext} (g : GoodL (l ++ [x])) (gr : GoodL r) (hr : ∀ y ∈ r, x.off + x.len ≤ y.off) :
    GoodL (l ++ (highL x r).1 :: (highL x r).2) ∧ r.foldl jstep (l ++ [x]) = l ++ (highL x r).1 :: (highL x r).2 := by
  obtain ⟨p1, p2, p3⟩ := List.pairwise_append.1 g.2
  have hx := g.1 x (by simp)
  have lx : ∀ a ∈ l, Rx a x := fun a ha => p3 a ha x (by simp)
  have far : ∀ a ∈ l, ∀ y ∈ r, Rx a y := fun a ha y hy => by
    have h1 := lx a ha; have h2 := hr y hy
    unfold Rx Ext.meets Ext.ok at *; omega
  unfold highL
  cases r with
  | nil => exact ⟨g, rfl⟩
  | cons y r =>
    dsimp only
    have hy := gr.1 y (by simp)
    obtain ⟨q1, q2⟩ := List.pairwise_cons.1 gr.2
    split
    · rename_i hm
      have hw := Ext.ok_with hx hy hm
      have hm' := hm
      unfold Ext.meets at hm'
      have hwr : ∀ z ∈ r, Rx (x.with y) z := fun z hz => by
        have h1 := q1 z hz
        unfold Rx Ext.meets Ext.with at *; dsimp only; omega
      have hlw : ∀ a ∈ l, Rx a (x.with y) := fun a ha => by
        have h1 := lx a ha
        unfold Rx Ext.meets Ext.with at *; exact h1
      refine ⟨⟨fun z hz => ?_, List.pairwise_append.2 ⟨p1, List.pairwise_cons.2 ⟨hwr, q2⟩, fun a ha b hb => ?_⟩⟩, ?_⟩
      · rcases List.mem_append.1 hz with hz | hz
        · exact g.1 z (List.mem_append_left _ hz)
        · rcases List.mem_cons.1 hz with rfl | hz
          · exact hw
          · exact gr.1 z (List.mem_cons_of_mem _ hz)
      · rcases List.mem_cons.1 hb with rfl | hb
        · exact hlw a ha
        · exact far a ha b (List.mem_cons_of_mem _ hb)
      · rw [List.foldl_cons, jstep_one hm, jfold_new r _ ?_ (gr.nm.sublist (List.sublist_cons_self y r))]
        · simp
        · intro z hz w hw2
          rcases List.mem_append.1 hz with hz | hz
          · exact (far z hz w (List.mem_cons_of_mem _ hw2)).2
          · obtain rfl : z = _ := by simpa using hz
            exact (hwr w hw2).2
    · rename_i hm
      have hxr : ∀ z ∈ y :: r, Rx x z := fun z hz => by
        refine ⟨hr z hz, ?_⟩
        rcases List.mem_cons.1 hz with rfl | hz
        · exact hm
        · have h1 := q1 z hz; have h2 := hr y (by simp)
          unfold Rx Ext.meets Ext.ok at *; omega
      refine ⟨⟨fun z hz => ?_, List.pairwise_append.2 ⟨p1, List.pairwise_cons.2 ⟨hxr, gr.2⟩, fun a ha b hb => ?_⟩⟩, ?_⟩
      · rcases List.mem_append.1 hz with hz | hz
        · exact g.1 z (List.mem_append_left _ hz)
        · rcases List.mem_cons.1 hz with rfl | hz
          · exact hx
          · exact gr.1 z hz
      · rcases List.mem_cons.1 hb with rfl | hb
        · exact lx a ha
        · exact far a ha b hb
      · rw [jfold_new (y :: r) _ ?_ gr.nm]
        · simp
        · intro z hz w hw2
          rcases List.mem_append.1 hz with hz | hz
          · exact (far z hz w hw2).2
          · obtain rfl : z = x := by simpa using hz
            exact (hxr w hw2).2

/-- A tree that may be. -/
def GT (t : T) : Prop := GoodL t.list ∧ t.bal
theorem GT.nil : GT .nil := ⟨GoodL.nil, trivial⟩
theorem GT.okT {t : T} (g : GT t) : okT t := ⟨T.all_list.2 g.1.1, by rw [T.size_list]; have := g.1.len; omega⟩
theorem Tput_good {t : T} {x : Ext} (g : GT t) (hx : x.ok) : GT (Tput t x) ∧ (Tput t x).list = putL t.list x := by
  have hx' := hx
  unfold Ext.ok at hx'
  unfold Tput
  obtain ⟨s1, s2⟩ := T.split_list x.off (by omega) (by omega) g.1
  have g2 : GoodL (T.split x.off t).2.list := by rw [s2]; exact g.1.part _ _
  obtain ⟨_, s4⟩ := T.split_list (x.off + x.len) (by omega) (by omega) g2
  rw [s2, partL_part g.1.1 (by omega)] at s4
  have gl := g.1.part 0 x.off
  have gh := g.1.part (x.off + x.len) 1024
  have hl : ∀ y ∈ partL 0 x.off t.list, y.off + y.len ≤ x.off := fun y hy => by
    obtain ⟨z, hz, hlz, rfl⟩ := partL_mem.1 hy
    unfold Ext.clip Ext.lies at *; dsimp only; omega
  have hh : ∀ y ∈ partL (x.off + x.len) 1024 t.list, x.off + x.len ≤ y.off := fun y hy => by
    obtain ⟨z, hz, hlz, rfl⟩ := partL_mem.1 hy
    unfold Ext.clip Ext.lies at *; dsimp only; omega
  obtain ⟨a1, a2, a3, a4, a5, a6⟩ := low_good gl hx hl
  obtain ⟨b1, b2⟩ := high_good a1 gh (fun y hy => by rw [a2]; exact hh y hy)
  have el := T.put_list (T.split x.off t).1 x (T.split (x.off + x.len) (T.split x.off t).2).2
  rw [s1, s4] at el
  have bb := T.split_bal x.off t g.2
  have bc := T.split_bal (x.off + x.len) _ bb.2
  refine ⟨⟨by rw [el]; exact b1, T.put_bal bb.1 bc.2⟩, ?_⟩
  rw [el, ← b2]
  unfold putL joinL
  rw [List.foldl_append, List.foldl_append, List.foldl_cons, List.foldl_nil]
  rw [List.append_nil] at a5
  rw [a5, a6]
theorem Tcut_good {t : T} {o n : Int} (g : GT t) (hb : Blks o n) : GT (Tcut t o n) ∧ (Tcut t o n).list = cutL t.list o n := by
  unfold Blks at hb
  unfold Tcut
  obtain ⟨s1, s2⟩ := T.split_list o (by omega) (by omega) g.1
  have g2 : GoodL (T.split o t).2.list := by rw [s2]; exact g.1.part _ _
  obtain ⟨_, s4⟩ := T.split_list (o + n) (by omega) (by omega) g2
  rw [s2, partL_part g.1.1 (by omega)] at s4
  have el : ∀ l r : T, (T.both l r).list = l.list ++ r.list := fun l r => by
    unfold T.both
    cases l with
    | nil => rfl
    | node ll lx lr =>
      dsimp only
      have e := T.last_list lr ll lx
      rw [T.join_list]
      show _ = (ll.list ++ lx :: lr.list) ++ r.list
      rw [← e, List.append_assoc]; rfl
  have bb := T.split_bal o t g.2
  have bc := T.split_bal (o + n) _ bb.2
  have e := el (T.split o t).1 (T.split (o + n) (T.split o t).2).2
  rw [s1, s4] at e
  refine ⟨⟨?_, T.both_bal bb.1 bc.2⟩, e⟩
  rw [e]
  have gl := g.1.part 0 o
  have gh := g.1.part (o + n) 1024
  refine ⟨fun x hx => (List.mem_append.1 hx).elim (gl.1 x) (gh.1 x), List.pairwise_append.2 ⟨gl.2, gh.2, fun a ha b hb => ?_⟩⟩
  obtain ⟨z, hz, hlz, rfl⟩ := partL_mem.1 ha
  obtain ⟨w, hw, hlw, rfl⟩ := partL_mem.1 hb
  unfold Rx Ext.meets Ext.clip Ext.lies at *
  dsimp only
  omega
end Go.Proofs.Ytfdbadpiklmbaaa
