/- shard: the law Stays. -/
import Derived.Test.YtjkganmkfhciiaaShL
set_option linter.unusedSimpArgs false
set_option linter.unusedVariables false
set_option linter.unnecessarySimpa false
set_option maxRecDepth 100000
namespace Go.Proofs.Ytjkganmkfhciiaa
open Go.AM

/-- What a shard comes to has grown. -/
def Sm.Grow (m m' : Sm) : Prop := m'.n = m.n ∧ (∃ l, m'.ts = m.ts ++ l) ∧ ∃ d, m'.us = m.us ++ d
theorem Sm.Grow.refl (m : Sm) : m.Grow m := ⟨rfl, ⟨[], by simp⟩, [], by simp⟩
theorem Sm.Grow.trans {a b c : Sm} (x : a.Grow b) (y : b.Grow c) : a.Grow c := by
  obtain ⟨x1, ⟨l, x2⟩, d, x3⟩ := x
  obtain ⟨y1, ⟨l', y2⟩, d', y3⟩ := y
  exact ⟨y1.trans x1, ⟨l ++ l', by rw [y2, x2, List.append_assoc]⟩, d ++ d', by rw [y3, x3, List.append_assoc]⟩
theorem go_grow (m : Sm) (o : Bop) : m.Grow (m.go o) := ⟨rfl, ⟨_, rfl⟩, _, rfl⟩
theorem replay_grow : ∀ (os : List Bop) (ks : List Bool) (m : Sm), m.Grow (m.replay os ks)
  | [], _, m => .refl m
  | _ :: _, [], m => .refl m
  | o :: os, k :: ks, m => by
    rw [Sm.replay_cons]
    cases k with
    | true => exact (go_grow m o).trans (replay_grow os ks _)
    | false => exact replay_grow os ks m
theorem replay_snaps : ∀ (os : List Bop) (ks : List Bool) (m : Sm), (m.replay os ks).snaps = m.snaps
  | [], _, _ => rfl
  | _ :: _, [], _ => rfl
  | o :: os, k :: ks, m => by
    rw [Sm.replay_cons, replay_snaps os ks]
    cases k <;> rfl
theorem act_grow (m : Sm) (a : SAct) : m.Grow (m.act a).2 := by
  have r := Sm.Grow.refl m
  unfold Sm.act
  by_cases k0 : a.kd % 8 = 0
  · rw [if_pos k0]; unfold Sm.doOp; repeat' split
    all_goals first | exact r | exact go_grow m _
  rw [if_neg k0]
  by_cases k1 : a.kd % 8 = 1
  · rw [if_pos k1]; exact r
  rw [if_neg k1]
  by_cases k2 : a.kd % 8 = 2
  · rw [if_pos k2]; exact r
  rw [if_neg k2]
  by_cases k3 : a.kd % 8 = 3
  · rw [if_pos k3]; unfold Sm.snap; repeat' split
    all_goals exact r
  rw [if_neg k3]
  by_cases k4 : a.kd % 8 = 4
  · rw [if_pos k4]; unfold Sm.delete; repeat' split
    all_goals exact r
  rw [if_neg k4]
  by_cases k5 : a.kd % 8 = 5
  · rw [if_pos k5]; unfold Sm.rollback; dsimp only; split <;> exact r
  rw [if_neg k5]
  by_cases k6 : a.kd % 8 = 6
  · rw [if_pos k6]; exact replay_grow m.opn a.keep { m with now := m.sure }
  rw [if_neg k6]; exact r
theorem act_snaps (m : Sm) (a : SAct) : (m.act a).2.snaps = if (m.act a).1 = 0 ∧ a.kd % 8 = 3 then m.snaps ++ [(a.id, m.now)] else if (m.act a).1 = 0 ∧ a.kd % 8 = 4 then delS m.snaps a.id else m.snaps := by
  unfold Sm.act
  by_cases k0 : a.kd % 8 = 0
  · simp only [k0, if_true]
    rw [if_neg (by omega), if_neg (by omega)]
    unfold Sm.doOp; repeat' split
    all_goals rfl
  by_cases k1 : a.kd % 8 = 1
  · simp [k1, Sm.flush]
  by_cases k2 : a.kd % 8 = 2
  · simp [k2]
  by_cases k3 : a.kd % 8 = 3
  · simp only [k3, if_true, if_false, Nat.reduceEqDiff, and_true]
    unfold Sm.snap
    by_cases c1 : a.id < 1
    · simp [c1]
    by_cases c2 : (m.find a.id).2 = 0
    · simp [c1, c2]
    by_cases c3 : 32 ≤ m.snaps.length
    · simp [c1, c2, c3]
    · simp [c1, c2, c3]
  by_cases k4 : a.kd % 8 = 4
  · simp only [k4, if_true, if_false, Nat.reduceEqDiff, and_true, and_false]
    unfold Sm.delete
    by_cases c1 : (m.find a.id).2 = 0
    · simp [c1]
    · simp [c1]
  by_cases k5 : a.kd % 8 = 5
  · simp only [k5, if_true, if_false, Nat.reduceEqDiff, and_false]
    unfold Sm.rollback; dsimp only; split <;> rfl
  by_cases k6 : a.kd % 8 = 6
  · simp only [k6, if_true, if_false, Nat.reduceEqDiff, and_false]
    exact replay_snaps _ _ _
  simp [k0, k1, k2, k3, k4, k5, k6]
theorem kput_append {us d : List Nat} {x : Ext} {v : List Nat} {k : Nat} (h : (x.phys + k).toNat < us.length) : kput (us ++ d) x v k = kput us x v k := by
  unfold kput
  rw [if_pos h, if_pos (by rw [List.length_append]; omega), List.getD, List.getD, List.getElem?_append_left h]
theorem viewL_append {us d : List Nat} {n : Nat} {l : List Ext} (h : ∀ x ∈ l, x.ok ∧ x.phys + x.len ≤ us.length) : viewL (us ++ d) n l = viewL us n l := by
  have ks : ∀ (x : Ext), x.ok → x.phys + x.len ≤ us.length → ∀ (js : List Nat), (∀ j ∈ js, j < x.len.toNat) → ∀ v, js.foldl (kput (us ++ d) x) v = js.foldl (kput us x) v := by
    intro x hx hu js
    unfold Ext.ok at hx
    induction js with
    | nil => intro _ v; rfl
    | cons j js ih =>
      intro hj v
      have := hj j (by simp)
      rw [List.foldl_cons, List.foldl_cons, kput_append (by omega), ih fun i hi => hj i (by simp [hi])]
  have xs : ∀ (l : List Ext), (∀ x ∈ l, x.ok ∧ x.phys + x.len ≤ us.length) → ∀ v, l.foldl (xput (us ++ d)) v = l.foldl (xput us) v := by
    intro l
    induction l with
    | nil => intro _ v; rfl
    | cons x l ih =>
      intro hl v
      have hx := hl x (by simp)
      rw [List.foldl_cons, List.foldl_cons]
      unfold xput
      rw [ks x hx.1 hx.2 _ (fun j hj => List.mem_range.1 hj)]
      exact ih (fun y hy => hl y (by simp [hy])) _
  exact xs l h _
/-- What a tree is of stays. -/
theorem vol_grow {m m' : Sm} (c : Core m.n m.ts m.us) {r : Int} (h : Has m.ts r) (g : m.Grow m') : m'.vol r = m.vol r := by
  obtain ⟨g1, ⟨l, g2⟩, d, g3⟩ := g
  have hp := c.part h
  have e : F.part m'.ts r 0 1024 = F.part m.ts r 0 1024 := by
    have h' : Has m'.ts r := by rw [g2]; unfold Has at *; rw [List.length_append]; omega
    have et : m'.ts.getD r.toNat .nil = m.ts.getD r.toNat .nil := by unfold Has at h; rw [g2, List.getD, List.getD, List.getElem?_append_left (by omega)]
    unfold F.part
    rw [if_pos h', if_pos h, et]
  obtain ⟨gt, ft⟩ := c.get h
  unfold Sm.vol
  rw [e, g1, g3, hp]
  exact viewL_append fun x hx => ⟨gt.1.1 x hx, (ft x hx).2⟩

/-! A list of data that stand apart from it. -/
def OwnD {α : Type} (r : Rep α) (D Z : Nat) (ow : Nat → Nat) (h : AHeap) (xs : List α) (v : Value) : Prop := Lst r 0 (tg ow D) h xs v ∧ ∀ j, blk v = some j → ow j = Z
section
variable {α : Type} {r : Rep α} {D Z : Nat} {T : Nat → Prop} {ow own' : Nat → Nat} {h h' : AHeap} {xs : List α} {v : Value}
theorem OwnD.nil : OwnD r D Z ow h [] (.slice none 0 0) := ⟨.nil _ _ _ _, fun j e => by cases e⟩
theorem OwnD.ks (o : OwnD r D Z ow h xs v) (k : Ks T ow h own' h') (h1 : ¬ T D) (h2 : ¬ T Z) : OwnD r D Z own' h' xs v :=
  ⟨o.1.mono (Nat.le_refl _) k.1 (fun j hj hl _ => k.tg h1 j hj hl) (fun j hj hl => (k.tg h2 j (o.2 j hj) hl).2), fun j hj => (k.tg h2 j (o.2 j hj) (o.1.blk_ge hj).2).1⟩
theorem OwnD.slz (o : OwnD r D Z ow h xs v) : IsSl r (fun j => ow j = Z ∨ ow j = D) h xs v := by
  obtain ⟨⟨css, ha, h0, ⟨a, rfl, rfl, k⟩ | ⟨ob, rfl, hlo, hg⟩⟩, hz⟩ := o
  · exact .empty fun ad e => .inl (k ad e).1
  · refine ⟨_, _, css, rfl, Nat.le_refl _, Nat.le_trans h0 (by decide), (fun h => by cases h), (fun ad h => by cases h; exact .inr rfl), ?_, fun _ => ⟨_, _, _, rfl, .inl (hz _ rfl), hg, ?_, ?_⟩⟩
    · exact ha.moves fun j hj hl => ⟨.inr hj.1, rfl⟩
    · rw [ha.flat]; simp
    · rw [List.drop_zero, List.take_of_length_le]; rw [ha.flat]; exact Nat.le_refl _
/-- One more, behind a box. -/
theorem OwnD.app (hDZ : D ≠ Z) {y : α} {cs : List Value} {bytes : Nat} (o : OwnD r D Z ow h xs v) (sz : Nat) (hsz : r.sz = sz) (hy : r.R (fun j => ow j = D ∧ j < h.next) h y cs) (hb : (xs.length + 1) * bytes ≤ 140737488355328) (h62 : xs.length + 1 ≤ 281474976710656) :
    ∃ v' h', aappend (h.push (.cells cs .rw)) sz bytes v 1 cs = some (v', h') ∧ OwnD r D Z (bump ow h Z) h' (xs ++ [y]) v' ∧ Fw (fun j => blk v = some j) h h' ∧ (blk v' = blk v ∨ ∃ ob, blk v' = some ob ∧ h.next ≤ ob) ∧ ∃ a n c, v' = .slice a n c := by
  have q := AHeap.quiet.push h (.cells cs .rw)
  have o1 : Lst r 0 (fun j => tg ow D j ∧ j < h.next) (h.push (.cells cs .rw)) xs v := o.1.mono (Nat.le_refl _) q.1 (fun j hj hl _ => ⟨⟨hj, hl⟩, q.2 j hl⟩) (fun j _ hl => q.2 j hl)
  obtain ⟨v', h', e, l, f, n⟩ := o1.app1 (y := y) (cs := cs) (bytes := bytes) sz hsz (r.mono hy fun j hj hl => ⟨⟨hj, fun e => hDZ (hj.1.symm.trans (o.2 j e))⟩, q.2 j hl⟩) hb h62 (Nat.zero_le _)
  have n' : blk v' = blk v ∨ ∃ ob, blk v' = some ob ∧ h.next ≤ ob := n.imp id fun ⟨ob, h1, h2⟩ => ⟨ob, h1, Nat.le_trans q.1 h2⟩
  obtain ⟨a, c, rfl, _⟩ := l.len
  refine ⟨_, h', e, ⟨l.weaken fun j hj => (bump_lt hj.2).trans hj.1, fun j hj => ?_⟩, f.after q, n', _, _, _, rfl⟩
  rcases n' with n' | ⟨ob, n', hge⟩
  · rw [n'] at hj; exact (bump_lt (o.1.blk_ge hj).2).trans (o.2 j hj)
  · rw [n'] at hj; cases hj; exact bump_ge hge
/-- Another list stays, while one grows. -/
theorem OwnD.apart {w : Value} (hDZ : D ≠ Z) (o : OwnD r D Z ow h xs v) (f : Fw (fun j => blk w = some j) h h') (hw : ∀ j, blk w = some j → ow j = Z) (hne : ∀ j, blk v = some j → blk w ≠ some j) : OwnD r D Z (bump ow h Z) h' xs v :=
  ⟨o.1.mono (Nat.le_refl _) f.1 (fun j hj hl _ => ⟨(bump_lt hl).trans hj, f.2 j hl fun e => hDZ (hj.symm.trans (hw j e))⟩) (fun j hj hl => f.2 j hl fun e => hne j hj e), fun j hj => (bump_lt (o.1.blk_ge hj).2).trans (o.2 j hj)⟩
theorem OwnD.at {a : Option Addr} {n cap : Nat} (o : OwnD r D Z ow h xs (.slice a n cap)) (sz : Nat) (hsz : r.sz = sz) {i : Nat} (hi : i < n) :
    ∃ b off sp c md cs x, a = some ⟨b, off, sp⟩ ∧ ow b = Z ∧ h.get b = .cells c md ∧ xs[i]? = some x ∧ r.R (tg ow D) h x cs ∧ off + i * sz + sz ≤ c.length ∧ (c.drop (off + i * sz)).take sz = cs := by
  subst hsz
  obtain ⟨⟨css, ha, h0, ⟨a', e, rfl, k⟩ | ⟨ob, e, hlo, hg⟩⟩, hz⟩ := o
  · cases e; omega
  · cases e
    have hx : xs[i]? = some xs[i] := List.getElem?_eq_getElem hi
    obtain ⟨cs, hc, hr⟩ := ha.get hx
    refine ⟨ob, 0, _, css.flatten, _, cs, xs[i], rfl, hz _ rfl, hg, hx, r.weaken hr fun _ e => e.1, ?_, ?_⟩
    · rw [flat_length ha.lens, ← ha.1]
      have := Nat.mul_le_mul_right r.sz (Nat.succ_le_of_lt hi)
      rw [Nat.succ_mul] at this
      omega
    · rw [Nat.zero_add]; exact flat_at ha.lens hc
end
end Go.Proofs.Ytjkganmkfhciiaa
