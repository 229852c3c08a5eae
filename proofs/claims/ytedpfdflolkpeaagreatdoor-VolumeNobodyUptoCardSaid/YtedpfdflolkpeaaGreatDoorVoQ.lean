/- volume: what an op does, in plain words. -/
import Derived.Test.YtedpfdflolkpeaaGreatDoorVoO
set_option linter.unusedSimpArgs false
set_option linter.unusedVariables false
set_option linter.unnecessarySimpa false
set_option maxRecDepth 100000
namespace Go.Proofs.YtedpfdflolkpeaaGreatDoor
open Go.AM
namespace Pl
theorem segs_in : ∀ {ps : List Piece} {k i : Nat} {a b j : Int} {p : Piece}, ps[i]? = some p → p.frm ≤ j → j < p.to → a ≤ j → j < b → (k + i, p.node, max p.frm a, min p.to b) ∈ segs k ps a b
  | [], _, _, _, _, _, _, h, _, _, _, _ => by simp at h
  | q :: ps, k, 0, a, b, j, p, h, h1, h2, h3, h4 => by
    simp only [List.getElem?_cons_zero, Option.some.injEq] at h
    subst h
    rw [segs, if_pos (by omega), Nat.add_zero]
    exact List.mem_cons_self ..
  | q :: ps, k, i + 1, a, b, j, p, h, h1, h2, h3, h4 => by
    have := segs_in (k := k + 1) (i := i) (a := a) (b := b) (by simpa using h) h1 h2 h3 h4
    rw [segs, show k + (i + 1) = k + 1 + i by omega]
    split
    · exact List.mem_cons_of_mem _ this
    · exact this
end Pl
theorem fits_of_right {n : Int} {o : Pl.Op} (h : o.right n) : o.b.fits n := by
  obtain ⟨⟨h1, h2⟩, ⟨k, h3, h4, h5⟩ | ⟨k, h3, h4, h5, h6⟩⟩ := h
  · have e : o.b.rng = (o.off, o.len) := by unfold Bop.rng Pl.Op.b; dsimp only; rw [if_neg (by omega), if_pos k]
    unfold Bop.fits
    rw [e]
    unfold Pl.lies at h5
    exact ⟨by dsimp only; omega, .inl ⟨k, h3⟩⟩
  · have e : o.b.rng = (o.off, (o.data.length : Int)) := by unfold Bop.rng Pl.Op.b; dsimp only; rw [if_pos k]
    unfold Bop.fits
    rw [e]
    unfold Pl.lies at h6
    exact ⟨by dsimp only; omega, .inr ⟨k, h3, by dsimp only; omega⟩⟩
/-- A part's op. -/
theorem cut_b {n : Int} {o : Pl.Op} (hr : o.right n) {f k : Int} (h1 : o.range.1 ≤ f) (h2 : 1 ≤ k) (h3 : f + k ≤ o.range.1 + o.range.2) : (o.cut f k).b.fits n ∧ (o.cut f k).b.rng = (f, k) ∧ (o.cut f k).b.off = f ∧ ∀ j : Nat, f ≤ j → (j : Int) < f + k → (o.cut f k).b.val j = o.b.val j := by
  obtain ⟨⟨r1, r2⟩, ⟨kk, r3, r4, r5⟩ | ⟨kk, r3, r4, r5, r6⟩⟩ := hr
  · rw [Pl.Op.range2 kk] at h1 h3
    dsimp only at h1 h3
    unfold Pl.lies at r5
    have e : o.cut f k = ⟨o.kind, f, k, []⟩ := by unfold Pl.Op.cut; rw [if_neg (by omega)]
    have er : (o.cut f k).b.rng = (f, k) := by rw [e]; unfold Bop.rng Pl.Op.b; dsimp only; rw [if_neg (by omega), if_pos kk]
    refine ⟨?_, er, by rw [e]; rfl, fun j j1 j2 => ?_⟩
    · unfold Bop.fits
      rw [er, e]
      exact ⟨by dsimp only; omega, .inl ⟨kk, rfl⟩⟩
    · rw [e]; unfold Bop.val Pl.Op.b; dsimp only; rw [if_neg (by omega), if_neg (by omega)]
  · rw [Pl.Op.range1 kk] at h1 h3
    dsimp only at h1 h3
    unfold Pl.lies at r6
    have e : o.cut f k = ⟨1, f, 0, (o.data.drop (f - o.off).toNat).take k.toNat⟩ := by unfold Pl.Op.cut; rw [if_pos kk]
    have el : ((o.data.drop (f - o.off).toNat).take k.toNat).length = k.toNat := by simp only [List.length_take, List.length_drop]; omega
    have er : (o.cut f k).b.rng = (f, k) := by
      rw [e]; unfold Bop.rng Pl.Op.b; dsimp only; rw [if_pos rfl, el]; congr 1; omega
    refine ⟨?_, er, by rw [e]; rfl, fun j j1 j2 => ?_⟩
    · unfold Bop.fits
      rw [er, e]
      exact ⟨by dsimp only; omega, .inr ⟨rfl, rfl, by dsimp only; omega⟩⟩
    · rw [e]; unfold Bop.val Pl.Op.b; dsimp only
      rw [if_pos rfl, if_pos kk, getD_sub _ _ _ _ (by omega)]
      congr 1; omega
theorem may1_zero {v : Vm} : ∀ {l : List Pl.Part}, may1 v l = 0 → ∀ p ∈ l, (v.sh p.node.toNat).frozen = false
  | [], _, p, hp => by cases hp
  | q :: l, h, p, hp => by
    rw [may1_cons] at h
    split at h
    · cases h
    · rename_i h1
      split at h
      · cases h
      · rcases List.mem_cons.1 hp with rfl | hp
        · cases hz : (v.sh p.node.toNat).frozen with
          | true => exact absurd hz h1
          | false => rfl
        · exact may1_zero h p hp
theorem may2_zero {v : Vm} : ∀ {l pre : List Pl.Part}, may2 v pre l = 0 → ∀ (i : Nat) (p : Pl.Part), l[i]? = some p → (v.sh p.node.toNat).opn.length + (cntN (pre ++ l.take i) p.node + 1) ≤ 256
  | [], _, _, i, p, hp => by simp at hp
  | q :: l, pre, h, i, p, hp => by
    rw [may2] at h
    split at h
    · cases h
    · rename_i h1
      cases i with
      | zero =>
        simp only [List.getElem?_cons_zero, Option.some.injEq] at hp
        subst hp
        rw [List.take_zero, List.append_nil]; omega
      | succ i =>
        have := may2_zero h i p (by simpa using hp)
        rw [List.take_succ_cons]
        rw [List.append_assoc] at this
        exact this
theorem cntN_toNat {l : List Pl.Part} (hl : ∀ p ∈ l, 0 ≤ p.node) {x : Int} (hx : 0 ≤ x) : cntN l x = (l.filter fun p => decide (p.node.toNat = x.toNat)).length := by
  unfold cntN
  congr 1
  refine List.filter_congr fun p hp => ?_
  have := hl p hp
  by_cases e : p.node = x
  · simp [e]
  · have : p.node.toNat ≠ x.toNat := by omega
    simp [e, this]
/-- The parts of an op, one by one. -/
theorem doL_val {b : Nat} {V : Nat → Nat} {v : Vm} (g : v.good b) {l : List Pl.Part} (hb : b + l.length ≤ 1073741824) (hnode : ∀ p ∈ l, 0 ≤ p.node ∧ p.node < 16) (hfit : ∀ p ∈ l, p.op.b.fits v.mp.n) (hV : ∀ p ∈ l, ∀ j, p.op.b.off.toNat ≤ j → j < p.op.b.off.toNat + p.op.b.rng.2.toNat → p.op.b.val j = V j)
    (hz : ∀ p ∈ l, (v.sh p.node.toNat).frozen = false) (hc : ∀ (i : Nat) (p : Pl.Part), l[i]? = some p → (v.sh p.node.toNat).opn.length + (cntN (l.take i) p.node + 1) ≤ 256) :
    ∀ i, i ≤ l.length → (v.doL (l.take i)).good (b + i) ∧ (∀ k, k < 16 → ((v.doL (l.take i)).sh k).frozen = (v.sh k).frozen ∧ ((v.doL (l.take i)).sh k).opn.length = (v.sh k).opn.length + ((l.take i).filter fun p => decide (p.node.toNat = k)).length ∧
      ∀ j, j < v.mp.n.toNat → ((v.doL (l.take i)).sh k).val j = if (∃ p ∈ l.take i, p.node.toNat = k ∧ p.op.b.off.toNat ≤ j ∧ j < p.op.b.off.toNat + p.op.b.rng.2.toNat) then V j else (v.sh k).val j)
  | 0, _ => ⟨g, fun k hk => ⟨rfl, rfl, fun j hj => by rw [if_neg (by rintro ⟨p, hp, _⟩; simp at hp)]; rfl⟩⟩
  | i + 1, hi => by
    obtain ⟨g1, r1⟩ := doL_val g hb hnode hfit hV hz hc i (by omega)
    have hlt : i < l.length := by omega
    obtain ⟨p, hp⟩ : ∃ p, l[i]? = some p := ⟨_, List.getElem?_eq_getElem hlt⟩
    have hpm := List.mem_of_getElem? hp
    have e1 : l.take (i + 1) = l.take i ++ [p] := by rw [List.take_add_one, hp]; rfl
    have hk : p.node.toNat < 16 := by have := hnode p hpm; omega
    obtain ⟨z1, o1, v1⟩ := r1 _ hk
    have hcn := hc i p hp
    rw [cntN_toNat (fun q hq => (hnode q (List.mem_of_mem_take hq)).1) (hnode p hpm).1] at hcn
    have gs := g1.sh _ hk
    have hmp : (v.doL (l.take i)).mp = v.mp := Vm.doL_mp _ _
    rw [hmp] at gs
    have e2 := doOp_ok (m := (v.doL (l.take i)).sh p.node.toNat) (o := p.op.b) (by rw [gs.2]; exact hfit p hpm) (z1.trans (hz p hpm)) (by omega)
    rw [e1, doL_app]
    refine ⟨g1.one (by omega) hk, fun k hk' => ?_⟩
    unfold Vm.one
    by_cases ek : k = p.node.toNat
    · subst ek
      rw [Vm.set_eq]
      refine ⟨by rw [e2]; exact z1, by rw [e2, List.filter_append, List.length_append]; simp [o1]; omega, fun j hj => ?_⟩
      rw [doOp_val gs.1 (by omega) (by rw [e2]) (by rw [gs.2]; exact hj), v1 j hj]
      by_cases c : p.op.b.off.toNat ≤ j ∧ j < p.op.b.off.toNat + p.op.b.rng.2.toNat
      · rw [if_pos c, if_pos ⟨p, by simp, rfl, c⟩]
        exact hV p hpm j c.1 c.2
      · rw [if_neg c]
        by_cases c2 : ∃ q ∈ l.take i, q.node.toNat = p.node.toNat ∧ q.op.b.off.toNat ≤ j ∧ j < q.op.b.off.toNat + q.op.b.rng.2.toNat
        · obtain ⟨q, hq, hq2⟩ := c2
          rw [if_pos ⟨q, hq, hq2⟩, if_pos ⟨q, List.mem_append_left _ hq, hq2⟩]
        · rw [if_neg c2, if_neg]
          rintro ⟨q, hq, hq2⟩
          rcases List.mem_append.1 hq with hq | hq
          · exact c2 ⟨q, hq, hq2⟩
          · obtain rfl := List.mem_singleton.1 hq; exact c hq2.2
    · rw [Vm.set_ne _ ek]
      obtain ⟨z2, o2, v2⟩ := r1 k hk'
      refine ⟨z2, by rw [o2, List.filter_append, List.length_append]; simp [Ne.symm ek], fun j hj => ?_⟩
      rw [v2 j hj]
      by_cases c2 : ∃ q ∈ l.take i, q.node.toNat = k ∧ q.op.b.off.toNat ≤ j ∧ j < q.op.b.off.toNat + q.op.b.rng.2.toNat
      · obtain ⟨q, hq, hq2⟩ := c2
        rw [if_pos ⟨q, hq, hq2⟩, if_pos ⟨q, List.mem_append_left _ hq, hq2⟩]
      · rw [if_neg c2, if_neg]
        rintro ⟨q, hq, hq2⟩
        rcases List.mem_append.1 hq with hq | hq
        · exact c2 ⟨q, hq, hq2⟩
        · obtain rfl := List.mem_singleton.1 hq; exact ek hq2.1.symm
theorem do_shows {v : Vm} {b : Nat} (g : v.good b) (hb : b + 16 ≤ 1073741824) {ver : Int} {o : Pl.Op} (h : (v.do ver o).1 = 0) : o.b.fits v.mp.n ∧ (v.do ver o).2.shows = o.b.app v.shows := by
  unfold Vm.do at *
  split at h
  · cases h
  rename_i h1
  split at h
  · rename_i h2; exact absurd h h2
  rename_i h2
  split at h
  · rename_i h3; exact absurd h h3
  rename_i h3
  rw [if_neg h1, if_neg h2, if_neg h3]
  have h2 := Decidable.not_not.1 h2
  have h3 := Decidable.not_not.1 h3
  have hr : o.right v.mp.n := by
    unfold Pl.SMap.err at h2
    rw [if_pos g.mp] at h2
    refine Decidable.byContradiction fun e => ?_
    rw [if_neg e] at h2; cases h2
  have hl := Pl.Op.range_right hr
  have hm1 : may1 v (v.mp.ops o) = 0 := by
    refine Decidable.byContradiction fun e => ?_
    unfold Vm.may at h3
    rw [if_pos e] at h3
    exact e h3
  have hm2 : may2 v [] (v.mp.ops o) = 0 := by unfold Vm.may at h3; rw [if_neg (fun e => e hm1)] at h3; exact h3
  have hops : v.mp.ops o = Pl.mkParts o.cut (Pl.segs 0 v.mp.ps o.range.1 (o.range.1 + o.range.2)) := by unfold Pl.SMap.ops; rw [if_pos ⟨g.mp, hr⟩]; rfl
  have hpart : ∀ p ∈ v.mp.ops o, ∃ s ∈ Pl.segs 0 v.mp.ps o.range.1 (o.range.1 + o.range.2), p = ⟨s.1, s.2.1, o.cut s.2.2.1 (s.2.2.2 - s.2.2.1)⟩ := fun p hp => by
    rw [hops] at hp
    obtain ⟨s, hs, rfl⟩ := List.mem_map.1 hp
    exact ⟨s, hs, rfl⟩
  have hcut : ∀ p ∈ v.mp.ops o, ∃ s ∈ Pl.segs 0 v.mp.ps o.range.1 (o.range.1 + o.range.2), p.node = s.2.1 ∧ p.op.b.fits v.mp.n ∧ p.op.b.rng = (s.2.2.1, s.2.2.2 - s.2.2.1) ∧ p.op.b.off = s.2.2.1 ∧ 0 ≤ s.2.2.1 ∧ s.2.2.1 < s.2.2.2 ∧ (o.range.1 ≤ s.2.2.1 ∧ s.2.2.2 ≤ o.range.1 + o.range.2) ∧ ∀ j : Nat, s.2.2.1 ≤ j → (j : Int) < s.2.2.2 → p.op.b.val j = o.b.val j := fun p hp => by
    obtain ⟨s, hs, rfl⟩ := hpart p hp
    obtain ⟨q, e1, e2, e3, e4, e5, e6, e7, e8, e9⟩ := segs_ok g.mp hl.2.2.1 hl.2.2.2.2 hs
    obtain ⟨c1, c2, c3, c4⟩ := cut_b hr (f := s.2.2.1) (k := s.2.2.2 - s.2.2.1) (by omega) (by omega) (by omega)
    exact ⟨s, hs, rfl, c1, c2, c3, by omega, by omega, ⟨by omega, by omega⟩, fun j j1 j2 => c4 j j1 (by omega)⟩
  have hrest := doL_val (V := o.b.val) g (l := v.mp.ops o) (by have := segs_ge (m := v.mp) (o := o); omega) (fun p hp => ops_node hp) (fun p hp => by obtain ⟨s, _, _, c, _⟩ := hcut p hp; exact c)
    (fun p hp j j1 j2 => by
      obtain ⟨s, hs, _, _, c2, c3, c4, c5, c6, c7⟩ := hcut p hp
      rw [c3] at j1 j2
      rw [c2] at j2
      dsimp only at j2
      exact c7 j (by omega) (by omega))
    (may1_zero hm1) (fun i p hp => by have := may2_zero hm2 i p hp; rwa [List.nil_append] at this) (v.mp.ops o).length (Nat.le_refl _)
  rw [List.take_length] at hrest
  have hmp : (v.doL (v.mp.ops o)).mp = v.mp := Vm.doL_mp _ _
  have hob : o.b.off = o.range.1 ∧ o.b.rng.2 = o.range.2 := by
    rcases hr.2 with ⟨k, _⟩ | ⟨k, _⟩
    · rw [Pl.Op.range2 k]; unfold Bop.rng Pl.Op.b; dsimp only; rw [if_neg (by omega), if_pos k]; exact ⟨rfl, rfl⟩
    · rw [Pl.Op.range1 k]; unfold Bop.rng Pl.Op.b; dsimp only; rw [if_pos k]; exact ⟨rfl, rfl⟩
  refine ⟨fits_of_right hr, ?_⟩
  apply List.ext_getElem?
  intro j
  by_cases hj : j < v.mp.n.toNat
  · rw [Vm.shows_get _ (by rw [hmp]; exact hj), hmp]
    have hnl := nodeAt_lt g.mp (j := (j : Int)) (by omega) (by omega)
    rw [(hrest.2 _ hnl.1).2.2 j hj]
    have hrhs : (o.b.app v.shows)[j]? = some (if o.b.off.toNat ≤ j ∧ j < o.b.off.toNat + o.b.rng.2.toNat then o.b.val j else (v.sh (nodeAt v.mp j)).val j) := by
      unfold Bop.app
      rw [paint_get, v.shows_get hj]; rfl
    rw [hrhs, hob.1, hob.2]
    congr 1
    by_cases c : o.range.1.toNat ≤ j ∧ j < o.range.1.toNat + o.range.2.toNat
    · rw [if_pos c, if_pos]
      obtain ⟨_, p, e1, e2, e3, e4, _⟩ := hnl
      have hs := Pl.segs_in (k := 0) (a := o.range.1) (b := o.range.1 + o.range.2) e1 e2 e3 (by omega) (by omega)
      rw [Nat.zero_add] at hs
      refine ⟨⟨_, p.node, o.cut (max p.frm o.range.1) (min p.to (o.range.1 + o.range.2) - max p.frm o.range.1)⟩, by rw [hops]; exact List.mem_map.2 ⟨_, hs, rfl⟩, e4.symm, ?_⟩
      obtain ⟨c1, c2, c3, c4⟩ := cut_b hr (f := max p.frm o.range.1) (k := min p.to (o.range.1 + o.range.2) - max p.frm o.range.1) (by omega) (by omega) (by omega)
      dsimp only
      rw [c2, c3]
      dsimp only
      omega
    · rw [if_neg c, if_neg]
      rintro ⟨p, hp, hp1, hp2, hp3⟩
      obtain ⟨s, hs, _, _, c2, c3, c4, c5, c6, c7⟩ := hcut p hp
      rw [c3] at hp2 hp3
      rw [c2] at hp3
      dsimp only at hp3
      omega
  · rw [List.getElem?_eq_none (by rw [Vm.shows_len, hmp]; omega), List.getElem?_eq_none (by unfold Bop.app; rw [paint_len, v.shows_len]; omega)]
end Go.Proofs.YtedpfdflolkpeaaGreatDoor
