/- net: what a bag is asked. -/
import Derived.Test.YtolnacokdjognaaNeH
set_option linter.unusedSimpArgs false
set_option linter.unusedVariables false
set_option linter.unnecessarySimpa false
set_option maxRecDepth 100000
namespace Go.Proofs.Ytolnacokdjognaa
open Go.AM

section
variable {h : AHeap} {S S' Z : Nat → Prop} {v w : Value} {id : Nat} {gl : List G}
/-- One more in the bag. -/
theorem BagAt.push1 {h0 : AHeap} (b : BagAt Z h0 id gl) (q : h0.quiet h) (hn : gl.length < 256) {g : G} (hg : GB (h0.next ≤ ·) h g.bs g.v) :
    ∃ av av' h', h.get id = .cells [.bool true, av] .rw ∧ (∃ a n c, av = .slice a n c) ∧ aappend h 2 32 av 1 g.cs = some (av', h') ∧ h'.get id = .cells [.bool true, av] .rw ∧ id < h'.next ∧ (∃ a n c, av' = .slice a n c) ∧
      BagAt (upZ Z h0) (h'.set id (.cells [.bool true, av'] .rw)) id (gl ++ [g]) ∧ Fw Z h0 (h'.set id (.cells [.bool true, av'] .rw)) := by
  have hlt := b.lt
  have b1 := b.quiet q
  obtain ⟨hz, ⟨av, hgi, hA⟩, hB, hP⟩ := b1
  obtain ⟨hz0, ⟨av0, hgi0, hA0⟩, hB0, hP0⟩ := b
  obtain rfl : av0 = av := by
    have := (q.2 id hlt).trans hgi0
    rw [hgi] at this
    simpa using this.symm
  have hfr : ∀ j, blkN g.v = some j → h0.next ≤ j := fun j e => (hg.lt e).2
  have hav : ∀ j, blk av0 = some j → j < h0.next := fun j e => (hA0.ne.2 j e).2.1
  obtain ⟨av', h', e1, hA', hf, hsh⟩ := hA.app1 (g := g) (Nat.lt_of_lt_of_le hlt q.1) hn (fun j e => (hg.lt e).1) (fun j e e' => by have := hav j e; have := hfr j e'; omega) (fun g' hg' j e => ((hB g' hg').1.lt e).1)
  have hne : ¬ blk av0 = some id := hA.ne.1
  have hgi' : h'.get id = .cells [.bool true, av0] .rw := (hf.2 id (Nat.lt_of_lt_of_le hlt q.1) hne).trans hgi
  have hlt' : id < h'.next := AHeap.lt_of_alive h' (by rw [hgi']; simp)
  have hsame : ∀ j, j < h.next → blk av0 ≠ some j → j ≠ id → (h'.set id (.cells [.bool true, av'] .rw)).get j = h.get j := fun j h1 h2 h3 => by
    rw [AHeap.get_set_ne _ _ (Ne.symm h3), hf.2 j h1 h2]
  obtain ⟨a, n, c, rfl⟩ := hA.shape
  refine ⟨_, av', h', hgi, ⟨_, _, _, rfl⟩, e1, hgi', hlt', hsh, ⟨.inl hz, ⟨av', AHeap.get_set_self _ _ hlt', hA'.mono fun j e => ⟨?_, ?_⟩⟩, fun g' hg' => ?_, ?_⟩, ?_⟩
  · rcases (hA'.ne.2 j e).1 with k | k
    · exact .inl k
    · exact .inr (Nat.le_trans q.1 k)
  · exact AHeap.get_set_ne _ _ (by rintro rfl; exact hA'.ne.1 e)
  · rcases List.mem_append.1 hg' with hg' | hg'
    · refine ⟨(hB g' hg').1.mono fun j hj hl e => ⟨.inl hj, hsame j hl (fun e' => (hA.ne.2 j e').2.2 g' hg' e) (by rintro rfl; exact (hB g' hg').2 e)⟩, (hB g' hg').2⟩
    · obtain rfl : g' = g := by simpa using hg'
      refine ⟨hg.mono fun j hj hl e => ⟨.inr hj, hsame j hl (fun e' => by have := hav j e'; omega) (by rintro rfl; omega)⟩, fun e => by have := hfr _ e; omega⟩
  · rw [List.pairwise_append]
    refine ⟨hP, by simp, fun g' hg' g'' hg'' j e e' => ?_⟩
    obtain rfl : g'' = g := by simpa using hg''
    have := ((hB0 g' hg').1.lt e).1
    have := hfr j e'
    omega
  · refine ⟨by have := q.1; have := hf.1; simp; omega, fun j hj hz' => ?_⟩
    rw [hsame j (Nat.lt_of_lt_of_le hj q.1) (fun e => hz' (hA0.ne.2 j e).1) (by rintro rfl; exact hz' hz0), q.2 j hj]
theorem BagAt.few (b : BagAt Z h id gl) : gl.length ≤ 256 := by obtain ⟨_, ⟨av, _, cap, h1, h2, _⟩, _⟩ := b; omega
theorem upZ_upZ {k : AHeap} (q : h.next ≤ k.next) {j : Nat} (hj : upZ (upZ Z h) k j) : upZ Z h j := by
  rcases hj with hj | hj
  · exact hj
  · exact .inr (Nat.le_trans q hj)
theorem sepG.symm {g g' : G} (e : sepG g g') : sepG g' g := fun j h1 h2 => e j h2 h1
theorem sep_at {gl : List G} (hP : gl.Pairwise sepG) {i j : Nat} {g g' : G} (hi : gl[i]? = some g) (hj : gl[j]? = some g') (hne : i ≠ j) : sepG g g' := by
  obtain ⟨l1, rfl⟩ := List.getElem?_eq_some_iff.1 hi
  obtain ⟨l2, rfl⟩ := List.getElem?_eq_some_iff.1 hj
  rcases Nat.lt_or_gt_of_ne hne with e | e
  · exact List.pairwise_iff_getElem.1 hP i j l1 l2 e
  · exact (List.pairwise_iff_getElem.1 hP j i l2 l1 e).symm
theorem sep_set {gl : List G} (hP : gl.Pairwise sepG) {i : Nat} {g g' : G} (hi : gl[i]? = some g) (hv : g'.v = g.v) : (gl.set i g').Pairwise sepG := by
  have e : (gl.set i g').map G.v = gl.map G.v := by
    refine List.ext_getElem? fun j => ?_
    rw [List.getElem?_map, List.getElem?_map, List.getElem?_set]
    split
    · rename_i e
      subst e
      split
      · rw [hi]; simp [hv]
      · rename_i hl
        have := (List.getElem?_eq_some_iff.1 hi).1
        omega
    · rfl
  have h1 : (gl.map G.v).Pairwise (fun u w => ∀ j, blkN u = some j → blkN w ≠ some j) := List.pairwise_map.2 hP
  rw [← e] at h1
  exact (List.pairwise_map (f := G.v) (R := fun u w => ∀ j, blkN u = some j → blkN w ≠ some j)).1 h1
theorem gcells_turn {gl : List G} {i : Nat} {g g' : G} (hi : gl[i]? = some g) (hv : g'.v = g.v) (hs : g'.sp = true) : gcells (gl.set i g') = (gcells gl).set (i * 2 + 1) (.bool true) := by
  unfold gcells
  rw [flat_set (sz := 2) (i := i) (k := 1) (c := g.cs) (.bool true) (by intro c hc; obtain ⟨g, _, rfl⟩ := List.mem_map.1 hc; rfl) (by simp [hi]) (by omega), List.map_set]
  congr 2
  unfold G.cs
  rw [hv, hs]; rfl
/-- Which byte is turned. -/
def tAt (y : Int) (n : Nat) : Nat := ((y.tmod n + n).tmod n).toNat
theorem tAt_eq {y : Int} {n : Nat} (hn : 0 < n) (hl : n ≤ 281474976710656) : tAt y n < n ∧ IntKind.i64.wrap (y.tmod n + n) = y.tmod n + n ∧ (y.tmod n + n).tmod n = (tAt y n : Nat) := by
  have h1 := Int.tmod_lt_of_pos y (show (0 : Int) < n by omega)
  have h2 : -(n : Int) < y.tmod n := by
    rcases Int.le_total 0 y with e | e
    · have := Int.tmod_nonneg (n : Int) e; omega
    · have := Int.tmod_lt_of_pos (-y) (show (0 : Int) < n by omega)
      rw [Int.neg_tmod] at this; omega
  have h3 : 0 ≤ (y.tmod n + n).tmod n := Int.tmod_nonneg _ (by omega)
  have h4 := Int.tmod_lt_of_pos (y.tmod n + n) (show (0 : Int) < n by omega)
  unfold tAt
  refine ⟨by omega, by rw [wi64] <;> omega, by omega⟩
theorem xor8 {a b : Nat} (ha : a ≤ 255) (hb : b ≤ 255) : IntKind.u8.wrap (((BitVec.ofInt 8 (a : Int) ^^^ BitVec.ofInt 8 (b : Int)).toNat : Nat) : Int) = ((a ^^^ b : Nat) : Int) ∧ a ^^^ b ≤ 255 := by
  have e : (BitVec.ofInt 8 (a : Int) ^^^ BitVec.ofInt 8 (b : Int)).toNat = a ^^^ b := by
    rw [BitVec.ofInt_natCast, BitVec.ofInt_natCast, BitVec.toNat_xor, BitVec.toNat_ofNat, BitVec.toNat_ofNat, Nat.mod_eq_of_lt (by omega), Nat.mod_eq_of_lt (by omega)]
  have h2 : a ^^^ b < 256 := Nat.xor_lt_two_pow (n := 8) (by omega) (by omega)
  rw [e, wu8 (by omega) (by omega)]
  exact ⟨rfl, by omega⟩
def G.turn (g : G) (k y : Nat) : G := ⟨g.v, g.bs.set k ((g.bs[k]?.getD 0) ^^^ y), true⟩
theorem sep_erase {gl : List G} (hP : gl.Pairwise sepG) (n : Nat) : (gl.eraseIdx n).Pairwise sepG := hP.sublist (List.eraseIdx_sublist _ _)
theorem mem_eraseIdx {α : Type} {l : List α} {n : Nat} {x : α} (hx : x ∈ l.eraseIdx n) : ∃ j, j ≠ n ∧ l[j]? = some x := by
  obtain ⟨j, hj⟩ := List.mem_iff_getElem?.1 hx
  rw [List.getElem?_eraseIdx] at hj
  split at hj
  · exact ⟨j, by omega, hj⟩
  · exact ⟨j + 1, by omega, hj⟩
end
end Go.Proofs.Ytolnacokdjognaa
