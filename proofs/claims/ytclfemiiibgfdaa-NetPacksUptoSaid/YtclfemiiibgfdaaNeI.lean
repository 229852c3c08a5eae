/- net: what a bag is asked. -/
import Derived.Test.YtclfemiiibgfdaaNeH
set_option linter.unusedSimpArgs false
set_option linter.unusedVariables false
set_option linter.unnecessarySimpa false
set_option maxRecDepth 100000
namespace Go.Proofs.Ytclfemiiibgfdaa
open Go.AM

section
variable {h : AHeap} {S S' Z : Nat → Prop} {v w : Value} {id : Nat} {gl : List G}
/-- One more in the bag. -/
theorem BagAt.push1 {h0 : AHeap} (b : BagAt Z h0 id gl) (q : h0.quiet h) (hn : gl.length < 256) {g : G} (hg : GB (h0.next ≤ ·) h g.bs g.v) :
    ∃ av av' h', h.get id = .cells [.bool true, av] .rw ∧ (∃ a n c, av = .slice a n c) ∧ aappend h 2 32 av 1 g.cs = some (av', h') ∧ h'.get id = .cells [.bool true, av] .rw ∧ id < h'.next ∧ (∃ a n c, av' = .slice a n c) ∧
      BagAt (upZ Z h0) (h'.set id (.cells [.bool true, av'] .rw)) id (gl ++ [g]) ∧ Fw Z h0 (h'.set id (.cells [.bool true, av'] .rw)) := by
  have hlt := b.lt
  have b1 := b.quiet q
  obtain ⟨hz, ⟨av, hgi, hA⟩, hB, hP⟩ := b1
  obtain ⟨hz0, ⟨av0, hgi0, hA0⟩, hB0, hP0⟩ := b
  obtain rfl : av0 = av := by
    have := (q.2 id hlt).trans hgi0
    rw [hgi] at this
    simpa using this.symm
  have hfr : ∀ j, blkN g.v = some j → h0.next ≤ j := fun j e => (hg.lt e).2
  have hav : ∀ j, blk av0 = some j → j < h0.next := fun j e => (hA0.ne.2 j e).2.1
  obtain ⟨av', h', e1, hA', hf, hsh⟩ := hA.app1 (g := g) (Nat.lt_of_lt_of_le hlt q.1) hn (fun j e => (hg.lt e).1) (fun j e e' => by have := hav j e; have := hfr j e'; omega) (fun g' hg' j e => ((hB g' hg').1.lt e).1)
  have hne : ¬ blk av0 = some id := hA.ne.1
  have hgi' : h'.get id = .cells [.bool true, av0] .rw := (hf.2 id (Nat.lt_of_lt_of_le hlt q.1) hne).trans hgi
  have hlt' : id < h'.next := AHeap.lt_of_alive h' (by rw [hgi']; simp)
  have hsame : ∀ j, j < h.next → blk av0 ≠ some j → j ≠ id → (h'.set id (.cells [.bool true, av'] .rw)).get j = h.get j := fun j h1 h2 h3 => by
    rw [AHeap.get_set_ne _ _ (Ne.symm h3), hf.2 j h1 h2]
  obtain ⟨a, n, c, rfl⟩ := hA.shape
  refine ⟨_, av', h', hgi, ⟨_, _, _, rfl⟩, e1, hgi', hlt', hsh, ⟨.inl hz, ⟨av', AHeap.get_set_self _ _ hlt', hA'.mono fun j e => ⟨?_, ?_⟩⟩, fun g' hg' => ?_, ?_⟩, ?_⟩
  · rcases (hA'.ne.2 j e).1 with k | k
    · exact .inl k
    · exact .inr (Nat.le_trans q.1 k)
  · exact AHeap.get_set_ne _ _ (by rintro rfl; exact hA'.ne.1 e)
  · rcases List.mem_append.1 hg' with hg' | hg'
    · refine ⟨(hB g' hg').1.mono fun j hj hl e => ⟨.inl hj, hsame j hl (fun e' => (hA.ne.2 j e').2.2 g' hg' e) (by rintro rfl; exact (hB g' hg').2 e)⟩, (hB g' hg').2⟩
    · obtain rfl : g' = g := by simpa using hg'
      refine ⟨hg.mono fun j hj hl e => ⟨.inr hj, hsame j hl (fun e' => by have := hav j e'; omega) (by rintro rfl; omega)⟩, fun e => by have := hfr _ e; omega⟩
  · rw [List.pairwise_append]
    refine ⟨hP, by simp, fun g' hg' g'' hg'' j e e' => ?_⟩
    obtain rfl : g'' = g := by simpa using hg''
    have := ((hB0 g' hg').1.lt e).1
    have := hfr j e'
    omega
  · refine ⟨by have := q.1; have := hf.1; simp; omega, fun j hj hz' => ?_⟩
    rw [hsame j (Nat.lt_of_lt_of_le hj q.1) (fun e => hz' (hA0.ne.2 j e).1) (by rintro rfl; exact hz' hz0), q.2 j hj]
theorem BagAt.few (b : BagAt Z h id gl) : gl.length ≤ 256 := by obtain ⟨_, ⟨av, _, cap, h1, h2, _⟩, _⟩ := b; omega
theorem upZ_upZ {k : AHeap} (q : h.next ≤ k.next) {j : Nat} (hj : upZ (upZ Z h) k j) : upZ Z h j := by
  rcases hj with hj | hj
  · exact hj
  · exact .inr (Nat.le_trans q hj)
theorem bPut_ok (b : BagAt Z h id gl) {l : List (List Nat)} (hl : IsSl rB.list S h l w) (hS : ∀ j, S j → ¬ Z j) (hb : ∀ x ∈ l, x.length ≤ 140737488355328) :
    Does Try.prog 15 #[.pointer (some ⟨id, 0, none⟩), w] h (fun u h' => u = .int .i64 (min l.length (256 - gl.length) : Nat) ∧ (∃ gl', BagAt (upZ Z h) h' id (gl ++ gl') ∧ gl'.map (fun g => (g.bs, g.sp)) = (l.take (256 - gl.length)).map fun x => (x, false)) ∧ Fw Z h h') := by
  obtain ⟨a, c, rfl⟩ := hl.shape
  have hll := hl.len
  have hfew := b.few
  refine spec_go mixed Try.func15 rfl Try.results15 (n := Try.f15.ntmps) (by kernel_rfl) (by simp) ?_
  simp only [go_sem, simprocAttr]
  refine cl_spec (bok_ok b) (fun _ _ _ hc => absurd hc (by decide +kernel)) ?_
  rintro u k ⟨rfl, rfl⟩
  have hgi : ∃ av a' c', k.get id = .cells [.bool true, av] .rw ∧ av = .slice a' gl.length c' := by
    obtain ⟨hz, ⟨av, hg, hA⟩, hB, hP⟩ := b
    obtain ⟨a', c', e⟩ := hA.shape
    exact ⟨av, a', c', hg, e⟩
  obtain ⟨av, a', c', hgi, rfl⟩ := hgi
  have e1 : IntKind.i64.wrap (256 - (gl.length : Int)) = ((256 - gl.length : Nat) : Int) := by rw [wi64] <;> omega
  have e2 : min (l.length : Int) ((256 - gl.length : Nat) : Int) = ((min l.length (256 - gl.length) : Nat) : Int) := by omega
  obtain ⟨a1, c1, e5, s1⟩ := hl.slice 1 rfl (l := 0) (m := min l.length (256 - gl.length)) (by omega) (by omega)
  have e5 : slI 1 a l.length c (some 0) (some ((min l.length (256 - gl.length) : Nat) : Int)) = some (.slice a1 (min l.length (256 - gl.length)) c1) := e5
  have s1 : IsSl rB.list S k (l.take (min l.length (256 - gl.length))) (.slice a1 (min l.length (256 - gl.length)) c1) := s1
  simp only [go_sem, simprocAttr, hgi, e1, e2, e5]
  have htk : l.take (256 - gl.length) = l.take (min l.length (256 - gl.length)) := by rw [Nat.min_comm, List.take_eq_take_min]
  rw [htk]
  have hnl : (l.take (min l.length (256 - gl.length))).length = min l.length (256 - gl.length) := by rw [List.length_take]; omega
  have hb' : ∀ x ∈ l.take (min l.length (256 - gl.length)), x.length ≤ 140737488355328 := fun x hx => hb x (List.mem_of_mem_take hx)
  have hn : min l.length (256 - gl.length) + gl.length ≤ 256 := by omega
  generalize l.take (min l.length (256 - gl.length)) = ls at s1 hnl hb'
  generalize min l.length (256 - gl.length) = n at s1 hnl hn
  clear e5 e2 hl hb htk
  refine go_loop (fun z ρ k' => ∃ (i : Nat) (gl' : List G), i ≤ n ∧ z = n - i ∧ BagAt (upZ Z k) k' id (gl ++ gl') ∧ gl'.map (fun g => (g.bs, g.sp)) = (ls.take i).map (fun x => (x, false)) ∧ Fw Z k k' ∧ ρ 0 = .pointer (some ⟨id, 0, none⟩) ∧ ρ 5 = .int .i64 n ∧ ρ 22 = .slice a1 n c1 ∧ ρ 23 = .int .i64 n ∧ ρ 24 = .int .i64 i) n ⟨0, [], by omega, by omega, by simpa using b.mono (fun j hj _ => ⟨.inl hj, rfl⟩), rfl, .refl _ _, by simp only [go_sem, simprocAttr]⟩ ?_
  rintro z ρ k' ⟨i, gl', hi, rfl, bk, hgm, f, r0, r5, r22, r23, r24⟩
  simp only [go_sem, simprocAttr, r0, r5, r22, r23, r24]
  refine cnd_decide (fun hy => ?_) (fun hy => ?_)
  · have h1 : i < n := by omega
    obtain ⟨bb, off, sp, cc, md, x, xv, hA, hSb, hg, hxi, hxu, hc⟩ := s1.atL h1
    have hbl := AHeap.lt_of_alive k (i := bb) (by rw [hg]; simp)
    have hg' := (f.2 bb hbl (hS bb hSb)).trans hg
    have hxu' := hxu.bound.fr f (fun j hj _ => hS j hj.1)
    obtain ⟨ax, cx, rfl⟩ := hxu.shape
    have e9 : IntKind.i64.wrap ((i : Int) + 1) = ((i + 1 : Nat) : Int) := by rw [wi64] <;> omega
    have hgl' : gl'.length = i := by
      have := congrArg List.length hgm
      simp only [List.length_map, List.length_take] at this
      omega
    have hgi2 : ∃ av, k'.get id = .cells [.bool true, av] .rw := by
      obtain ⟨hz, ⟨av, hg, hA⟩, hB, hP⟩ := bk
      exact ⟨av, hg⟩
    obtain ⟨av2, hgi2⟩ := hgi2
    simp only [go_sem, simprocAttr, r0, r5, r22, r23, r24, hA, hg', hc, hy, hgi2]
    refine cl_spec (cloneL_ok hxu' (hb' x (List.mem_of_getElem? hxi))) (fun u h' hp _ => hp.1) ?_
    rintro u k2 ⟨q2, hu⟩
    have hgb : GB (k'.next ≤ ·) (k2.push (.cells [u, .bool false] .rw)) x u := (Lst.gb hu (fun j hj => hj)).mono fun j hj hl _ => ⟨hj, by simp [AHeap.get_push_ne, Nat.ne_of_lt hl]⟩
    have qq : k'.quiet (k2.push (.cells [u, .bool false] .rw)) := q2.push' _
    obtain ⟨w1, w2, k4, g1, ⟨p1, p2, p3, rfl⟩, e6, g2, hlt2, ⟨p4, p5, p6, rfl⟩, b4, f4⟩ := bk.push1 qq (by rw [List.length_append, hgl']; omega) (g := ⟨u, x, false⟩) hgb
    have e0 := (qq.2 id bk.lt).trans hgi2
    rw [g1] at e0
    obtain rfl : Value.slice p1 p2 p3 = av2 := by simpa using e0
    obtain ⟨au, cu, hue⟩ : ∃ au cu, u = .slice au x.length cu := by obtain ⟨au, cu, e, _⟩ := hu.len; exact ⟨au, cu, e⟩
    subst hue
    change aappend _ 2 32 _ 1 [_, _] = _ at e6
    simp only [go_sem, simprocAttr, r0, r5, r22, r23, r24, e6, g2, e9]
    refine Hold.mk ⟨n - (i + 1), by omega, i + 1, gl' ++ [⟨.slice au x.length cu, x, false⟩], by omega, rfl, ?_, ?_, ?_, by simp only [go_sem, simprocAttr, r0, r5, r22, r23, hA]⟩
    · rw [← List.append_assoc]
      exact b4.mono fun j hj _ => ⟨upZ_upZ f.1 hj, rfl⟩
    · rw [List.map_append, hgm, List.take_add_one, hxi]; simp
    · exact f.trans f4 (fun j _ e => e) (fun j hj e => e.elim (fun e => e) (fun e => by omega))
  · have : i = n := by omega
    subst this
    rw [List.take_of_length_le (Nat.le_of_eq hnl)] at hgm
    simp only [go_sem, simprocAttr, r5]
    exact ⟨⟨gl', bk, hgm⟩, f⟩
theorem bTwice_ok (b : BagAt Z h id gl) {i : Int} (hb : ∀ g ∈ gl, g.bs.length ≤ 140737488355328) :
    Does Try.prog 16 #[.pointer (some ⟨id, 0, none⟩), .int .i64 i] h (fun u h' => Fw Z h h' ∧ if i < 0 ∨ (gl.length : Int) ≤ i then u = .int .i64 9 ∧ h' = h else if 256 ≤ gl.length then u = .int .i64 6 ∧ h' = h
      else u = .int .i64 0 ∧ ∃ g, gl[i.toNat]? = some g ∧ ∃ x, BagAt (upZ Z h) h' id (gl ++ [⟨x, g.bs, g.sp⟩])) := by
  refine spec_go mixed Try.func16 rfl Try.results16 (n := Try.f16.ntmps) (by kernel_rfl) (by simp) ?_
  simp only [go_sem, simprocAttr]
  refine cl_spec (find_ok b) (fun _ _ _ hc => absurd hc (by decide +kernel)) ?_
  rintro u k ⟨rfl, rfl⟩
  by_cases h0 : i < 0 ∨ (gl.length : Int) ≤ i
  · simp only [go_sem, simprocAttr, if_pos h0]
    exact .refl _ _
  · simp only [go_sem, simprocAttr, if_neg h0]
    obtain ⟨n, rfl⟩ : ∃ n : Nat, i = n := ⟨i.toNat, by omega⟩
    have hn : n < gl.length := by omega
    obtain ⟨g, hg⟩ : ∃ g, gl[n]? = some g := ⟨_, List.getElem?_eq_getElem hn⟩
    obtain ⟨av, hgi, hA, hB⟩ : ∃ av, k.get id = .cells [.bool true, av] .rw ∧ GArr Z k id gl av ∧ GB Z k g.bs g.v := by
      obtain ⟨hz, ⟨av, hg', hA⟩, hB, hP⟩ := b
      exact ⟨av, hg', hA, (hB g (List.mem_of_getElem? hg)).1⟩
    obtain ⟨ob, c, cap, rfl, k1, k2, k3, k4, k5, k6, k7⟩ := hA.at hg
    obtain ⟨a, hv⟩ := hB.len
    by_cases h1 : 256 ≤ gl.length
    · have h1' : (256 : Int) ≤ gl.length := by omega
      simp only [go_sem, simprocAttr, hgi, h1', decide_true, if_pos h1, if_neg h0]
      exact .refl _ _
    · have h1' : ¬ (256 : Int) ≤ gl.length := by omega
      have hn' : (n : Int) < gl.length := by omega
      rw [G.cs, hv] at k5
      simp only [go_sem, simprocAttr, hgi, h1', decide_false, hn', k3, k4, k5]
      rw [hv] at hB
      have q0 : k.quiet (k.push (.cells [.slice a g.bs.length g.bs.length, .bool g.sp] .rw)) := .push _ _
      refine cl_spec (cloneL_ok (hB.isSl.quiet q0) (hb g (List.mem_of_getElem? hg))) (fun u h' hp _ => hp.1) ?_
      rintro u k2 ⟨q2, hu⟩
      have hbx : k2.get k.next = .cells [.slice a g.bs.length g.bs.length, .bool g.sp] .rw := by rw [q2.2 _ (by simp)]; simp
      have hbl := AHeap.lt_of_alive k2 (i := k.next) (by rw [hbx]; simp)
      obtain ⟨au, cu, hue⟩ : ∃ au cu, u = .slice au g.bs.length cu := by obtain ⟨au, cu, e, _⟩ := hu.len; exact ⟨au, cu, e⟩
      subst hue
      simp only [go_sem, simprocAttr, hbx]
      have q3 : k.quiet (k2.set k.next (.cells [.slice au g.bs.length cu, .bool g.sp] .rw)) := (q0.trans q2).set' (Nat.le_refl _) _
      have g3 : (k2.set k.next (.cells [.slice au g.bs.length cu, .bool g.sp] .rw)).get k.next = .cells [.slice au g.bs.length cu, .bool g.sp] .rw := AHeap.get_set_self _ _ hbl
      have hu3 : GB (k.next ≤ ·) (k2.set k.next (.cells [.slice au g.bs.length cu, .bool g.sp] .rw)) g.bs (.slice au g.bs.length cu) := (Lst.gb (Z := fun j => k.next + 1 ≤ j) hu (fun j hj => by simpa using hj)).mono fun j hj hl _ => ⟨by omega, AHeap.get_set_ne _ _ (by omega)⟩
      generalize k2.set k.next (.cells [.slice au g.bs.length cu, .bool g.sp] .rw) = k3 at q3 g3 hu3
      have qq : k.quiet (k3.push (.cells [.slice au g.bs.length cu, .bool g.sp] .rw)) := q3.push' _
      have hgb : GB (k.next ≤ ·) (k3.push (.cells [.slice au g.bs.length cu, .bool g.sp] .rw)) g.bs (.slice au g.bs.length cu) := hu3.mono fun j hj hl _ => ⟨hj, by simp [AHeap.get_push_ne, Nat.ne_of_lt hl]⟩
      obtain ⟨w1, w2, k4, g1, ⟨p1, p2, p3, rfl⟩, e6, g2, hlt2, ⟨p4, p5, p6, rfl⟩, b4, f4⟩ := b.push1 qq (by omega) (g := ⟨.slice au g.bs.length cu, g.bs, g.sp⟩) hgb
      have e0 := (qq.2 id b.lt).trans hgi
      rw [g1] at e0
      obtain ⟨rfl, rfl, rfl⟩ : p1 = some ⟨ob, 0, some 2⟩ ∧ p2 = gl.length ∧ p3 = cap := by simpa using e0
      have hgi3 := (q3.2 id b.lt).trans hgi
      change aappend _ 2 32 _ 1 [_, _] = _ at e6
      simp only [go_sem, simprocAttr, hgi3, g3, e6, g2, if_neg h0, if_neg h1]
      exact ⟨f4, g, hg, _, b4⟩
theorem sepG.symm {g g' : G} (e : sepG g g') : sepG g' g := fun j h1 h2 => e j h2 h1
theorem sep_at {gl : List G} (hP : gl.Pairwise sepG) {i j : Nat} {g g' : G} (hi : gl[i]? = some g) (hj : gl[j]? = some g') (hne : i ≠ j) : sepG g g' := by
  obtain ⟨l1, rfl⟩ := List.getElem?_eq_some_iff.1 hi
  obtain ⟨l2, rfl⟩ := List.getElem?_eq_some_iff.1 hj
  rcases Nat.lt_or_gt_of_ne hne with e | e
  · exact List.pairwise_iff_getElem.1 hP i j l1 l2 e
  · exact (List.pairwise_iff_getElem.1 hP j i l2 l1 e).symm
theorem sep_set {gl : List G} (hP : gl.Pairwise sepG) {i : Nat} {g g' : G} (hi : gl[i]? = some g) (hv : g'.v = g.v) : (gl.set i g').Pairwise sepG := by
  have e : (gl.set i g').map G.v = gl.map G.v := by
    refine List.ext_getElem? fun j => ?_
    rw [List.getElem?_map, List.getElem?_map, List.getElem?_set]
    split
    · rename_i e
      subst e
      split
      · rw [hi]; simp [hv]
      · rename_i hl
        have := (List.getElem?_eq_some_iff.1 hi).1
        omega
    · rfl
  have h1 : (gl.map G.v).Pairwise (fun u w => ∀ j, blkN u = some j → blkN w ≠ some j) := List.pairwise_map.2 hP
  rw [← e] at h1
  exact (List.pairwise_map (f := G.v) (R := fun u w => ∀ j, blkN u = some j → blkN w ≠ some j)).1 h1
theorem gcells_turn {gl : List G} {i : Nat} {g g' : G} (hi : gl[i]? = some g) (hv : g'.v = g.v) (hs : g'.sp = true) : gcells (gl.set i g') = (gcells gl).set (i * 2 + 1) (.bool true) := by
  unfold gcells
  rw [flat_set (sz := 2) (i := i) (k := 1) (c := g.cs) (.bool true) (by intro c hc; obtain ⟨g, _, rfl⟩ := List.mem_map.1 hc; rfl) (by simp [hi]) (by omega), List.map_set]
  congr 2
  unfold G.cs
  rw [hv, hs]; rfl
/-- Which byte is turned. -/
def tAt (y : Int) (n : Nat) : Nat := ((y.tmod n + n).tmod n).toNat
theorem tAt_eq {y : Int} {n : Nat} (hn : 0 < n) (hl : n ≤ 281474976710656) : tAt y n < n ∧ IntKind.i64.wrap (y.tmod n + n) = y.tmod n + n ∧ (y.tmod n + n).tmod n = (tAt y n : Nat) := by
  have h1 := Int.tmod_lt_of_pos y (show (0 : Int) < n by omega)
  have h2 : -(n : Int) < y.tmod n := by
    rcases Int.le_total 0 y with e | e
    · have := Int.tmod_nonneg (n : Int) e; omega
    · have := Int.tmod_lt_of_pos (-y) (show (0 : Int) < n by omega)
      rw [Int.neg_tmod] at this; omega
  have h3 : 0 ≤ (y.tmod n + n).tmod n := Int.tmod_nonneg _ (by omega)
  have h4 := Int.tmod_lt_of_pos (y.tmod n + n) (show (0 : Int) < n by omega)
  unfold tAt
  refine ⟨by omega, by rw [wi64] <;> omega, by omega⟩
theorem xor8 {a b : Nat} (ha : a ≤ 255) (hb : b ≤ 255) : IntKind.u8.wrap (((BitVec.ofInt 8 (a : Int) ^^^ BitVec.ofInt 8 (b : Int)).toNat : Nat) : Int) = ((a ^^^ b : Nat) : Int) ∧ a ^^^ b ≤ 255 := by
  have e : (BitVec.ofInt 8 (a : Int) ^^^ BitVec.ofInt 8 (b : Int)).toNat = a ^^^ b := by
    rw [BitVec.ofInt_natCast, BitVec.ofInt_natCast, BitVec.toNat_xor, BitVec.toNat_ofNat, BitVec.toNat_ofNat, Nat.mod_eq_of_lt (by omega), Nat.mod_eq_of_lt (by omega)]
  have h2 : a ^^^ b < 256 := Nat.xor_lt_two_pow (n := 8) (by omega) (by omega)
  rw [e, wu8 (by omega) (by omega)]
  exact ⟨rfl, by omega⟩
def G.turn (g : G) (k y : Nat) : G := ⟨g.v, g.bs.set k ((g.bs[k]?.getD 0) ^^^ y), true⟩
theorem bTurn_ok (b : BagAt Z h id gl) {i y : Int} {by_ : Nat} (hby : by_ ≤ 255) :
    Does Try.prog 17 #[.pointer (some ⟨id, 0, none⟩), .int .i64 i, .int .i64 y, .int .u8 (by_ : Nat)] h (fun u h' => Fw Z h h' ∧ if i < 0 ∨ (gl.length : Int) ≤ i then u = .int .i64 9 ∧ h' = h else ∃ g, gl[i.toNat]? = some g ∧
      if g.sp = true then u = .int .i64 10 ∧ h' = h else if g.bs.length = 0 ∨ by_ = 0 then u = .int .i64 1 ∧ h' = h else u = .int .i64 0 ∧ tAt y g.bs.length < g.bs.length ∧ BagAt Z h' id (gl.set i.toNat (g.turn (tAt y g.bs.length) by_))) := by
  refine spec_go mixed Try.func17 rfl Try.results17 (n := Try.f17.ntmps) (by kernel_rfl) (by simp) ?_
  simp only [go_sem, simprocAttr]
  refine cl_spec (find_ok b) (fun _ _ _ hc => absurd hc (by decide +kernel)) ?_
  rintro u k ⟨rfl, rfl⟩
  by_cases h0 : i < 0 ∨ (gl.length : Int) ≤ i
  · simp only [go_sem, simprocAttr, if_pos h0]
    exact .refl _ _
  · simp only [go_sem, simprocAttr, if_neg h0]
    obtain ⟨n, rfl⟩ : ∃ n : Nat, i = n := ⟨i.toNat, by omega⟩
    have hn : n < gl.length := by omega
    obtain ⟨g, hg⟩ : ∃ g, gl[n]? = some g := ⟨_, List.getElem?_eq_getElem hn⟩
    have hgm := List.mem_of_getElem? hg
    obtain ⟨hz, ⟨av, hgi, hA⟩, hB, hP⟩ := b
    obtain ⟨hBg, hBi⟩ := hB g hgm
    obtain ⟨ob, c, cap, rfl, k1, k2, k3, k4, k5, k6, k7⟩ := hA.at hg
    obtain ⟨a, hv⟩ := hBg.len
    have hn' : (n : Int) < gl.length := by omega
    rw [hv] at k6
    simp only [go_sem, simprocAttr, hgi, hn', k3, k6, k7]
    have hgg : (gl[(n : Int).toNat]? = some g) := hg
    cases hsp : g.sp with
    | true =>
      simp only [go_sem, simprocAttr, hsp, if_neg h0]
      exact ⟨.refl _ _, g, hg, by rw [if_pos hsp]; trivial⟩
    | false =>
      have hsp' : ¬ g.sp = true := by rw [hsp]; simp
      by_cases hz0 : g.bs.length = 0
      · have hz1 : ((g.bs.length : Nat) : Int) = 0 := by omega
        simp only [go_sem, simprocAttr, hsp, hz1, decide_true, if_neg h0]
        exact ⟨.refl _ _, g, hg, by rw [if_neg hsp', if_pos (.inl hz0)]; trivial⟩
      · have hz1 : ¬ ((g.bs.length : Nat) : Int) = 0 := by omega
        by_cases hy0 : by_ = 0
        · subst hy0
          simp only [go_sem, simprocAttr, hsp, hz1, decide_true, decide_false, if_neg h0]
          exact ⟨.refl _ _, g, hg, by rw [if_neg hsp']; trivial⟩
        · have hy1 : ¬ ((by_ : Nat) : Int) = 0 := by omega
          obtain ⟨ag, rfl, hl1, hl2, hl3, hl4⟩ : ∃ ag, a = ag ∧ g.bs.length ≤ 281474976710656 ∧ (∀ x ∈ g.bs, x ≤ 255) ∧ True ∧ (∃ gb, a = some ⟨gb, 0, some 1⟩ ∧ Z gb ∧ k.get gb = .cells (g.bs.map fun n => .int .u8 (n : Nat)) (.tail 1)) := by
            obtain ⟨ag, e, q1, q2, q3, q4⟩ := hBg
            rw [hv] at e; cases e
            exact ⟨_, rfl, q1, q2, trivial, q4 (fun e => by rw [e] at hz0; exact hz0 rfl)⟩
          obtain ⟨gb, rfl, z1, z2⟩ := hl4
          obtain ⟨t1, t2, t3⟩ := tAt_eq (y := y) (n := g.bs.length) (by omega) hl1
          have t1' : ((tAt y g.bs.length : Nat) : Int) < g.bs.length := by omega
          generalize htt : tAt y g.bs.length = tt at t1 t1' t3
          have hxb : g.bs[tt]? = some g.bs[tt] := List.getElem?_eq_getElem t1
          have hcell : (g.bs.map fun n => Value.int .u8 ((n : Nat) : Int))[tt]? = some (.int .u8 ((g.bs[tt] : Nat) : Int)) := by rw [List.getElem?_map, hxb]; rfl
          have hx8 := hl2 _ (List.getElem_mem t1)
          generalize hxe : g.bs[tt] = x at hxb hcell hx8
          obtain ⟨x1, x2⟩ := xor8 hx8 hby
          have hgo : gb ≠ ob := fun e => by
            subst e
            obtain ⟨_, _, _, ⟨e, _⟩ | ⟨ob', c', e, q1, q2, q3, q4, q5, q6⟩⟩ := hA
            · cases e
            · cases e
              exact q6 g hgm (by rw [hv]; show (if g.bs.length = 0 then none else some gb) = some gb; rw [if_neg hz0])
          have hgi2 : gb ≠ id := fun e => hBi (by rw [hv]; show (if g.bs.length = 0 then none else some gb) = some id; rw [if_neg hz0, e])
          have hg3 : ∀ o, (k.set gb o).get ob = .cells c (.tail 2) := fun o => (AHeap.get_set_ne _ _ hgo).trans k3
          have hlen1 : tt + 1 ≤ (g.bs.map fun n => Value.int .u8 ((n : Nat) : Int)).length := by simp; omega
          have hlen2 : n * 2 + 1 + 1 ≤ c.length := by omega
          have hgbl := AHeap.lt_of_alive k (i := gb) (by rw [z2]; simp)
          have hobl := AHeap.lt_of_alive k (i := ob) (by rw [k3]; simp)
          have hset : (g.bs.map fun n => Value.int .u8 ((n : Nat) : Int)).set tt (.int .u8 ((x ^^^ by_ : Nat) : Int)) = (g.bs.set tt (x ^^^ by_)).map fun n => Value.int .u8 ((n : Nat) : Int) := by rw [List.map_set]
          have htn : g.turn tt by_ = ⟨.slice (some ⟨gb, 0, some 1⟩) g.bs.length g.bs.length, g.bs.set tt (x ^^^ by_), true⟩ := by unfold G.turn; rw [hv, hxb]; rfl
          have X : BagAt Z ((k.set gb (.cells ((g.bs.map fun n => Value.int .u8 ((n : Nat) : Int)).set tt (.int .u8 ((x ^^^ by_ : Nat) : Int))) (.tail 1))).set ob (.cells (c.set (n * 2 + 1) (.bool true)) (.tail 2))) id (gl.set n (g.turn tt by_)) := by
            rw [hset, htn]
            generalize hk1 : k.set gb (.cells ((g.bs.set tt (x ^^^ by_)).map fun n => Value.int .u8 ((n : Nat) : Int)) (.tail 1)) = m1
            have hs1 : ∀ j, j ≠ gb → m1.get j = k.get j := fun j e => by rw [← hk1]; exact AHeap.get_set_ne _ _ (Ne.symm e)
            have hs2 : m1.get gb = .cells ((g.bs.set tt (x ^^^ by_)).map fun n => Value.int .u8 ((n : Nat) : Int)) (.tail 1) := by rw [← hk1]; exact AHeap.get_set_self _ _ hgbl
            have hn1 : m1.next = k.next := by rw [← hk1]; simp
            have hs3 : (m1.set ob (.cells (c.set (n * 2 + 1) (.bool true)) (.tail 2))).get ob = .cells (c.set (n * 2 + 1) (.bool true)) (.tail 2) := AHeap.get_set_self _ _ (by rw [hn1]; exact hobl)
            have hs4 : ∀ j, j ≠ ob → (m1.set ob (.cells (c.set (n * 2 + 1) (.bool true)) (.tail 2))).get j = m1.get j := fun j e => AHeap.get_set_ne _ _ (Ne.symm e)
            have hs5 : (m1.set ob (.cells (c.set (n * 2 + 1) (.bool true)) (.tail 2))).next = k.next := by simp [hn1]
            generalize m1.set ob (.cells (c.set (n * 2 + 1) (.bool true)) (.tail 2)) = m2 at hs3 hs4 hs5
            have hsame : ∀ j, j ≠ gb → j ≠ ob → m2.get j = k.get j := fun j e1 e2 => (hs4 j e2).trans (hs1 j e1)
            have hgbv : blkN g.v = some gb := by rw [hv]; show (if g.bs.length = 0 then none else some gb) = _; rw [if_neg hz0]
            obtain ⟨cap', q0, q00, ⟨e, _⟩ | ⟨ob', c', e, q1, q2, q3, q4, q5, q6⟩⟩ := hA
            · cases e
            · cases e
              obtain rfl : c' = c := by rw [k3] at q3; cases q3; rfl
              refine ⟨hz, ⟨.slice (some ⟨ob, 0, some 2⟩) gl.length cap, by rw [hsame id (Ne.symm hgi2) (Ne.symm k2)]; exact hgi, cap, by simpa using q0, q00, .inr ⟨ob, _, by simp, k1, k2, hs3, by simpa using q4, ?_, ?_⟩⟩, ?_, sep_set hP hg hv.symm⟩
              · rw [List.length_set, gcells_turn hg (by exact hv.symm) rfl, ← q5]
                exact (List.take_set ..).symm ▸ rfl
              · intro g' hg'
                rcases List.mem_or_eq_of_mem_set hg' with hg' | rfl
                · exact q6 g' hg'
                · have := q6 g hgm; rw [hv] at this; exact this
              · intro g' hg'
                obtain ⟨j, hj⟩ := List.mem_iff_getElem?.1 hg'
                rw [List.getElem?_set] at hj
                by_cases e : n = j
                · subst e
                  rw [if_pos rfl, if_pos hn] at hj
                  cases hj
                  refine ⟨⟨some ⟨gb, 0, some 1⟩, by simp, by simpa using hl1, fun x' hx' => ?_, fun ad e => by cases e; exact .inr rfl, fun _ => ⟨gb, rfl, z1, by rw [hs4 gb hgo, hs2]⟩⟩, by rw [hv] at hBi; exact hBi⟩
                  rcases List.mem_or_eq_of_mem_set hx' with hx' | rfl
                  · exact hl2 x' hx'
                  · exact x2
                · rw [if_neg e] at hj
                  have hgm' := List.mem_of_getElem? hj
                  have hsp2 := sep_at hP hg hj e gb hgbv
                  exact ⟨(hB g' hgm').1.mono fun l hl hll e' => ⟨hl, hsame l (by rintro rfl; exact hsp2 e') (by rintro rfl; exact q6 g' hgm' e')⟩, (hB g' hgm').2⟩
          simp only [go_sem, simprocAttr, hsp, hz1, hy1, decide_false, k3, k6, t2, t3, t1', z2, hcell, if_neg h0, hlen1, hlen2, hg3]
          rw [← x1] at X
          refine ⟨?_, g, hg, ?_⟩
          · exact (Fw.set (id := gb) _).trans (Fw.set (id := ob) _) (fun j _ e => by subst e; exact z1) (fun j _ e => by subst e; exact k1)
          · rw [if_neg hsp', if_neg (by omega)]
            exact ⟨by rw [htt]; exact t1, by rw [htt]; exact X⟩
theorem delete_ok {av : Value} {n : Nat} {g : G} (hA : GArr Z h id gl av) (hg : gl[n]? = some g) (hone : ∀ g ∈ gl, one g.v = true) :
    Does Try.prog 41 #[av, .int .i64 n, .int .i64 (n + 1 : Nat)] h (fun u h' => GArr Z h' id (gl.eraseIdx n) u ∧ Fw (fun j => blk av = some j) h h' ∧ (∃ a m c, u = .slice a m c) ∧ blk u = blk av) := by
  have hn := (List.getElem?_eq_some_iff.1 hg).1
  obtain ⟨cap, c1, c2, ⟨rfl, rfl⟩ | ⟨ob, c, rfl, k1, k2, k3, k4, k5, k6⟩⟩ := hA
  · omega
  · have b1 : (n : Int) ≤ (gl.length : Int) := by omega
    have b2 : ((n + 1 : Nat) : Int) ≤ (gl.length : Int) := by omega
    have b3 : (n : Int) ≤ ((n + 1 : Nat) : Int) := by omega
    have b4 : ((gl.length : Nat) : Int) ≤ cap := by omega
    have b5 : ¬ (n : Int) = ((n + 1 : Nat) : Int) := by omega
    refine spec_go mixed Try.func41 rfl Try.results41 (n := Try.f41.ntmps) (by kernel_rfl) (by simp) ?_
    have b6 : (n : Int) < (gl.length : Int) := by omega
    have b0 : (0 : Int) ≤ n := by omega
    have e13 : aslice Try.prog 58 (.slice (some ⟨ob, 0, some 2⟩) gl.length cap) (some (some (n : Int))) (some (some ((n + 1 : Nat) : Int))) (some (some (gl.length : Int))) = some (.slice (some ⟨ob, 0 + (n : Int).toNat * 2, none⟩) (((n + 1 : Nat) : Int).toNat - (n : Int).toNat) ((gl.length : Int).toNat - (n : Int).toNat)) := by
      unfold aslice
      simp only [go_sem, simprocAttr, b0, b1, b2, b3, b4, b6]
    have b7 : n ≤ cap := by omega
    have b8 : gl.length ≤ cap := by omega
    have b9 : n + 1 ≤ gl.length := by omega
    have b10 : (0 : Int) ≤ ((n + 1 : Nat) : Int) := by omega
    have hob : ob < h.next := AHeap.lt_of_alive h (by rw [k3]; simp)
    have hcl : gl.length * 2 ≤ c.length := by omega
    have e1 : (if (gl.length - (n + 1)) * 2 = 0 then some [] else if (n + 1) * 2 + (gl.length - (n + 1)) * 2 ≤ c.length then some (List.take ((gl.length - (n + 1)) * 2) (List.drop ((n + 1) * 2) c)) else none) = some (gcells (gl.drop (n + 1))) := by
      have hx : List.take ((gl.length - (n + 1)) * 2) (List.drop ((n + 1) * 2) c) = gcells (gl.drop (n + 1)) := by
        rw [← gcells_drop, ← k5, List.drop_take]
        congr 1
        omega
      split
      · rename_i hz
        rw [← hx, hz]; rfl
      · rw [if_pos (by omega), hx]
    have e2 : (gcells (gl.drop (n + 1))).all one = true := gcells_ones _ (fun g hg => hone g (List.mem_of_mem_drop hg))
    have er : gcells (gl.eraseIdx n) = c.take (n * 2) ++ gcells (gl.drop (n + 1)) := by
      rw [List.eraseIdx_eq_take_drop_succ, gcells_app, ← gcells_take gl n, ← k5, List.take_take, Nat.min_eq_left (by omega)]
    have erl : (gcells (gl.drop (n + 1))).length = (gl.length - (n + 1)) * 2 := by rw [gcells_len, List.length_drop]
    obtain ⟨c', h', eA, gA, lA, tA, fA⟩ : ∃ c' h', aappend h 2 32 (.slice (some ⟨ob, 0, some 2⟩) (n - 0) (cap - 0)) (gl.length - (n + 1)) (gcells (gl.drop (n + 1))) = some (.slice (some ⟨ob, 0, some 2⟩) (gl.length - 1) cap, h') ∧ h'.get ob = .cells c' (.tail 2) ∧ c'.length = cap * 2 ∧ c'.take ((gl.length - 1) * 2) = gcells (gl.eraseIdx n) ∧ Fw (fun j => ob = j) h h' := by
      rw [aappend_u, Nat.sub_zero, Nat.sub_zero]
      by_cases hz : gl.length - (n + 1) = 0
      · rw [if_pos hz]
        have hnl : n = gl.length - 1 := by omega
        refine ⟨c, h, by rw [← hnl], k3, k4, ?_, .refl _ _⟩
        rw [er, List.eq_nil_of_length_eq_zero (erl.trans (by omega)), List.append_nil, ← hnl]
      · rw [if_neg hz, if_pos (by omega), k3, appIn_cells, if_pos ⟨by simp, by omega⟩]
        refine ⟨putCells c (0 + n * 2) (gcells (gl.drop (n + 1))), _, by rw [show n + (gl.length - (n + 1)) = gl.length - 1 by omega], AHeap.get_set_self _ _ hob, by rw [length_putCells]; exact k4, ?_, (Fw.set (id := ob) _).mono fun j _ e => e.symm⟩
        rw [putCells_eq _ _ _ (by rw [erl]; omega), Nat.zero_add, ← er, List.take_append_of_le_length (by rw [gcells_len, List.length_eraseIdx_of_lt hn]; omega), List.take_of_length_le (by rw [gcells_len, List.length_eraseIdx_of_lt hn]; omega)]
    have b11 : gl.length - 1 ≤ gl.length := by omega
    have hob' : ob < h'.next := AHeap.lt_of_alive h' (by rw [gA]; simp)
    simp only [go_sem, simprocAttr, b1, b2, b3, b4, b5, decide_false, e13, k3, b7, b8, b9, b10, e1, e2, eA, b11, gA, show gl.length - (gl.length - 1) = 1 by omega, show (gl.length - 1) * 2 + 2 ≤ c'.length by omega]
    refine ⟨⟨cap, by rw [List.length_eraseIdx_of_lt hn]; omega, c2, .inr ⟨ob, _, by rw [List.length_eraseIdx_of_lt hn], k1, k2, AHeap.get_set_self _ _ hob', by simpa using lA, ?_, fun g hg => k6 g (List.mem_of_mem_eraseIdx hg)⟩⟩, ?_, ⟨_, _, _, rfl⟩, rfl⟩
    · rw [List.length_eraseIdx_of_lt hn, List.take_set_of_le (by omega), List.take_set_of_le (by omega), tA]
    · exact fA.trans (Fw.set (id := ob) _) (fun j _ e => by subst e; rfl) (fun j _ e => by subst e; rfl)
theorem sep_erase {gl : List G} (hP : gl.Pairwise sepG) (n : Nat) : (gl.eraseIdx n).Pairwise sepG := hP.sublist (List.eraseIdx_sublist _ _)
theorem mem_eraseIdx {α : Type} {l : List α} {n : Nat} {x : α} (hx : x ∈ l.eraseIdx n) : ∃ j, j ≠ n ∧ l[j]? = some x := by
  obtain ⟨j, hj⟩ := List.mem_iff_getElem?.1 hx
  rw [List.getElem?_eraseIdx] at hj
  split at hj
  · exact ⟨j, by omega, hj⟩
  · exact ⟨j + 1, by omega, hj⟩
theorem bTake_ok (b : BagAt Z h id gl) {i : Int} :
    Does Try.prog 18 #[.pointer (some ⟨id, 0, none⟩), .int .i64 i] h (fun u h' => Fw Z h h' ∧ if i < 0 ∨ (gl.length : Int) ≤ i then u = .tuple #[.slice none 0 0, .bool false, .int .i64 9] ∧ h' = h else
      ∃ g, gl[i.toNat]? = some g ∧ u = .tuple #[g.v, .bool g.sp, .int .i64 0] ∧ BagAt (fun j => Z j ∧ blkN g.v ≠ some j) h' id (gl.eraseIdx i.toNat) ∧ GB Z h' g.bs g.v) := by
  refine spec_go mixed Try.func18 rfl Try.results18 (n := Try.f18.ntmps) (by kernel_rfl) (by simp) ?_
  simp only [go_sem, simprocAttr]
  refine cl_spec (find_ok b) (fun _ _ _ hc => absurd hc (by decide +kernel)) ?_
  rintro u k ⟨rfl, rfl⟩
  by_cases h0 : i < 0 ∨ (gl.length : Int) ≤ i
  · simp only [go_sem, simprocAttr, if_pos h0]
    exact .refl _ _
  · simp only [go_sem, simprocAttr, if_neg h0]
    obtain ⟨n, rfl⟩ : ∃ n : Nat, i = n := ⟨i.toNat, by omega⟩
    have hn : n < gl.length := by omega
    obtain ⟨g, hg⟩ : ∃ g, gl[n]? = some g := ⟨_, List.getElem?_eq_getElem hn⟩
    have hgm := List.mem_of_getElem? hg
    have hlt := b.lt
    obtain ⟨hz, ⟨av, hgi, hA⟩, hB, hP⟩ := b
    obtain ⟨hBg, hBi⟩ := hB g hgm
    have hA2 := hA
    obtain ⟨ob, c, cap, rfl, k1, k2_ne, k3, k4, k5, k6, k7⟩ := hA.at hg
    obtain ⟨a, hv⟩ := hBg.len
    have hn' : (n : Int) < gl.length := by omega
    have hfew : gl.length ≤ 256 := by obtain ⟨cap, h1, h2, _⟩ := hA; omega
    have e9 : IntKind.i64.wrap ((n : Int) + 1) = ((n + 1 : Nat) : Int) := by rw [wi64] <;> omega
    rw [G.cs, hv] at k5
    have q0 : k.quiet (k.push (.cells [.slice a g.bs.length g.bs.length, .bool g.sp] .rw)) := .push _ _
    have g0 : (k.push (.cells [.slice a g.bs.length g.bs.length, .bool g.sp] .rw)).get k.next = .cells [.slice a g.bs.length g.bs.length, .bool g.sp] .rw := by simp
    have n0 : (k.push (.cells [.slice a g.bs.length g.bs.length, .bool g.sp] .rw)).next = k.next + 1 := by simp
    simp only [go_sem, simprocAttr, hgi, hn', k3, k4, k5, e9]
    generalize k.push (.cells [.slice a g.bs.length g.bs.length, .bool g.sp] .rw) = k' at q0 g0 n0
    have hgi' := (q0.2 id hlt).trans hgi
    have hA' := hA2.mono (h' := k') (Z' := Z) fun j e => ⟨(hA2.ne.2 j e).1, q0.2 j (hA2.ne.2 j e).2.1⟩
    simp only [go_sem, simprocAttr, hgi', e9]
    refine cl_spec (delete_ok hA' hg (fun g hg => (hB g hg).1.one)) (fun _ _ _ hc => absurd hc (by decide +kernel)) ?_
    rintro u k2 ⟨hA3, f2, ⟨p1, p2, p3, rfl⟩, hbb⟩
    have hbb' : blk (.slice p1 p2 p3) = some ob := hbb
    have f2' : ∀ j, j < k'.next → j ≠ ob → k2.get j = k'.get j := fun j h1 h2 => f2.2 j h1 (fun e => h2 (by simpa using e.symm))
    have hobl := (hA2.ne.2 ob rfl).2.1
    have hgi3 := (f2' id (by omega) (Ne.symm k2_ne)).trans hgi'
    have g3 := (f2' k.next (by omega) (by omega)).trans g0
    have hn2 := f2.1
    have hlt3 := AHeap.lt_of_alive k2 (i := id) (by rw [hgi3]; simp)
    simp only [go_sem, simprocAttr, hgi3]
    have s1 : ∀ o, (k2.set id o).get k.next = .cells [.slice a g.bs.length g.bs.length, .bool g.sp] .rw := fun o => (AHeap.get_set_ne _ _ (by omega)).trans g3
    have s2 : ∀ o j, j ≠ id → (k2.set id o).get j = k2.get j := fun o j e => AHeap.get_set_ne _ _ (Ne.symm e)
    have s3 : ∀ o, (k2.set id o).get id = o := fun o => AHeap.get_set_self _ _ hlt3
    have s4 : ∀ o, (k2.set id o).next = k2.next := fun o => by simp
    simp only [go_sem, simprocAttr, s1, if_neg h0]
    refine ⟨⟨by rw [s4]; omega, fun j hj hz' => ?_⟩, g, hg, by rw [hv], ⟨⟨hz, hBi⟩, ⟨_, s3 _, hA3.mono fun j e => ?_⟩, fun g' hg' => ?_, sep_erase hP n⟩, hBg.mono fun j hj hl e => ⟨hj, ?_⟩⟩
    · rw [s2 _ j (by rintro rfl; exact hz' hz), f2' j (by omega) (by rintro rfl; exact hz' k1), q0.2 j hj]
    · rw [hbb'] at e
      cases e
      exact ⟨⟨k1, (hA2.ne.2 _ rfl).2.2 g hgm⟩, s2 _ _ k2_ne⟩
    · obtain ⟨j, hjn, hj⟩ := mem_eraseIdx hg'
      have hgm' := List.mem_of_getElem? hj
      refine ⟨(hB g' hgm').1.mono fun l hl hll e' => ⟨⟨hl, (sep_at hP hj hg hjn) l e'⟩, ?_⟩, (hB g' hgm').2⟩
      rw [s2 _ l (by rintro rfl; exact (hB g' hgm').2 e'), f2' l (by omega) (by rintro rfl; exact (hA2.ne.2 _ rfl).2.2 g' hgm' e'), q0.2 l hll]
    · rw [s2 _ j (by rintro rfl; exact hBi e), f2' j (by omega) (by rintro rfl; exact (hA2.ne.2 _ rfl).2.2 g hgm e), q0.2 j hl]
end
end Go.Proofs.Ytclfemiiibgfdaa
