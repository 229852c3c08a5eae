/- plan: each part lies in its piece. -/
import Derived.Test.YtohgnkjemfkeoaaPlC
import Derived.Test.YtohgnkjemfkeoaaPlA
set_option linter.unusedSimpArgs false
set_option linter.unusedVariables false
set_option linter.unnecessarySimpa false
set_option maxRecDepth 100000
namespace Go.Proofs.Ytohgnkjemfkeoaa
open Go.AM

theorem segs_mem : ∀ {ps : List Piece} {k : Nat} {a b : Int} {s : Nat × Int × Int × Int}, s ∈ segs k ps a b → ∃ p, k ≤ s.1 ∧ ps[s.1 - k]? = some p ∧ s.2.1 = p.node ∧ s.2.2.1 = max p.frm a ∧ s.2.2.2 = min p.to b ∧ s.2.2.1 < s.2.2.2
  | [], k, a, b, s, h => by simp [segs] at h
  | p :: ps, k, a, b, s, h => by
    have tl : s ∈ segs (k + 1) ps a b → ∃ p', k ≤ s.1 ∧ (p :: ps)[s.1 - k]? = some p' ∧ s.2.1 = p'.node ∧ s.2.2.1 = max p'.frm a ∧ s.2.2.2 = min p'.to b ∧ s.2.2.1 < s.2.2.2 := fun h => by
      obtain ⟨q, k1, k2, k3⟩ := segs_mem h
      refine ⟨q, by omega, ?_, k3⟩
      rw [show s.1 - k = (s.1 - (k + 1)) + 1 by omega]; simpa using k2
    rw [segs] at h
    split at h
    · rename_i hc
      rcases List.mem_cons.1 h with rfl | h
      · exact ⟨p, Nat.le_refl _, by simp, rfl, rfl, rfl, hc⟩
      · exact tl h
    · exact tl h
theorem segs_sorted : ∀ (ps : List Piece) (k : Nat) (a b : Int), (segs k ps a b).Pairwise fun x y => x.1 < y.1
  | [], k, a, b => .nil
  | p :: ps, k, a, b => by
    rw [segs]
    split
    · refine .cons (fun y hy => ?_) (segs_sorted ps _ a b)
      obtain ⟨q, k1, _⟩ := segs_mem hy
      simp only; omega
    · exact segs_sorted ps _ a b
theorem chain_uniq : ∀ {ps : List Piece} {c n f : Int} {i : Nat} {p : Piece}, chain c ps n → ps[i]? = some p → p.frm ≤ f → f < p.to → idxP f ps = i ∧ c ≤ f ∧ f < n ∧ c ≤ p.frm ∧ p.to ≤ n
  | [], c, n, f, i, p, h, hi, _, _ => by simp at hi
  | q :: ps, c, n, f, i, p, h, hi, h1, h2 => by
    obtain ⟨k1, k2, k3, k4⟩ := h
    have := chain_le k4
    rw [idxP_cons]
    cases i with
    | zero => simp only [List.getElem?_cons_zero, Option.some.injEq] at hi; subst hi; rw [if_pos h2]; omega
    | succ i =>
      obtain ⟨l1, l2, l3, l4, l5⟩ := chain_uniq k4 (by simpa using hi) h1 h2
      rw [if_neg (by omega), l1]; omega
theorem cut_range {o : Op} {n : Int} (ho : o.right n) {f t : Int} (h1 : o.range.1 ≤ f) (h2 : f < t) (h3 : t ≤ o.range.1 + o.range.2) : (o.cut f (t - f)).range = (f, t - f) := by
  unfold Op.cut
  rcases ho.2 with ⟨e, _⟩ | ⟨e, _⟩
  · rw [if_neg (by omega)]; exact Op.range2 e
  · rw [Op.range1 e] at h1 h3
    rw [if_pos e, Op.range1 rfl]
    simp at h3 ⊢; omega

/-- What a part of an op is. -/
theorem part_is {m : SMap} {o : Op} (hr : m.right) (ho : o.right m.n) {q : Part} {j : Nat} (hj : (m.parts o)[j]? = some q) :
    ∃ (i : Nat) (p : Piece) (f t : Int), q.piece = i ∧ m.ps[i]? = some p ∧ q.node = p.node ∧ p.frm ≤ f ∧ f < t ∧ t ≤ p.to ∧ q.op = o.cut f (t - f) ∧ q.op.range = (f, t - f) ∧ idxP f m.ps = i ∧ 0 ≤ f ∧ t ≤ m.n ∧ o.range.1 ≤ f ∧ t ≤ o.range.1 + o.range.2 := by
  unfold SMap.parts mkParts at hj
  rw [List.getElem?_map, Option.map_eq_some_iff] at hj
  obtain ⟨s, hs, rfl⟩ := hj
  obtain ⟨p, _, h2, h3, h4, h5, h6⟩ := segs_mem (List.mem_of_getElem? hs)
  rw [Nat.sub_zero] at h2
  obtain ⟨n0, n1, r0, r1, r2⟩ := Op.range_right ho
  obtain ⟨u1, u2, u3, u4, u5⟩ := chain_uniq hr.2 h2 (f := s.2.2.1) (by omega) (by omega)
  exact ⟨s.1, p, s.2.2.1, s.2.2.2, rfl, h2, h3, by omega, h6, by omega, rfl, cut_range ho (by omega) h6 (by omega), u1, by omega, by omega, by omega, by omega⟩
theorem parts_up {m : SMap} {o : Op} {q r : Part} {i j : Nat} (hi : (m.parts o)[i]? = some q) (hj : (m.parts o)[j]? = some r) (h : i < j) : q.piece < r.piece := by
  unfold SMap.parts mkParts at hi hj
  rw [List.getElem?_map, Option.map_eq_some_iff] at hi hj
  obtain ⟨s, hs, rfl⟩ := hi
  obtain ⟨t, ht, rfl⟩ := hj
  obtain ⟨hs1, hs2⟩ := List.getElem?_eq_some_iff.1 hs
  obtain ⟨ht1, ht2⟩ := List.getElem?_eq_some_iff.1 ht
  have := List.pairwise_iff_getElem.1 (segs_sorted m.ps 0 o.range.1 (o.range.1 + o.range.2)) i j hs1 ht1 h
  rw [hs2, ht2] at this
  exact Int.ofNat_lt.2 this

theorem pieces_ok {h : AHeap} {m : SMap} {o : Op} {v d : Value} (hd : IsSl rPiece (· < h.next) h m.ps v) (hod : Words (· < h.next) h o.data d) : Does Try.prog 4 #[mapV m v, opV o d] h (fun u _ => u = .bool true) := by
  obtain ⟨a, c, rfl⟩ := hd.shape
  obtain ⟨a2, c2, rfl⟩ := hod.shape
  refine spec_go mixed Try.func4 rfl Try.results4 (n := Try.f4.ntmps) (by kernel_rfl) (by simp) ?_
  simp only [go_sem, simprocAttr]
  refine cl_gen fun h1 e1 => ?_
  have q1 : h.quiet h1 := by rw [e1]; simp only [go_sem, simprocAttr]
  have g2 : h1.get h.next = .cells [.int .i64 m.ver, .int .i64 m.n, .slice a m.ps.length c] .rw := by rw [e1]; simp only [go_sem, simprocAttr]
  have g3 : h1.get (h.next + 1) = .cells [.int .i64 o.kind, .int .i64 o.off, .int .i64 o.len, .slice a2 o.data.length c2] .rw := by rw [e1]; simp only [go_sem, simprocAttr]
  have l2 : h.next < h1.next := by rw [e1]; simp; omega
  have l3 : h.next + 1 < h1.next := by rw [e1]; simp
  clear e1
  refine cl_spec (theirs_ok (hd.quiet q1)) (fun u h' hp _ => hp.2) ?_
  rintro u k ⟨rfl, q2⟩
  have q3 := q1.trans q2
  rw [← q2.2 _ l2] at g2
  rw [← q2.2 _ l3] at g3
  replace l2 : h.next < k.next := AHeap.lt_of_alive k (by rw [g2]; simp)
  replace l3 : h.next + 1 < k.next := AHeap.lt_of_alive k (by rw [g3]; simp)
  simp only [go_sem, simprocAttr, g3]
  refine cl_spec (ops_ok (hd.quiet q3) (hod.quiet q3)) (fun _ _ _ hc => absurd hc (by decide +kernel)) ?_
  rintro u k1 ⟨q4, w, rfl, hl⟩
  have q5 := q3.trans q4
  rw [← q4.2 _ l2] at g2
  replace l2 : h.next < k1.next := AHeap.lt_of_alive k1 (by rw [g2]; simp)
  by_cases hr : m.right ∧ o.right m.n
  · have ee : m.err o = 0 := by unfold SMap.err; rw [if_pos hr.1, if_pos hr.2]
    unfold SMap.ops at hl
    rw [if_pos hr] at hl
    have hmn := hr.1.1
    have hplen : (m.parts o).length ≤ 16 := by have := segs_len m.ps 0 o.range.1 (o.range.1 + o.range.2); simp [SMap.parts, mkParts]; omega
    have hs : IsSl rPart (fun _ => True) k1 (m.parts o) w := (hl.isSl (fun _ _ _ => trivial) (fun _ _ => trivial)).imp rPartO_imp
    obtain ⟨aw, cw, rfl⟩ := hs.shape
    simp only [go_sem, simprocAttr, ee]
    refine go_loop (fun z ρ k => ∃ i : Nat, i ≤ (m.parts o).length ∧ z = (m.parts o).length - i ∧ k1.quiet k ∧ ρ 2 = .pointer (some ⟨h.next, 0, none⟩) ∧ ρ 5 = .slice aw (m.parts o).length cw ∧ ρ 21 = .slice aw (m.parts o).length cw ∧ ρ 22 = .int .i64 (m.parts o).length ∧ ρ 23 = .int .i64 i)
      (m.parts o).length ⟨0, by omega, by omega, .refl _, by simp only [go_sem, simprocAttr]⟩ ?_
    rintro z ρ k2 ⟨i, hi, rfl, qk, r2, r5, r21, r22, r23⟩
    have gk : k2.get h.next = _ := (qk.2 _ l2).trans g2
    have lk : h.next < k2.next := AHeap.lt_of_alive k2 (by rw [gk]; simp)
    simp only [go_sem, simprocAttr, r2, r5, r21, r22, r23]
    refine cnd_decide (fun hx => ?_) (fun hx => ?_)
    · have hx' : i < (m.parts o).length := by omega
      obtain ⟨b, off, sp, cc, md, q, dd, rfl, _, hg, hqi, hq1, hq2, hq3, hq4, hle, hdt, _, f0, f1, f2, f3, f4, f5⟩ := (hs.quiet qk).atPart hx'
      obtain ⟨ii, p, f, t, p1, p2, p3, p4, p5, p6, p7, p8, p9, p10, p11, p12, p13⟩ := part_is hr.1 hr.2 hqi
      have hii := (List.getElem?_eq_some_iff.1 p2).1
      have e9 : IntKind.i64.wrap ((i : Int) + 1) = ((i + 1 : Nat) : Int) := by rw [wi64] <;> omega
      obtain ⟨ad, cd, rfl⟩ := hq4.shape
      simp only [go_sem, simprocAttr, r2, r5, r21, r22, r23, hx', hg, hle, hdt]
      refine cl_gen fun H eH => ?_
      obtain ⟨gH, lH, qH⟩ := AHeap.quiet.box (h := k2) (k := H) (by rw [eH]; exact .refl _)
      clear eH
      refine cl_spec (rRange_ok (o := q.op) (hq4.quiet qH)) (fun _ _ _ hc => absurd hc (by decide +kernel)) ?_
      rintro u k3 ⟨rfl, q6⟩
      have gk3 : k3.get h.next = _ := ((qH.trans q6).2 _ lk).trans gk
      have gp3 : k3.get k2.next = _ := (q6.2 _ lH).trans gH
      obtain ⟨bm, om, sm, cm, mm, p', ea, _, hgm, hpi, hp', _, _, m0, m1, m2⟩ := (hd.quiet (q5.trans ((qk.trans qH).trans q6))).atPiece hii
      rw [p2] at hpi; cases hpi
      subst ea
      have n2 : ¬ (m.ps.length ≤ ii) := by omega
      have n3 : ¬ (t - f < 1) := by omega
      have n4 : ¬ (f < p.frm) := by omega
      have n5 : IntKind.i64.wrap (f + (t - f)) = t := by rw [wi64] <;> omega
      have n6 : ¬ (p.to < t) := by omega
      have hN := rNode_ok (b := f) (hd.quiet (q5.trans ((qk.trans qH).trans q6))) hr.1 p10 (by omega)
      simp only [go_sem, simprocAttr, r2, r5, r21, r22, r23, p8, gk3, gp3, p1, hii, hgm, m0, m1, n2, n3, n4, n5, n6, decide_false]
      refine cl_spec hN (fun u h' hp _ => hp.1) ?_
      rintro u k4 ⟨q7, p', hp2, rfl⟩
      rw [p9, p2] at hp2; cases hp2
      have gp4 : k4.get k2.next = _ := (q7.2 _ (AHeap.lt_of_alive _ (by rw [gp3]; simp))).trans gp3
      simp only [go_sem, simprocAttr, r2, r5, r21, r22, r23, p3]
      by_cases hi0 : (0 : Int) < i
      · have hx2 : i - 1 < (m.parts o).length := by omega
        obtain ⟨b', off', sp', cc', md', q', dd', e', _, hg', hqi', _, _, _, _, _, _, _, f0', _⟩ := (hs.quiet ((((qk.trans qH).trans q6)).trans q7)).atPart hx2
        cases e'
        have up := parts_up hqi' hqi (by omega)
        have e8 : IntKind.i64.wrap ((i : Int) - 1) = ((i - 1 : Nat) : Int) := by rw [wi64] <;> omega
        have n7 : ¬ ((ii : Int) ≤ q'.piece) := by omega
        simp only [go_sem, simprocAttr, r2, r5, r21, r22, r23, hi0, e8, hx2, hg', f0', gp4, p1, n7, e9]
        exact Hold.mk ⟨(m.parts o).length - (i + 1), by omega, i + 1, by omega, rfl, (((qk.trans qH).trans q6)).trans q7, by simp only [go_sem, simprocAttr, r2, r5, r21, r22]⟩
      · simp only [go_sem, simprocAttr, r2, r5, r21, r22, r23, hi0, e9]
        exact Hold.mk ⟨(m.parts o).length - (i + 1), by omega, i + 1, by omega, rfl, (((qk.trans qH).trans q6)).trans q7, by simp only [go_sem, simprocAttr, r2, r5, r21, r22]⟩
    · simp only [go_sem, simprocAttr, r2]
      refine cl_spec (alive_ok _) (fun _ _ _ hc => absurd hc (by decide +kernel)) ?_
      rintro u h' ⟨rfl, rfl⟩
      simp only [go_sem, simprocAttr]
  · have ee : m.err o ≠ 0 := by unfold SMap.err; by_cases h1 : m.right <;> by_cases h2 : o.right m.n <;> simp_all
    simp only [go_sem, simprocAttr, ee]
    refine cl_spec (alive_ok _) (fun _ _ _ hc => absurd hc (by decide +kernel)) ?_
    rintro u h' ⟨rfl, rfl⟩
    simp only [go_sem, simprocAttr]
end Go.Proofs.Ytohgnkjemfkeoaa
