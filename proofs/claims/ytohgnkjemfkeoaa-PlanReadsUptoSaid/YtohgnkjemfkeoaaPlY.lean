/- plan: the parts of an op, done one by one in any order, are as the op, and are it together. -/
import Derived.Test.YtohgnkjemfkeoaaPlX
set_option linter.unusedSimpArgs false
set_option linter.unusedVariables false
set_option linter.unnecessarySimpa false
set_option maxRecDepth 100000
namespace Go.Proofs.Ytohgnkjemfkeoaa
open Go.AM

theorem applyV_one {xs : List Nat} {o : Op} (ho : o.right xs.length) : applyV xs [o] = (o.app xs, 0) := by
  unfold applyV
  rw [if_pos (by have := ho.1; omega), if_pos (by simpa using ho)]; rfl
theorem tmod_turn (a : Int) {n : Nat} (hn : 0 < n) : ∃ T : Nat, T < n ∧ (a.tmod n + n).tmod n = T := by
  have h1 := Int.tmod_lt_of_pos a (show (0 : Int) < n by omega)
  have h2 : -(n : Int) < a.tmod n := by
    have := Int.lt_tmod_of_pos a (show (0 : Int) < n by omega)
    exact this
  have h3 : 0 ≤ a.tmod n + n := by omega
  refine ⟨((a.tmod n + n).tmod n).toNat, ?_, ?_⟩
  · have := Int.tmod_lt_of_pos (a.tmod n + n) (show (0 : Int) < n by omega)
    have := Int.tmod_nonneg (n : Int) h3
    omega
  · have := Int.tmod_nonneg (n : Int) h3; omega

theorem done_ok {h : AHeap} {m : SMap} {o : Op} {v d : Value} {turn : Int} (hd : IsSl rPiece (· < h.next) h m.ps v) (hok : o.ok) (hod : Words (· < h.next) h o.data d) (hi : inI turn) :
    Does Try.prog 3 #[mapV m v, opV o d, .int .i64 turn] h (fun u _ => u = .bool true) := by
  obtain ⟨a, c, rfl⟩ := hd.shape
  obtain ⟨a2, c2, rfl⟩ := hod.shape
  refine spec_go mixed Try.func3 rfl Try.results3 (n := Try.f3.ntmps) (by kernel_rfl) (by simp) ?_
  simp only [go_sem, simprocAttr]
  refine cl_gen fun h1 e1 => ?_
  have q1 : h.quiet h1 := by rw [e1]; simp only [go_sem, simprocAttr]
  have g1 : h1.get h.next = .cells [.int .i64 m.ver, .int .i64 m.n, .slice a m.ps.length c] .rw := by rw [e1]; simp only [go_sem, simprocAttr]
  have g2 : h1.get (h.next + 1) = .cells [.int .i64 o.kind, .int .i64 o.off, .int .i64 o.len, .slice a2 o.data.length c2] .rw := by rw [e1]; simp only [go_sem, simprocAttr]
  clear e1
  have l1 : h.next < h1.next := AHeap.lt_of_alive h1 (by rw [g1]; simp)
  have l2 : h.next + 1 < h1.next := AHeap.lt_of_alive h1 (by rw [g2]; simp)
  have hd1 := hd.quiet q1
  have hod1 := hod.quiet q1
  refine cl_spec (theirs_ok hd1) (fun u h' hp _ => hp.2) ?_
  rintro u k1 ⟨rfl, Q1⟩
  simp only [go_sem, simprocAttr, (Q1.2 _ l2).trans g2]
  refine cl_spec (ops_ok (hd1.quiet Q1) (hod1.quiet Q1)) (fun _ _ _ hc => absurd hc (by decide +kernel)) ?_
  rintro u k2 ⟨q3, w1, rfl, p1⟩
  have Q2 := Q1.trans q3
  by_cases hr : m.right ∧ o.right m.n
  · have ee : m.err o = 0 := by unfold SMap.err; rw [if_pos hr.1, if_pos hr.2]
    have hops : m.ops o = m.parts o := by unfold SMap.ops; rw [if_pos hr]
    rw [hops] at p1
    have hlen := ops_len m o
    rw [hops] at hlen
    have hs := p1.sl
    obtain ⟨a3, c3, rfl⟩ := hs.shape
    have hmn := hr.1.1
    obtain ⟨n0, n1, r0, r1, r2⟩ := Op.range_right hr.2
    have hpos : 0 < (m.parts o).length := by
      have eo : o.range.1 = o.off := by rcases hr.2.2 with ⟨e, _⟩ | ⟨e, _⟩; rw [Op.range2 e]; rw [Op.range1 e]
      obtain ⟨p, hp, hs⟩ := segs_step (b := o.range.1 + o.range.2) 0 hr.1.2 (a := o.range.1) (by omega) (by omega) (by omega)
      unfold SMap.parts mkParts; rw [hs]; simp
    have hpos' : ¬ (((m.parts o).length : Int) = 0) := by omega
    obtain ⟨N, hN⟩ : ∃ N : Nat, m.n = N := ⟨m.n.toNat, by omega⟩
    have b1 : 8 * (N : Int) ≤ 281474976710656 := by omega
    have b2 : (N : Int) ≤ 281474976710656 := by omega
    simp only [go_sem, simprocAttr, ee, hpos', decide_false, (Q2.2 _ l1).trans g1, hN, b1, b2, Int.le_refl]
    -- the volume of so many 99s
    refine go_loop (fun z ρ k => ∃ (i : Nat) (cs : List Value), i ≤ N ∧ z = N - i ∧ k2.quiet k ∧ k2.next < k.next ∧ k.get k2.next = .cells cs .rw ∧ cs.length = N ∧ (∀ j, j < i → cs[j]? = some (.int .u64 99)) ∧ (∀ j, j < N → ∃ x : Nat, cs[j]? = some (.int .u64 x)) ∧
      ρ 2 = .int .i64 turn ∧ ρ 4 = .pointer (some ⟨h.next + 1, 0, none⟩) ∧ ρ 7 = .slice a3 (m.parts o).length c3 ∧ ρ 9 = .slice (some ⟨k2.next, 0, none⟩) N N ∧ ρ 40 = .int .i64 N ∧ ρ 41 = .int .i64 i) N
      ⟨0, azeros [.int .u64 0] N, by omega, by omega, .push _ _, by simp, by simp, by simp [azeros], by omega, fun j hj => ⟨0, by simp [azeros, List.getElem?_map, List.getElem?_range hj, Nat.mod_one]⟩, by simp only [go_sem, simprocAttr]⟩ ?_
    rintro z ρ k ⟨i, cs, hi', rfl, qk, lk, gk, hcl, h99, hall, r2', r4, r7, r9, r40, r41⟩
    simp only [go_sem, simprocAttr, r2', r4, r7, r9, r40, r41]
    refine cnd_decide (fun hx => ?_) (fun hx => ?_)
    · have h1 : i < N := by omega
      have h2 : i + 1 ≤ N := by omega
      have e9 : IntKind.i64.wrap ((i : Int) + 1) = ((i + 1 : Nat) : Int) := by rw [wi64] <;> omega
      simp only [go_sem, simprocAttr, r2', r4, r7, r9, r40, r41, h1, h2, gk, hcl, e9]
      refine Hold.mk ⟨N - (i + 1), by omega, i + 1, cs.set i (.int .u64 99), by omega, rfl, qk.set' (Nat.le_refl _) _, by simpa using lk, AHeap.get_set_self _ _ lk, by simpa using hcl, ?_, ?_, by simp only [go_sem, simprocAttr, r2', r4, r7, r9, r40]⟩
      · intro j hj
        rw [List.getElem?_set]
        split
        · rw [if_pos (by omega)]
        · exact h99 j (by omega)
      · intro j hj
        rw [List.getElem?_set]
        split
        · rw [if_pos (by omega)]; exact ⟨99, rfl⟩
        · exact hall j hj
    · have hiN : i = N := by omega
      subst hiN
      have hcs : cs = (List.replicate i 99).map fun n => .int .u64 (n : Nat) := by
        apply List.ext_getElem?
        intro j
        rcases Nat.lt_or_ge j i with hj | hj
        · rw [h99 j hj, List.getElem?_map, List.getElem?_replicate, if_pos hj]; rfl
        · rw [List.getElem?_eq_none (by omega), List.getElem?_eq_none (by simpa using hj)]
      have hV : Words (fun _ => True) k (List.replicate i 99) (.slice (some ⟨k2.next, 0, none⟩) i i) := by
        refine .fresh (css := (List.replicate i 99).map fun n => [.int .u64 (n : Nat)]) (nat_all2 fun n hn => ?_) (by simp) (by omega) trivial gk (by rw [nat_flat, hcs])
        have := List.eq_of_mem_replicate hn; subst this; rw [u64_max]; decide
      have hv0 : (List.replicate i 99).length = i := by simp
      have hro : o.right (List.replicate i 99).length := by rw [hv0, ← hN]; exact hr.2
      have Qk := Q2.trans qk
      simp only [go_sem, simprocAttr, r2', r4, r7, r9, (Qk.2 _ l2).trans g2]
      have q0 := AHeap.quiet.push k (.cells [.int .i64 o.kind, .int .i64 o.off, .int .i64 o.len, .slice a2 o.data.length c2] .rw)
      refine cl_spec (rApply_ok (S' := fun _ => True) (hV.quiet q0) (oneOp hok (hod1.quiet Qk) q0 (by simp [opC]))) (fun _ _ _ hc => absurd hc (by decide +kernel)) ?_
      rintro u k4 ⟨q4, x, rfl, hx4⟩
      rw [applyV_one hro] at hx4 ⊢
      obtain ⟨a4, c4, rfl, _⟩ := hx4.len
      have Q4 := (Qk.trans q0).trans q4
      have qk4 := (qk.trans q0).trans q4
      obtain ⟨T, hT, eT⟩ := tmod_turn turn hpos
      have e5 : IntKind.i64.wrap (turn.tmod ((m.parts o).length : Int) + ((m.parts o).length : Int)) = turn.tmod ((m.parts o).length : Int) + ((m.parts o).length : Int) := by
        have := Int.tmod_lt_of_pos turn (show (0 : Int) < (m.parts o).length by omega)
        have := Int.lt_tmod_of_pos turn (show (0 : Int) < (m.parts o).length by omega)
        rw [wi64] <;> omega
      simp only [go_sem, simprocAttr, r2', r4, r7, r9, hpos', e5, eT]
      refine go_loop (fun z ρ k => ∃ (j : Nat) (u : Value), j ≤ (m.parts o).length ∧ z = (m.parts o).length - j ∧ k4.quiet k ∧ Words (fun _ => True) k (turned (m.parts o) T (List.replicate i 99) j) u ∧
        ρ 2 = .int .i64 T ∧ ρ 4 = .pointer (some ⟨h.next + 1, 0, none⟩) ∧ ρ 7 = .slice a3 (m.parts o).length c3 ∧ ρ 9 = u ∧ ρ 11 = .slice a4 (o.app (List.replicate i 99)).length c4 ∧ ρ 12 = .int .i64 0 ∧ ρ 66 = .int .i64 (m.parts o).length ∧ ρ 67 = .int .i64 j) (m.parts o).length
        ⟨0, _, by omega, by omega, .refl _, (hV.quiet q0).quiet q4, by simp only [go_sem, simprocAttr, r4, r7, r9]⟩ ?_
      rintro z ρ' k5 ⟨j, u, hj', rfl, qk5, hu, s2, s4, s7, s9, s11, s12, s66, s67⟩
      simp only [go_sem, simprocAttr, s2, s4, s7, s9, s11, s12, s66, s67]
      refine cnd_decide (fun hy => ?_) (fun hy => ?_)
      · have e6 : IntKind.i64.wrap ((j : Int) + T) = ((j + T : Nat) : Int) := by rw [wi64] <;> omega
        have e7 : (((j + T : Nat) : Int)).tmod ((m.parts o).length : Int) = (((j + T) % (m.parts o).length : Nat) : Int) := by rw [Int.tmod_eq_emod_of_nonneg (by omega)]; omega
        have e9 : IntKind.i64.wrap ((j : Int) + 1) = ((j + 1 : Nat) : Int) := by rw [wi64] <;> omega
        have hlt : (j + T) % (m.parts o).length < (m.parts o).length := Nat.mod_lt _ hpos
        obtain ⟨b, off, sp, cc, md, q, dd, rfl, _, hg, hqi, hq1, hq2, hq3, hq4, hle, hdt, hdo, _⟩ := (hs.quiet (qk4.trans qk5)).atPart hlt
        have hgD : (m.parts o).getD ((j + T) % (m.parts o).length) ⟨0, 0, op0⟩ = q := by rw [List.getD_eq_getElem?_getD, hqi]; rfl
        obtain ⟨ii, p, f, t, _, _, _, _, p5, _, p7, _, _, _, _, p12, p13⟩ := part_is hr.1 hr.2 hqi
        have hqr : q.op.right (turned (m.parts o) T (List.replicate i 99) j).length := by rw [turned_len, hv0, ← hN, p7]; exact cut_right hr.2 p12 p5 p13
        obtain ⟨ad, cd, rfl⟩ := hq4.shape
        have hn4 : off + (j + T) % (m.parts o).length * 6 + 2 + 4 ≤ cc.length := by omega
        simp only [opC] at hdo
        simp only [go_sem, simprocAttr, s2, s4, s7, s9, s11, s12, s66, s67, e6, hpos', e7, hlt, hg, hn4, hdo]
        have q6 := AHeap.quiet.push k5 (.cells [.int .i64 q.op.kind, .int .i64 q.op.off, .int .i64 q.op.len, .slice ad q.op.data.length cd] .rw)
        refine cl_spec (rApply_ok (S' := fun _ => True) (hu.quiet q6) (oneOp hq3 hq4 q6 (by simp [opC]))) (fun _ _ _ hc => absurd hc (by decide +kernel)) ?_
        rintro u' k7 ⟨q7, x, rfl, hx7⟩
        rw [applyV_one hqr] at hx7 ⊢
        simp only [go_sem, simprocAttr, s2, s4, s7, s9, s11, s12, s66, s67, e9]
        refine Hold.mk ⟨(m.parts o).length - (j + 1), by omega, j + 1, x, by omega, rfl, (qk5.trans q6).trans q7, ?_, by simp only [go_sem, simprocAttr, s2, s4, s7, s11, s12, s66]⟩
        rw [turned, hgD]
        exact hx7.isSl (fun _ _ _ => trivial) (fun _ _ => trivial)
      · have hjl : j = (m.parts o).length := by omega
        subst hjl
        rw [turned_all hr.1 hr.2 (by rw [hv0, hN]) hT] at hu
        simp only [go_sem, simprocAttr, s4, s7, s9, s11, s12]
        refine cl_spec (Whole_ok (hs.quiet (qk4.trans qk5))) (fun _ _ _ hc => absurd hc (by decide +kernel)) ?_
        rintro u' k8 ⟨q8, d8, rfl, hown⟩
        rw [whole_parts hr.1 hr.2] at hown ⊢
        obtain ⟨a8, rfl⟩ := hown.shape
        have Q8 := (Q4.trans qk5).trans q8
        have q9 := AHeap.quiet.push k8 (.cells [.int .i64 o.kind, .int .i64 o.off, .int .i64 o.len, .slice a8 o.data.length o.data.length] .rw)
        simp only [go_sem, simprocAttr, s4, s7, s9, s11, s12]
        refine cl_spec (Words_ok (S := fun _ => True) ((hu.quiet q8).quiet q9) ((hx4.isSl (fun _ _ _ => trivial) (fun _ _ => trivial)).quiet ((qk5.trans q8).trans q9))) (fun _ _ _ hc => absurd hc (by decide +kernel)) ?_
        rintro u' k10 ⟨rfl, rfl⟩
        have l8 : h.next + 1 < k8.next := by have := Q8.1; omega
        have l7 : h.next < k8.next := by omega
        have l9 : h.next + 1 < k8.next + 1 := by omega
        simp only [go_sem, simprocAttr, decide_true, s4, s7, s9, s11, s12, (Q8.2 _ l2).trans g2, l7, l8, l9]
        refine cl_gen fun K eK => ?_
        have qK : k8.quiet K := by rw [eK]; simp only [go_sem, simprocAttr]
        have gK1 : K.get (k8.next + 1) = .cells (opC o (.slice a8 o.data.length o.data.length)) .rw := by rw [eK]; simp only [go_sem, simprocAttr]
        have gK2 : K.get (k8.next + 1 + 1) = .cells (opC o (.slice a2 o.data.length c2)) .rw := by rw [eK]; simp only [go_sem, simprocAttr]
        clear eK
        refine cl_spec (rSameOps_ok (oneOp hok (hown.isSl) qK gK1) (oneOp hok (hod1.quiet Q8) qK gK2)) (fun _ _ _ hc => absurd hc (by decide +kernel)) ?_
        rintro u' k11 ⟨rfl, rfl⟩
        simp only [go_sem, simprocAttr, decide_true]
        refine cl_spec (alive_ok _) (fun _ _ _ hc => absurd hc (by decide +kernel)) ?_
        rintro u k14 ⟨rfl, rfl⟩
        simp only [go_sem, simprocAttr]
  · have ee : m.err o ≠ 0 := by unfold SMap.err; by_cases h1 : m.right <;> by_cases h2 : o.right m.n <;> simp_all
    have hops : m.ops o = [] := by unfold SMap.ops; rw [if_neg hr]
    rw [hops] at p1
    obtain ⟨a3, c3, rfl, _⟩ := p1.len
    simp only [go_sem, simprocAttr, ee, List.length_nil]
    refine cl_spec (alive_ok _) (fun _ _ _ hc => absurd hc (by decide +kernel)) ?_
    rintro u k14 ⟨rfl, rfl⟩
    simp only [go_sem, simprocAttr]
end Go.Proofs.Ytohgnkjemfkeoaa
