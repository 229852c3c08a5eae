/- barrier: the law BarrierStands: what its call comes to. -/
import Derived.Test.YtbcgipcgcjkfcaaBaU
set_option linter.unusedSimpArgs false
set_option linter.unusedVariables false
set_option linter.unnecessarySimpa false
set_option maxRecDepth 100000
namespace Go.Proofs.Ytbcgipcgcjkfcaa
open Go.AM

theorem Wd.order_ids (w : Wd) (o : Int × Int × Int) : (w.order o).ids = w.ids := by
  unfold Wd.order; repeat' split
  all_goals rfl
theorem Wd.do_ids (w : Wd) (d : Dd) : (w.do d).ids = w.ids ∨ (w.do d).ids = w.ids ++ [d.id] := by
  unfold Wd.do
  split
  · dsimp only; split
    · exact .inr rfl
    · exact .inl rfl
  refine .inl ?_
  split
  · split <;> rfl
  split
  · split
    · rfl
    split
    · rfl
    rename_i o _
    have e1 : (if d.kind % 8 ≠ 3 then { w with ords := w.ords.eraseIdx d.i.toNat } else w).ids = w.ids := by split <;> rfl
    dsimp only
    split
    · exact (Wd.order_ids _ _).trans e1
    · exact e1
  split
  · split
    · rfl
    split <;> rfl
  split
  · split
    · rfl
    split <;> rfl
  split <;> rfl

section
variable {own own' own'' : Nat → Nat} {h h' h'' : AHeap} {pc id : Nat} {ps : List Nat} {vg vo vn vi : Value} {w : Wd} {Z : Nat → Prop}
theorem Good.le3 {w : Wd} (g : Good w) (x : Int) : w.co.state x ≤ 3 := by
  have := g.c.pst x; have := g.c.ph
  unfold Co.state
  repeat' split
  all_goals omega
theorem Good.ge0 {w : Wd} (g : Good w) (x : Int) : 0 ≤ w.co.state x := by
  have := g.c.pst x; have := g.c.ph
  unfold Co.state
  repeat' split
  all_goals omega
theorem Good.keeps {w : Wd} (g : Good w) (d : Dd) (x : Int) (h : 1 < w.co.state x) : (w.do d).co.state x = w.co.state x := by
  have := g.le3 x
  have m := Mono.do g d x
  by_cases h2 : w.co.state x = 2
  · rw [m.1 h2, h2]
  · have h3 : w.co.state x = 3 := by omega
    rw [m.2.1 h3, h3]

theorem stands_ok {xs : List Dd} {v : Value} {kk : Nat} (hd : IsSl rDd (· < h.next) h xs v) (hkk : kk ≤ 255) :
    Does Try.prog 4 #[.int .u8 (kk : Nat), v] h (fun u _ => u = .bool true) := by
  obtain ⟨A, c, rfl⟩ := hd.shape
  have hlen := hd.len
  refine spec_go mixed Try.func4 rfl Try.results4 (n := Try.f4.ntmps) (by kernel_rfl) (by simp) ?_
  simp only [go_sem, simprocAttr]
  refine cl_spec (begin_ok hkk) (fun _ _ _ hc => absurd hc (by decide +kernel)) ?_
  rintro u k0 ⟨id, own, rfl, hw, q0, hz⟩
  simp only [go_sem, simprocAttr]
  refine cl_spec (alive_ok k0) (fun _ _ _ hc => absurd hc (by decide +kernel)) ?_
  rintro u k ⟨rfl, hk⟩
  obtain rfl : k0 = k := hk.symm
  have hmin : min (xs.length : Int) 400 = ((min xs.length 400 : Nat) : Int) := by omega
  obtain ⟨a1, c1, s1, i1⟩ := hd.slice 3 rfl (Nat.zero_le (min xs.length 400)) (Nat.min_le_left _ _)
  simp only [Nat.sub_zero, List.drop_zero] at s1 i1
  replace s1 : slI 3 A xs.length c (some 0) (some ((min xs.length 400 : Nat) : Int)) = some (.slice a1 (min xs.length 400) c1) := s1
  have hlm := i1.len
  simp only [go_sem, simprocAttr, hmin, s1]
  generalize hys : xs.take (min xs.length 400) = ys at i1 hlm
  have hm : min xs.length 400 = ys.length := hlm.1
  have hm4 : ys.length ≤ 400 := by omega
  rw [hm] at i1
  rw [hm]
  have i1 : IsSl rDd (tg own 0) k0 ys (.slice a1 ys.length c1) := i1.mono fun j hj hl => ⟨hz j hj, q0.2 j hj⟩
  refine go_loop (fun z ρ k => ∃ (i : Nat) (own : Nat → Nat) (W : Wd), i ≤ ys.length ∧ z = ys.length - i ∧ Good W ∧ Bnd i W ∧ WdAt own k id W ∧ IsSl rDd (tg own 0) k ys (.slice a1 ys.length c1) ∧
    ρ 5 = .pointer (some ⟨id, 0, none⟩) ∧ ρ 32 = .slice a1 ys.length c1 ∧ ρ 33 = .int .i64 ys.length ∧ ρ 34 = .int .i64 i) ys.length
    ⟨0, own, _, by omega, by omega, Good.new (by omega), ⟨fun a ha => ?_, by simp [Wd.new], by simp [Wd.new], by simp [Wd.new]⟩, hw, i1, by simp only [go_sem, simprocAttr]⟩ ?_
  · rw [List.eq_of_mem_replicate ha]; exact Nat.le_refl _
  rintro z ρ k ⟨i, own, W, hi, rfl, hG, hB, hW, hs, r5, r32, r33, r34⟩
  simp only [go_sem, simprocAttr, r5, r32, r33, r34]
  refine cnd_decide (fun hx => ?_) (fun hx => ?_)
  · have h1 : i < ys.length := by omega
    have e9 : IntKind.i64.wrap ((i : Int) + 1) = ((i + 1 : Nat) : Int) := by rw [wi64] <;> omega
    obtain ⟨b, off, sp, cc, md, cs, x, hAe, hbo, hg, hxi, hxR, hle, hdt⟩ := hs.at 3 rfl h1
    obtain ⟨rfl, hx0, hx1, hx2⟩ := rDd_iff.1 hxR
    have r32' : ρ 32 = .slice (some ⟨b, off, sp⟩) ys.length c1 := by rw [r32, hAe]
    have hW' := hW
    obtain ⟨h6, pc, ps, vg, vo, vn, vi, hgw, cw⟩ := hW'
    have hlt : id < k.next := AHeap.lt_of_alive k (by rw [hgw]; simp)
    obtain ⟨ai, ci, rfl⟩ := cw.is.sl.shape
    have hli := cw.is.sl.len
    have hbi := hB.i
    have gp : ∀ oo, (k.push oo).get id = _ := fun oo => (AHeap.get_push_lt _ _ hlt).trans hgw
    simp only [go_sem, simprocAttr, r5, r32', r33, r34, h1, hg, hle, hdt, gp, wdV]
    refine go_gen fun k2 e2 => ?_
    have q2 : k.quiet k2 := by rw [e2]; simp only [go_sem, simprocAttr]
    have g2 : k2.get k.next = .cells [.int .u8 (x.kind : Nat), .int .i64 x.id, .int .i64 x.i] .rw := by rw [e2]; simp only [go_sem, simprocAttr]
    have n2 : k2.next = k.next + 1 := by rw [e2]; simp
    clear e2
    have cw2 := cw.quiet q2 0
    have hgw2 := (q2.2 id hlt).trans hgw
    have hW2 := hW.quiet q2 0
    have hs2 : IsSl rDd (tg (bump own k 0) 0) k2 ys _ := hs.mono (quiet_other q2)
    have hb2 : bump own k 0 k.next = 0 := bump_ge (Nat.le_refl _)
    generalize bump own k 0 = ow at cw2 hW2 hs2 hb2
    refine go_loop (fun z ρ K => ∃ (j : Nat) (v : Value), j ≤ W.ids.length ∧ z = W.ids.length - j ∧ OwnL rI (k2.next ≤ ·) K ((W.ids.take j).map W.co.state) v ∧ k2.quiet K ∧
      ρ 5 = .pointer (some ⟨id, 0, none⟩) ∧ ρ 8 = .pointer (some ⟨k.next, 0, none⟩) ∧ ρ 32 = .slice a1 ys.length c1 ∧ ρ 33 = .int .i64 ys.length ∧ ρ 34 = .int .i64 i ∧ ρ 9 = v ∧ ρ 41 = .slice ai W.ids.length ci ∧ ρ 42 = .int .i64 W.ids.length ∧ ρ 43 = .int .i64 j) W.ids.length
      ⟨0, _, by omega, by omega, .nil _ _ _, .refl _, by simp only [go_sem, simprocAttr, r5, r32, r33, r34, hAe]⟩ ?_
    rintro z ρ K ⟨j, v, hj, rfl, hv, qK, r5, r8, r32, r33, r34, r9, r41, r42, r43⟩
    simp only [go_sem, simprocAttr, r5, r8, r32, r33, r34, r9, r41, r42, r43]
    have cK := cw2.quiet qK 0
    have hgK := (qK.2 id (by omega)).trans hgw2
    refine cnd_decide (fun hy => ?_) (fun hy => ?_)
    · have h2 : j < W.ids.length := by omega
      have e8 : IntKind.i64.wrap ((j : Int) + 1) = ((j + 1 : Nat) : Int) := by rw [wi64] <;> omega
      obtain ⟨b3, off3, sp3, cc3, md3, y, hA3, _, hg3, hyi, hyy, hcc3⟩ := cK.is.sl.atI h2
      simp only [go_sem, simprocAttr, r5, r8, r32, r33, r34, r9, r41, r42, r43, hA3, hg3, hcc3, h2, hgK, wdV]
      refine cl_spec (cState_ok cK.co) (fun _ _ _ hc => absurd hc (by decide +kernel)) ?_
      rintro u K2 ⟨rfl, hk⟩
      obtain rfl : K = K2 := hk.symm
      have hst := hG.le3 y
      have hst0 := hG.ge0 y
      obtain ⟨w', K3, e3, hw', f3, _, a3, n3, c3, rfl⟩ := hv.app2 (bytes := 8) (y := W.co.state y) (cs := [.int .i64 (W.co.state y)]) 1 rfl (fun _ => ⟨rfl, inI_iff.1 ⟨by omega, by omega⟩⟩) (by rw [List.length_map, List.length_take]; omega) (by rw [List.length_map, List.length_take]; omega)
      simp only [go_sem, simprocAttr, r9, r43, e3, e8]
      refine Hold.mk ⟨W.ids.length - (j + 1), by omega, j + 1, .slice a3 n3 c3, by omega, rfl, ?_, Fw.behind qK f3 (fun j e => hv.2 j e), by simp only [go_sem, simprocAttr, r5, r8, r32, r33, r34, r41, r42, hA3]⟩
      rw [List.take_add_one, hyi, List.map_append]
      exact ⟨hw'.1, fun j hj => (hw'.2 j hj).elim (fun e => e) fun e => Nat.le_trans qK.1 e⟩
    · have hjj : j = W.ids.length := by omega
      rw [hjj, List.take_length] at hv
      obtain ⟨aw, cw', rfl⟩ := hv.sl.shape
      have hwl : (W.ids.map W.co.state).length = W.ids.length := by simp
      have hg4 := (qK.2 k.next (by omega)).trans g2
      have hs4 : IsSl rDd (tg (bump ow k2 0) 0) K ys _ := hs2.mono (quiet_other qK)
      have hv4 : IsSl rI (tg (bump ow k2 0) 0) K (W.ids.map W.co.state) _ := hv.slz.mono fun j hj _ => ⟨bump_ge hj, rfl⟩
      have hW4 := hW2.quiet qK 0
      simp only [go_sem, simprocAttr, r5, r8, hg4]
      refine cl_spec (do_ok (by omega) hW4 hB (by rw [u8_max] at hx0; omega) ⟨hx1, hx2⟩) (fun _ _ _ hc => absurd hc (by decide +kernel)) ?_
      rintro u k3 ⟨rfl, own3, hW3, kp3⟩
      have hG3 := hG.do x
      have hB3 := hB.do hW.step x
      have hs3 := kp3.sl hs4
      have hv3 := kp3.sl hv4
      have hW3' := hW3
      obtain ⟨h63, pc3, ps3, vg3, vo3, vn3, vi3, hgw3, cw3⟩ := hW3'
      obtain ⟨ai3, ci3, rfl⟩ := cw3.is.sl.shape
      have hli3 := cw3.is.sl.len
      have hbi3 := hB3.i
      simp only [go_sem, simprocAttr, r5, hgw3, wdV]
      refine cl_spec (cPhase_ok cw3.co) (fun _ _ _ hc => absurd hc (by decide +kernel)) ?_
      rintro u k4 ⟨rfl, hk⟩
      obtain rfl : k3 = k4 := hk.symm
      simp only [go_sem, simprocAttr, r5, hgw3, wdV]
      refine go_loop (fun z ρ K => ∃ (j : Nat), j ≤ (W.do x).ids.length ∧ z = (W.do x).ids.length - j ∧ k3 = K ∧
        ρ 5 = .pointer (some ⟨id, 0, none⟩) ∧ ρ 32 = .slice a1 ys.length c1 ∧ ρ 33 = .int .i64 ys.length ∧ ρ 34 = .int .i64 i ∧ ρ 9 = .slice aw (W.ids.map W.co.state).length cw' ∧ ρ 13 = .int .i64 (W.do x).co.id ∧
        ρ 71 = .slice ai3 (W.do x).ids.length ci3 ∧ ρ 72 = .int .i64 (W.do x).ids.length ∧ ρ 73 = .int .i64 j) (W.do x).ids.length
        ⟨0, by omega, by omega, rfl, by simp only [go_sem, simprocAttr, r5, r32, r33, r34, r9]⟩ ?_
      rintro z ρ K ⟨j, hj, rfl, rfl, r5, r32, r33, r34, r9, r13, r71, r72, r73⟩
      simp only [go_sem, simprocAttr, r5, r32, r33, r34, r9, r13, r71, r72, r73]
      refine cnd_decide (fun hy => ?_) (fun hy => ?_)
      · have h2 : j < (W.do x).ids.length := by omega
        have e8 : IntKind.i64.wrap ((j : Int) + 1) = ((j + 1 : Nat) : Int) := by rw [wi64] <;> omega
        obtain ⟨b3, off3, sp3, cc3, md3, y, hA3, _, hg3, hyi, hyy, hcc3⟩ := cw3.is.sl.atI h2
        obtain ⟨t1, t3, t2⟩ := hG3.stands y (List.mem_of_getElem? hyi)
        simp only [go_sem, simprocAttr, r5, r71, r72, r73, hA3, hg3, hcc3, h2, hgw3, wdV]
        refine cl_spec (cState_ok cw3.co) (fun _ _ _ hc => absurd hc (by decide +kernel)) ?_
        rintro u K2 ⟨rfl, hk⟩
        obtain rfl : k3 = K2 := hk.symm
        have l1 : ¬ (W.do x).co.state y < 1 := by omega
        have l3 : ¬ 3 < (W.do x).co.state y := by omega
        have r71' : ρ 71 = .slice (some ⟨b3, off3, sp3⟩) (W.do x).ids.length ci3 := by rw [r71, hA3]
        have tail : ((W.do x).co.state y = 1) = True ∧ (y = (W.do x).co.id) = True ∨ ((W.do x).co.state y = 1) = False := by
          by_cases e : (W.do x).co.state y = 1
          · exact .inl ⟨eq_true e, eq_true (t2 e)⟩
          · exact .inr (eq_false e)
        by_cases hjw : j < W.ids.length
        · have hyw : W.ids[j]? = some y := by
            rcases W.do_ids x with e | e
            · rw [e] at hyi; exact hyi
            · rw [e, List.getElem?_append_left hjw] at hyi; exact hyi
          obtain ⟨b4, off4, sp4, cc4, md4, yy, hA4, _, hg4, hyy4, _, hcc4⟩ := hv3.atI (i := j) (by rw [hwl]; exact hjw)
          rw [List.getElem?_map, hyw] at hyy4
          obtain rfl : W.co.state y = yy := by simpa using hyy4
          have hjw' : j < (W.ids.map W.co.state).length := by rw [hwl]; exact hjw
          have hjwI : (j : Int) < ((W.ids.map W.co.state).length : Nat) := by omega
          have r9' : ρ 9 = .slice (some ⟨b4, off4, sp4⟩) (W.ids.map W.co.state).length cw' := by rw [r9, hA4]
          by_cases hw1 : 1 < W.co.state y
          · have hke : ((W.do x).co.state y = W.co.state y) = True := eq_true (hG.keeps x y hw1)
            rcases tail with ⟨t4, t5⟩ | t4
            · simp only [go_sem, simprocAttr, r5, r9', r13, r72, r73, hjw', decide_eq_true hjwI, hg4, hcc4, decide_eq_true hw1, hke, decide_eq_false l1, decide_eq_false l3, t4, t5, e8]
              exact Hold.mk ⟨(W.do x).ids.length - (j + 1), by omega, j + 1, by omega, rfl, rfl, by simp only [go_sem, simprocAttr, r5, r32, r33, r34, r9, r13, r71, r72, hA4, hA3]⟩
            · simp only [go_sem, simprocAttr, r5, r9', r13, r72, r73, hjw', decide_eq_true hjwI, hg4, hcc4, decide_eq_true hw1, hke, decide_eq_false l1, decide_eq_false l3, t4, e8]
              exact Hold.mk ⟨(W.do x).ids.length - (j + 1), by omega, j + 1, by omega, rfl, rfl, by simp only [go_sem, simprocAttr, r5, r32, r33, r34, r9, r13, r71, r72, hA4, hA3]⟩
          · rcases tail with ⟨t4, t5⟩ | t4
            · simp only [go_sem, simprocAttr, r5, r9', r13, r72, r73, hjw', decide_eq_true hjwI, hg4, hcc4, decide_eq_false hw1, decide_eq_false l1, decide_eq_false l3, t4, t5, e8]
              exact Hold.mk ⟨(W.do x).ids.length - (j + 1), by omega, j + 1, by omega, rfl, rfl, by simp only [go_sem, simprocAttr, r5, r32, r33, r34, r9, r13, r71, r72, hA4, hA3]⟩
            · simp only [go_sem, simprocAttr, r5, r9', r13, r72, r73, hjw', decide_eq_true hjwI, hg4, hcc4, decide_eq_false hw1, decide_eq_false l1, decide_eq_false l3, t4, e8]
              exact Hold.mk ⟨(W.do x).ids.length - (j + 1), by omega, j + 1, by omega, rfl, rfl, by simp only [go_sem, simprocAttr, r5, r32, r33, r34, r9, r13, r71, r72, hA4, hA3]⟩
        · have hjwI : ¬ j < (W.ids.map W.co.state).length := by omega
          rcases tail with ⟨t4, t5⟩ | t4
          · simp only [go_sem, simprocAttr, r5, r9, r13, r72, r73, decide_eq_false hjwI, decide_eq_false l1, decide_eq_false l3, t4, t5, e8]
            exact Hold.mk ⟨(W.do x).ids.length - (j + 1), by omega, j + 1, by omega, rfl, rfl, by simp only [go_sem, simprocAttr, r5, r32, r33, r34, r9, r13, r71, r72, hA3]⟩
          · simp only [go_sem, simprocAttr, r5, r9, r13, r72, r73, decide_eq_false hjwI, decide_eq_false l1, decide_eq_false l3, t4, e8]
            exact Hold.mk ⟨(W.do x).ids.length - (j + 1), by omega, j + 1, by omega, rfl, rfl, by simp only [go_sem, simprocAttr, r5, r32, r33, r34, r9, r13, r71, r72, hA3]⟩
      · simp only [go_sem, simprocAttr, r34, e9]
        exact Hold.mk ⟨ys.length - (i + 1), by omega, i + 1, own3, _, by omega, rfl, hG3, hB3, hW3, hs3, by simp only [go_sem, simprocAttr, r5, r32, r33]⟩
  · simp only [go_sem, simprocAttr]
end
end Go.Proofs.Ytbcgipcgcjkfcaa
