/- barrier: the law BarrierTaken: what its call comes to. -/
import Derived.Test.YtbcgipcgcjkfcaaBaV
set_option linter.unusedSimpArgs false
set_option linter.unusedVariables false
set_option linter.unnecessarySimpa false
set_option maxRecDepth 100000
namespace Go.Proofs.Ytbcgipcgcjkfcaa
open Go.AM

theorem azeros_int (n : Nat) : azeros [.int .i64 0] n = List.replicate n (Value.int .i64 0) := by
  unfold azeros
  apply List.ext_getElem (by simp)
  intro i h1 h2
  simp [Nat.mod_one]
section
variable {own own' own'' : Nat → Nat} {h h' h'' : AHeap} {pc id : Nat} {ps : List Nat} {vg vo vn vi : Value} {w : Wd} {Z : Nat → Prop}
theorem taken_ok {xs : List Dd} {v : Value} {kk : Nat} (hd : IsSl rDd (· < h.next) h xs v) (hkk : kk ≤ 255) :
    Does Try.prog 8 #[.int .u8 (kk : Nat), v] h (fun u _ => u = .bool true) := by
  obtain ⟨A, c, rfl⟩ := hd.shape
  have hlen := hd.len
  refine spec_go mixed Try.func8 rfl Try.results8 (n := Try.f8.ntmps) (by kernel_rfl) (by simp) ?_
  simp only [go_sem, simprocAttr]
  refine cl_spec (begin_ok hkk) (fun _ _ _ hc => absurd hc (by decide +kernel)) ?_
  rintro u k0 ⟨id, own, rfl, hw, q0, hz⟩
  simp only [go_sem, simprocAttr]
  refine cl_spec (alive_ok k0) (fun _ _ _ hc => absurd hc (by decide +kernel)) ?_
  rintro u k ⟨rfl, hk⟩
  obtain rfl : k0 = k := hk.symm
  have hmin : min (xs.length : Int) 400 = ((min xs.length 400 : Nat) : Int) := by omega
  obtain ⟨a1, c1, s1, i1⟩ := hd.slice 3 rfl (Nat.zero_le (min xs.length 400)) (Nat.min_le_left _ _)
  simp only [Nat.sub_zero, List.drop_zero] at s1 i1
  replace s1 : slI 3 A xs.length c (some 0) (some ((min xs.length 400 : Nat) : Int)) = some (.slice a1 (min xs.length 400) c1) := s1
  have hlm := i1.len
  simp only [go_sem, simprocAttr, hmin, s1]
  generalize hys : xs.take (min xs.length 400) = ys at i1 hlm
  have hm : min xs.length 400 = ys.length := hlm.1
  have hm4 : ys.length ≤ 400 := by omega
  rw [hm] at i1
  rw [hm]
  have i1 : IsSl rDd (tg own 0) k0 ys (.slice a1 ys.length c1) := i1.mono fun j hj hl => ⟨hz j hj, q0.2 j hj⟩
  refine go_loop (fun z ρ k => ∃ (i : Nat) (own : Nat → Nat) (W : Wd), i ≤ ys.length ∧ z = ys.length - i ∧ Good W ∧ Bnd i W ∧ WdAt own k id W ∧ IsSl rDd (tg own 0) k ys (.slice a1 ys.length c1) ∧
    ρ 5 = .pointer (some ⟨id, 0, none⟩) ∧ ρ 31 = .slice a1 ys.length c1 ∧ ρ 32 = .int .i64 ys.length ∧ ρ 33 = .int .i64 i) ys.length
    ⟨0, own, _, by omega, by omega, Good.new (by omega), ⟨fun a ha => ?_, by simp [Wd.new], by simp [Wd.new], by simp [Wd.new]⟩, hw, i1, by simp only [go_sem, simprocAttr]⟩ ?_
  · rw [List.eq_of_mem_replicate ha]; exact Nat.le_refl _
  rintro z ρ k ⟨i, own, W, hi, rfl, hG, hB, hW, hs, r5, r31, r32, r33⟩
  simp only [go_sem, simprocAttr, r5, r31, r32, r33]
  refine cnd_decide (fun hx => ?_) (fun hx => ?_)
  · have h1 : i < ys.length := by omega
    have e9 : IntKind.i64.wrap ((i : Int) + 1) = ((i + 1 : Nat) : Int) := by rw [wi64] <;> omega
    obtain ⟨b, off, sp, cc, md, cs, x, hAe, hbo, hg, hxi, hxR, hle, hdt⟩ := hs.at 3 rfl h1
    obtain ⟨rfl, hx0, hx1, hx2⟩ := rDd_iff.1 hxR
    have r31' : ρ 31 = .slice (some ⟨b, off, sp⟩) ys.length c1 := by rw [r31, hAe]
    have hW' := hW
    obtain ⟨h6, pc, ps, vg, vo, vn, vi, hgw, cw⟩ := hW'
    have hlt : id < k.next := AHeap.lt_of_alive k (by rw [hgw]; simp)
    obtain ⟨ag, cg, rfl⟩ := cw.pl.shape
    have hlg := cw.pl.len
    have hn16 : ps.length ≤ 16 := by
      obtain ⟨_, hgd, _⟩ := cw.co
      rw [cw.ln, hG.c.nn]; exact hgd.2.1
    have gp : ∀ oo, (k.push oo).get id = _ := fun oo => (AHeap.get_push_lt _ _ hlt).trans hgw
    have gp2 : ∀ oo o2, ((k.push oo).push o2).get id = _ := fun oo o2 => (AHeap.get_push_lt _ _ (by simp; omega)).trans (gp oo)
    have gp3 : ∀ oo o2 o3, (((k.push oo).push o2).push o3).get id = _ := fun oo o2 o3 => (AHeap.get_push_lt _ _ (by simp; omega)).trans (gp2 oo o2)
    have m1 : 8 * (ps.length : Int) ≤ 281474976710656 := by omega
    have m2 : (ps.length : Int) ≤ 281474976710656 := by omega
    simp only [go_sem, simprocAttr, r5, r31', r32, r33, h1, hg, hle, hdt, gp, gp2, gp3, wdV, m1, m2, azeros_int, Nat.le_refl, true_and]
    refine go_gen fun k2 e2 => ?_
    have q2 : k.quiet k2 := by rw [e2]; simp only [go_sem, simprocAttr]
    have g2 : k2.get k.next = .cells [.int .u8 (x.kind : Nat), .int .i64 x.id, .int .i64 x.i] .rw := by rw [e2]; simp only [go_sem, simprocAttr]
    have gA : k2.get (k.next + 1) = .cells (List.replicate ps.length (.int .i64 0)) .rw := by rw [e2]; simp only [go_sem, simprocAttr]
    have gB : k2.get (k.next + 1 + 1) = .cells (List.replicate ps.length (.int .i64 0)) .rw := by rw [e2]; simp only [go_sem, simprocAttr]
    have n2 : k2.next = k.next + 3 := by rw [e2]; simp
    clear e2
    refine go_loop (fun z ρ K => ∃ (j : Nat) (c1' c2' : List Value), j ≤ ps.length ∧ z = ps.length - j ∧ K.get (k.next + 1) = .cells c1' .rw ∧ K.get (k.next + 1 + 1) = .cells c2' .rw ∧ c1'.length = ps.length ∧ c2'.length = ps.length ∧
      (∀ t a, t < j → W.ags[t]? = some a → c1'[t]? = some (.int .i64 a.pre) ∧ c2'[t]? = some (.int .i64 a.fro)) ∧ k.quiet K ∧ K.get k.next = .cells [.int .u8 (x.kind : Nat), .int .i64 x.id, .int .i64 x.i] .rw ∧ K.next = k.next + 3 ∧
      ρ 5 = .pointer (some ⟨id, 0, none⟩) ∧ ρ 8 = .pointer (some ⟨k.next, 0, none⟩) ∧ ρ 31 = .slice a1 ys.length c1 ∧ ρ 32 = .int .i64 ys.length ∧ ρ 33 = .int .i64 i ∧
      ρ 9 = .slice (some ⟨k.next + 1, 0, none⟩) ps.length ps.length ∧ ρ 10 = .slice (some ⟨k.next + 1 + 1, 0, none⟩) ps.length ps.length ∧ ρ 52 = .slice ag ps.length cg ∧ ρ 53 = .int .i64 ps.length ∧ ρ 54 = .int .i64 j) ps.length
      ⟨0, _, _, by omega, by omega, gA, gB, by simp, by simp, fun t a h => absurd h (by omega), q2, g2, n2, by simp only [go_sem, simprocAttr, r5, r31, r32, r33, hAe]⟩ ?_
    rintro z ρ K ⟨j, c1', c2', hj, rfl, gA, gB, lA, lB, hall, qK, gx, nK, r5, r8, r31, r32, r33, r9, r10, r52, r53, r54⟩
    simp only [go_sem, simprocAttr, r5, r8, r31, r32, r33, r9, r10, r52, r53, r54]
    have cK := cw.quiet qK 0
    have hgK := (qK.2 id hlt).trans hgw
    refine cnd_decide (fun hy => ?_) (fun hy => ?_)
    · have h2 : j < ps.length := by omega
      have e8 : IntKind.i64.wrap ((j : Int) + 1) = ((j + 1 : Nat) : Int) := by rw [wi64] <;> omega
      obtain ⟨b3, off3, sp3, cc3, md3, v, p, hA3, _, hg3, hpi, hR, hcc3⟩ := cK.pl.at1 rfl h2
      obtain rfl : v = _ := by simpa using rP_iff.1 hR
      obtain ⟨a, hai, hag⟩ := cK.lt hpi
      have r52' : ρ 52 = .slice (some ⟨b3, off3, sp3⟩) ps.length cg := by rw [r52, hA3]
      have lA' : j < c1'.length := by omega
      have lB' : j < c2'.length := by omega
      have lA1 : j + 1 ≤ c1'.length := by omega
      have lB1 : j + 1 ≤ c2'.length := by omega
      have oA : ∀ o, (K.set (k.next + 1) o).get (k.next + 1 + 1) = _ := fun o => (AHeap.get_set_ne _ _ (by omega)).trans gB
      simp only [go_sem, simprocAttr, r5, r8, r9, r10, r52', r53, r54, hg3, hcc3, h2]
      refine cl_spec (aPrepared_ok hag) (fun _ _ _ hc => absurd hc (by decide +kernel)) ?_
      rintro u K2 ⟨rfl, hk⟩
      obtain rfl : K = K2 := hk.symm
      simp only [go_sem, simprocAttr]
      refine cl_spec (aFrozen_ok hag) (fun _ _ _ hc => absurd hc (by decide +kernel)) ?_
      rintro u K2 ⟨rfl, hk⟩
      obtain rfl : K = K2 := hk.symm
      simp only [go_sem, simprocAttr, r9, r10, h2, gA, oA, lA1, lB1, r54, e8]
      refine Hold.mk ⟨ps.length - (j + 1), by omega, j + 1, c1'.set j (.int .i64 a.pre), c2'.set j (.int .i64 a.fro), by omega, rfl, ?_, ?_, by simpa using lA, by simpa using lB, fun t b ht hb => ?_, ?_, ?_, by simpa using nK, by simp only [go_sem, simprocAttr, r5, r8, r31, r32, r33, r9, r10, r52, r53, hA3]⟩
      · rw [AHeap.get_set_ne _ _ (by omega)]; exact AHeap.get_set_self _ _ (by omega)
      · exact AHeap.get_set_self _ _ (by simp; omega)
      · by_cases htj : t = j
        · subst htj
          rw [hai] at hb; cases hb
          exact ⟨List.getElem?_set_self lA', List.getElem?_set_self lB'⟩
        · rw [List.getElem?_set_ne (Ne.symm htj), List.getElem?_set_ne (Ne.symm htj)]
          exact hall t b (by omega) hb
      · exact (qK.set' (by omega) _).set' (by omega) _
      · rw [AHeap.get_set_ne _ _ (by omega), AHeap.get_set_ne _ _ (by omega)]; exact gx
    · have hjj : j = ps.length := by omega
      have hWK := hW.quiet qK 0
      have hsK : IsSl rDd (tg (bump own k 0) 0) K ys _ := hs.mono (quiet_other qK)
      simp only [go_sem, simprocAttr, r5, r8, gx]
      refine cl_spec (do_ok (by omega) hWK hB (by rw [u8_max] at hx0; omega) ⟨hx1, hx2⟩) (fun _ _ _ hc => absurd hc (by decide +kernel)) ?_
      rintro u k3 ⟨rfl, own3, hW3, kp3⟩
      have hG3 := hG.do x
      have hB3 := hB.do hW.step x
      have hs3 := kp3.sl hsK
      have gA3 := ((kp3.2 (k.next + 1) (by omega)).2 (bump_ge (by omega))).trans gA
      have gB3 := ((kp3.2 (k.next + 1 + 1) (by omega)).2 (bump_ge (by omega))).trans gB
      obtain ⟨tl, tk⟩ := W.do_taken x
      have hW3' := hW3
      obtain ⟨h63, pc3, ps3, vg3, vo3, vn3, vi3, hgw3, cw3⟩ := hW3'
      obtain ⟨ag3, cg3, rfl⟩ := cw3.pl.shape
      have hlg3 := cw3.pl.len
      have hln3 : ps3.length = ps.length := by rw [cw3.ln, cw.ln, tl]
      simp only [go_sem, simprocAttr, r5, hgw3, wdV]
      refine go_loop (fun z ρ K => ∃ (j : Nat), j ≤ ps3.length ∧ z = ps3.length - j ∧ k3 = K ∧
        ρ 5 = .pointer (some ⟨id, 0, none⟩) ∧ ρ 31 = .slice a1 ys.length c1 ∧ ρ 32 = .int .i64 ys.length ∧ ρ 33 = .int .i64 i ∧
        ρ 9 = .slice (some ⟨k.next + 1, 0, none⟩) ps.length ps.length ∧ ρ 10 = .slice (some ⟨k.next + 1 + 1, 0, none⟩) ps.length ps.length ∧
        ρ 76 = .slice ag3 ps3.length cg3 ∧ ρ 77 = .int .i64 ps3.length ∧ ρ 78 = .int .i64 j) ps3.length
        ⟨0, by omega, by omega, rfl, by simp only [go_sem, simprocAttr, r5, r31, r32, r33, r9, r10]⟩ ?_
      rintro z ρ K3 ⟨t, ht, rfl, rfl, r5, r31, r32, r33, r9, r10, r76, r77, r78⟩
      simp only [go_sem, simprocAttr, r5, r31, r32, r33, r9, r10, r76, r77, r78]
      refine cnd_decide (fun hy => ?_) (fun hy => ?_)
      · have h2 : t < ps3.length := by omega
        have h2' : t < ps.length := by omega
        have e8 : IntKind.i64.wrap ((t : Int) + 1) = ((t + 1 : Nat) : Int) := by rw [wi64] <;> omega
        obtain ⟨b3, off3, sp3, cc3, md3, v, p, hA3, _, hg3, hpi, hR, hcc3⟩ := cw3.pl.at1 rfl h2
        obtain rfl : v = _ := by simpa using rP_iff.1 hR
        obtain ⟨a', hai', hag'⟩ := cw3.lt hpi
        have r76' : ρ 76 = .slice (some ⟨b3, off3, sp3⟩) ps3.length cg3 := by rw [r76, hA3]
        have hta : t < W.ags.length := by rw [← cw.ln]; exact h2'
        obtain ⟨u1, u2⟩ := hall t W.ags[t] (by omega) (List.getElem?_eq_getElem hta)
        have htk := tk t _ _ (List.getElem?_eq_getElem hta) hai'
        generalize W.ags[t] = a at u1 u2 htk
        simp only [go_sem, simprocAttr, r5, r76', r77, r78, hg3, hcc3, h2]
        refine cl_spec (aPrepared_ok hag') (fun _ _ _ hc => absurd hc (by decide +kernel)) ?_
        rintro u K2 ⟨rfl, hk⟩
        obtain rfl : k3 = K2 := hk.symm
        by_cases z0 : a'.pre = 0
        · have z0' : (a'.pre = 0) = True := eq_true z0
          simp only [go_sem, simprocAttr, z0', r78, e8]
          exact Hold.mk ⟨ps3.length - (t + 1), by omega, t + 1, by omega, rfl, rfl, by simp only [go_sem, simprocAttr, r5, r31, r32, r33, r9, r10, r76, r77, hA3]⟩
        have z0' : (a'.pre = 0) = False := eq_false z0
        by_cases z1 : a'.pre = a.pre
        · have z1' : (a'.pre = a.pre) = True := eq_true z1
          simp only [go_sem, simprocAttr, z0', r9, r10, h2', gA3, u1, z1', r78, e8]
          exact Hold.mk ⟨ps3.length - (t + 1), by omega, t + 1, by omega, rfl, rfl, by simp only [go_sem, simprocAttr, r5, r31, r32, r33, r9, r10, r76, r77, hA3]⟩
        · have z1' : (a'.pre = a.pre) = False := eq_false z1
          have z2' : (a.fro = a'.pre) = True := eq_true (by omega)
          simp only [go_sem, simprocAttr, z0', r9, r10, h2', gA3, gB3, u1, u2, z1', z2', r78, e8]
          exact Hold.mk ⟨ps3.length - (t + 1), by omega, t + 1, by omega, rfl, rfl, by simp only [go_sem, simprocAttr, r5, r31, r32, r33, r9, r10, r76, r77, hA3]⟩
      · simp only [go_sem, simprocAttr, r33, e9]
        exact Hold.mk ⟨ys.length - (i + 1), by omega, i + 1, own3, _, by omega, rfl, hG3, hB3, hW3, hs3, by simp only [go_sem, simprocAttr, r5, r31, r32]⟩
  · simp only [go_sem, simprocAttr]
end
end Go.Proofs.Ytbcgipcgcjkfcaa
