/- volume: the law Crash. -/
import Derived.Test.YtedpfdflolkpeaaGreatDoorVoR
set_option linter.unusedSimpArgs false
set_option linter.unusedVariables false
set_option linter.unnecessarySimpa false
set_option maxRecDepth 100000
namespace Go.Proofs.YtedpfdflolkpeaaGreatDoor
open Go.AM
section
variable {ow ow' ow'' : Nat → Nat → Nat} {h k k' : AHeap} {id n : Nat} {v : Vm} {S : Nat → Prop} {b : Nat}
theorem ours_ok {m : Pl.SMap} {w : Value} (hd : IsSl Pl.rPiece S h m.ps w) : Does Tryz.prog 20 #[Pl.mapV m w] h (fun u h' => u = Pl.mapV m w ∧ h.quiet h') := by
  obtain ⟨a, c, rfl⟩ := hd.shape
  refine spec_go mixed Tryz.func20 rfl Tryz.results20 (n := Tryz.f20.ntmps) (by kernel_rfl) (by simp) ?_
  simp only [go_sem, simprocAttr, Pl.mapV]
theorem crashLaw_ok {ns : List Int} {xs : List VAct} {w1 w2 w3 : Value} {w4 : Value} {ac : VAct} (hs : Ints (· < h.next) h ns w1) (hx : IsSl rVAct (· < h.next) h xs w2) (hi : ac.inI) (hd : Words (· < h.next) h ac.op.data w3) (hw : IsSl .bool (· < h.next) h ac.keep w4) : Does Tryz.prog 5 #[w1, w2, .agg (ac.cs w3 w4).toArray] h (fun u _ => u = .bool true) := by
  obtain ⟨a1, c1, rfl⟩ := hs.shape
  obtain ⟨a3, c3, rfl⟩ := hd.shape
  obtain ⟨a4, c4, rfl⟩ := hw.shape
  refine spec_go mixed Tryz.func5 rfl Tryz.results5 (n := Tryz.f5.ntmps) (by kernel_rfl) (by simp) ?_
  simp only [go_sem, simprocAttr, VAct.cs]
  refine cl_gen fun h0 eh => ?_
  have qh : h.quiet h0 := by rw [eh]; simp only [go_sem, simprocAttr]
  clear eh
  have hs0 : Ints (· < h0.next) h0 ns (.slice a1 ns.length c1) := hs.mono fun j hj hl => ⟨Nat.lt_of_lt_of_le hj qh.1, qh.2 j hl⟩
  have hx0 : IsSl rVAct (· < h0.next) h0 xs w2 := hx.mono fun j hj hl => ⟨Nat.lt_of_lt_of_le hj qh.1, qh.2 j hl⟩
  have hw0 : IsSl .bool (· < h0.next) h0 ac.keep (.slice a4 ac.keep.length c4) := hw.mono fun j hj hl => ⟨Nat.lt_of_lt_of_le hj qh.1, qh.2 j hl⟩
  refine cl_spec (start_ok hs0) (fun _ _ _ hc => absurd hc (by decide +kernel)) ?_
  rintro u k ⟨q, ⟨id, ow, v, rfl, sc⟩ | ⟨e, he, rfl⟩⟩
  rotate_left
  · simp only [go_sem, simprocAttr, he]
    refine cl_spec (valive_ok k) (fun _ _ _ hc => absurd hc (by decide +kernel)) ?_
    rintro u k1 ⟨rfl, q1⟩
    simp only [go_sem, simprocAttr]
  simp only [go_sem, simprocAttr]
  refine cl_spec (valive_ok k) (fun _ _ _ hc => absurd hc (by decide +kernel)) ?_
  rintro u k1 ⟨rfl, q1⟩
  have sc1 := sc.quiet q1
  generalize cutO ow k = ow1 at sc1
  simp only [go_sem, simprocAttr]
  refine cl_spec (vshort_ok (hx0.mono (S' := (· < h0.next)) (h' := k1) fun j hj _ => ⟨hj, sc1.q.2 j hj⟩)) (fun _ _ _ hc => absurd hc (by decide +kernel)) ?_
  rintro u k1' ⟨hx1, rfl⟩
  have hxl : (xs.take 300).length ≤ 300 := by rw [List.length_take]; omega
  have hx2 : IsSl rVAct (· < h0.next) h0 (xs.take 300) u := hx1.mono fun j hj _ => ⟨hj, (sc1.q.2 j hj).symm⟩
  obtain ⟨a2, c2, rfl⟩ := hx2.shape
  generalize xs.take 300 = ys at hx1 hx2 hxl
  simp only [go_sem, simprocAttr]
  refine go_cutb (fun ρ k => ∃ (ow : Nat → Nat → Nat) (v : Vm), Sc h0 id 6000 ow k v ∧ ρ 9 = .pointer (some ⟨id, 0, none⟩) ∧ ρ 7 = .int .i64 ac.node ∧ ρ 8 = .slice a4 ac.keep.length c4) ?_ ?_
  · refine go_loop (fun z ρ k => ∃ (i : Nat) (ow : Nat → Nat → Nat) (v : Vm), i ≤ ys.length ∧ z = ys.length - i ∧ Sc h0 id (20 * i) ow k v ∧ ρ 9 = .pointer (some ⟨id, 0, none⟩) ∧ ρ 42 = .slice a2 ys.length c2 ∧ ρ 43 = .int .i64 ys.length ∧ ρ 44 = .int .i64 i ∧ ρ 7 = .int .i64 ac.node ∧ ρ 8 = .slice a4 ac.keep.length c4) ys.length
      ⟨0, ow1, v, by omega, by omega, sc1, by simp only [go_sem, simprocAttr]⟩ ?_
    rintro z ρ k2 ⟨i, ow2, v2, hi, rfl, s2, rp, ra, rb, rc, rk, rl⟩
    simp only [go_sem, simprocAttr, rp, ra, rb, rc, rk, rl]
    refine cnd_decide (fun hy => ?_) (fun hy => ?_)
    · have h1 : i < ys.length := by omega
      have e36 : IntKind.i64.wrap ((i : Int) + 1) = ((i + 1 : Nat) : Int) := by rw [wi64] <;> omega
      obtain ⟨b0, off, sp, cc, md, x, d, w, hA, hg, hxi, hd, hw, hxI, hle, hdt⟩ := s2.actAt hx2 h1
      subst hA
      obtain ⟨ad, cd, rfl⟩ := hd.shape
      obtain ⟨aw, cw, rfl⟩ := hw.shape
      simp only [go_sem, simprocAttr, rp, ra, rc, h1, hg, hle, hdt, va_len, va_one, va_take, va_put]
      have qp : k2.quiet (k2.push (.cells (x.cs (.slice ad x.op.data.length cd) (.slice aw x.keep.length cw)) .rw)) := .push _ _
      refine cl_spec ((s2.quiet qp).does (by omega) hxI (hd.mono fun j hj hl => ⟨hj, qp.2 j hl⟩) (hw.mono fun j hj hl => ⟨hj, qp.2 j hl⟩)) (fun _ _ _ hc => absurd hc (by decide +kernel)) ?_
      rintro u k7 ⟨rfl, ow7, s7, vk7⟩
      simp only [go_sem, simprocAttr, rc, e36]
      exact Hold.mk ⟨ys.length - (i + 1), by omega, i + 1, ow7, _, by omega, rfl, s7, by simp only [go_sem, simprocAttr, rp, ra, rb, rk, rl]⟩
    · simp only [go_sem, simprocAttr]
      exact Hold.mk ⟨ow2, v2, s2.more (by omega), by simp only [go_sem, simprocAttr, rp, rk, rl]⟩
  · rintro ρ k2 ⟨ow2, v2, s2, rp, rk, rl⟩
    simp only [go_sem, simprocAttr, rp, rk, rl]
    refine cl_spec s2.map (fun _ _ _ hc => absurd hc (by decide +kernel)) ?_
    rintro u k4 ⟨am, cm, rfl, hm4, q4⟩
    simp only [go_sem, simprocAttr, Pl.mapV, rp]
    have qm : k4.quiet (k4.push (.cells [.int .i64 v2.mp.ver, .int .i64 v2.mp.n, .slice am v2.mp.ps.length cm] .rw)) := .push _ _
    have gm : (k4.push (.cells [.int .i64 v2.mp.ver, .int .i64 v2.mp.n, .slice am v2.mp.ps.length cm] .rw)).get k4.next = .cells [.int .i64 v2.mp.ver, .int .i64 v2.mp.n, .slice am v2.mp.ps.length cm] .rw := by simp
    have lm : k4.next < (k4.push (.cells [.int .i64 v2.mp.ver, .int .i64 v2.mp.n, .slice am v2.mp.ps.length cm] .rw)).next := by simp
    generalize k4.push (.cells [.int .i64 v2.mp.ver, .int .i64 v2.mp.n, .slice am v2.mp.ps.length cm] .rw) = k5 at qm gm lm
    have q25 := q4.trans qm
    refine cl_spec ((s2.quiet q25).read rfl) (fun _ _ _ hc => absurd hc (by decide +kernel)) ?_
    rintro u k6 ⟨ax, cx, rfl, hwx, q6⟩
    have hid2 := s2.at_.lt
    have s6 := s2.quiet (q25.trans q6)
    have fm : fr (cutO ow2 k2) k4.next ∧ k4.next ≠ id := ⟨cutO_ge q4.1, by have := q4.1; omega⟩
    have gm6 := (q6.2 _ lm).trans gm
    have lm6 := Nat.lt_of_lt_of_le lm q6.1
    have hwx6 : Words (fun j => fr (cutO ow2 k2) j ∧ j ≠ id) k6 v2.shows (.slice ax v2.shows.length cx) := hwx.weaken fun j hj => ⟨cutO_ge (by have := q25.1; omega), by have := q25.1; omega⟩
    have hm6 : IsSl Pl.rPiece (fun j => fr (cutO ow2 k2) j ∧ j ≠ id) k6 v2.mp.ps (.slice am v2.mp.ps.length cm) := (hm4.quiet (qm.trans q6)).weaken fun j hj => ⟨cutO_ge hj, by omega⟩
    generalize cutO ow2 k2 = ow6 at s6 fm hwx6 hm6
    have hw6 : IsSl .bool (fr ow6) k6 ac.keep (.slice a4 ac.keep.length c4) := hw0.mono fun j hj hl => ⟨s6.fr j hj, s6.q.2 j hl⟩
    simp only [go_sem, simprocAttr, rp, rk, rl]
    refine cl_spec (vCrash_ok s6.at_ s6.good (by decide) (node := ac.node) hw6) (fun _ _ _ hc => absurd hc (by decide +kernel)) ?_
    rintro u k7 ⟨rfl, ow7, a7, vk7⟩
    by_cases hh : has16 ac.node
    rotate_left
    · have e9 : v2.crash ac.node ac.keep = (9, v2) := if_neg hh
      rw [e9]
      simp only [go_sem, simprocAttr, rk]
      refine cl_spec vhas_ok (fun _ _ _ hc => absurd hc (by decide +kernel)) ?_
      rintro u k8 ⟨rfl, rfl⟩
      simp only [go_sem, simprocAttr, decide_eq_false hh]
    have e0 : v2.crash ac.node ac.keep = (0, v2.upd ac.node.toNat fun m => m.crash ac.keep) := if_pos hh
    have s7 := s6.step a7 vk7 (crash_good s6.good (by decide) ac.node ac.keep) (by rw [e0]; rfl)
    rw [e0] at s7 ⊢
    dsimp only at s7
    have hoth : ∀ j : Nat, j < 30 → nodeAt v2.mp j ≠ ac.node.toNat → (v2.upd ac.node.toNat fun m => m.crash ac.keep).shows[j]? = v2.shows[j]? := fun j hj hne => by
      have hn2 := s6.n30
      have hn7 := s7.n30
      have e1 : (v2.upd ac.node.toNat fun m => m.crash ac.keep).mp = v2.mp := rfl
      rw [Vm.shows_get _ (by rw [hn7]; exact hj), Vm.shows_get _ (by rw [hn2]; exact hj), e1, Vm.upd_ne _ _ hne]
    have hmp7 : (v2.upd ac.node.toNat fun m => m.crash ac.keep).mp = v2.mp := rfl
    generalize (v2.upd ac.node.toNat fun m => m.crash ac.keep) = v7 at s7 hoth hmp7
    have gm7 := (vk7.same _ fm lm6).2.trans gm6
    have fm7 := (vk7.same _ fm lm6).1
    have lm7 := Nat.lt_of_lt_of_le lm6 vk7.1
    have hwx7 := hwx6.mono fun j hj hl => vk7.same j hj hl
    have hm7 := hm6.mono fun j hj hl => vk7.same j hj hl
    simp only [go_sem, simprocAttr, rp, gm7]
    refine cl_spec (s7.read (by rw [hmp7])) (fun _ _ _ hc => absurd hc (by decide +kernel)) ?_
    rintro u k8 ⟨ay, cy, rfl, hwy, q8⟩
    have hid7 := s7.at_.lt
    have s8 := s7.quiet q8
    have hwx8 : Words (fun j => fr (cutO ow7 k7) j ∧ j ≠ id) k8 v2.shows (.slice ax v2.shows.length cx) := hwx7.mono fun j hj hl => ⟨⟨fr_cut hj.1, hj.2⟩, q8.2 j hl⟩
    have hwy8 : Words (fun j => fr (cutO ow7 k7) j ∧ j ≠ id) k8 v7.shows (.slice ay v7.shows.length cy) := hwy.weaken fun j hj => ⟨cutO_ge hj, by omega⟩
    have hm8 : IsSl Pl.rPiece (fun j => fr (cutO ow7 k7) j ∧ j ≠ id) k8 v2.mp.ps (.slice am v2.mp.ps.length cm) := hm7.mono fun j hj hl => ⟨⟨fr_cut hj.1, hj.2⟩, q8.2 j hl⟩
    have gm8 := (q8.2 _ lm7).trans gm7
    have fm8 : fr (cutO ow7 k7) k4.next ∧ k4.next ≠ id := ⟨fr_cut fm7.1, fm7.2⟩
    have lm8 := Nat.lt_of_lt_of_le lm7 q8.1
    generalize cutO ow7 k7 = ow8 at s8 hwx8 hwy8 hm8 fm8
    have lx : v2.shows.length = 30 := by rw [v2.shows_len, s6.n30]; rfl
    have ly : v7.shows.length = 30 := by rw [v7.shows_len, s7.n30]; rfl
    rw [lx] at hwx8
    rw [ly] at hwy8
    rw [lx, ly]
    simp only [go_sem, simprocAttr]
    refine go_cutb (fun ρ k => ∃ (ow : Nat → Nat → Nat), Sc h0 id 6000 ow k v7 ∧ Words (fun j => fr ow j ∧ j ≠ id) k v7.shows (.slice ay 30 cy) ∧ (fr ow k4.next ∧ k4.next ≠ id) ∧ k4.next < k.next ∧ k.get k4.next = .cells [.int .i64 v2.mp.ver, .int .i64 v2.mp.n, .slice am v2.mp.ps.length cm] .rw ∧
      ρ 9 = .pointer (some ⟨id, 0, none⟩) ∧ ρ 7 = .int .i64 ac.node ∧ ρ 13 = .pointer (some ⟨k4.next, 0, none⟩) ∧ ρ 16 = .slice ay 30 cy) ?_ ?_
    · refine go_loop (fun z ρ k => ∃ (i : Nat) (ow : Nat → Nat → Nat), i ≤ 30 ∧ z = 30 - i ∧ Sc h0 id 6000 ow k v7 ∧ Words (fun j => fr ow j ∧ j ≠ id) k v2.shows (.slice ax 30 cx) ∧ Words (fun j => fr ow j ∧ j ≠ id) k v7.shows (.slice ay 30 cy) ∧ IsSl Pl.rPiece (fun j => fr ow j ∧ j ≠ id) k v2.mp.ps (.slice am v2.mp.ps.length cm) ∧ (fr ow k4.next ∧ k4.next ≠ id) ∧ k4.next < k.next ∧ k.get k4.next = .cells [.int .i64 v2.mp.ver, .int .i64 v2.mp.n, .slice am v2.mp.ps.length cm] .rw ∧
        ρ 9 = .pointer (some ⟨id, 0, none⟩) ∧ ρ 7 = .int .i64 ac.node ∧ ρ 13 = .pointer (some ⟨k4.next, 0, none⟩) ∧ ρ 14 = .slice ax 30 cx ∧ ρ 16 = .slice ay 30 cy ∧ ρ 85 = .int .i64 30 ∧ ρ 86 = .int .i64 i) 30
        ⟨0, ow8, by omega, by omega, s8, hwx8, hwy8, hm8, fm8, lm8, gm8, by simp only [go_sem, simprocAttr, rp, rk]⟩ ?_
      rintro z ρ k9 ⟨i, ow9, hi, rfl, s9, hwx9, hwy9, hm9, fm9, lm9, gm9, rp, rk, r13, r14, r16, r85, r86⟩
      simp only [go_sem, simprocAttr, rp, rk, r13, r14, r16, r85, r86]
      refine cnd_decide (fun hy => ?_) (fun hy => ?_)
      · have h1 : i < 30 := by omega
        have e86 : IntKind.i64.wrap ((i : Int) + 1) = ((i + 1 : Nat) : Int) := by rw [wi64] <;> omega
        obtain ⟨b1, o1, sp1, cc1, md1, u1, x1, hA1, hf1, hg1, hx1, hr1, hd1⟩ := hwx9.at1 rfl h1
        obtain ⟨b2, o2, sp2, cc2, md2, u2, x2, hA2, hf2, hg2, hx2', hr2, hd2⟩ := hwy9.at1 rfl h1
        obtain ⟨er1, _⟩ := hr1
        obtain ⟨er2, _⟩ := hr2
        cases er1
        cases er2
        subst hA1 hA2
        have h1z : (i : Int) < 30 := by omega
        simp only [go_sem, simprocAttr, rk, r13, r14, r16, r86, h1, h1z, hg1, hg2, hd1, hd2]
        by_cases hxy : x1 = x2
        · have hxy' : ((x1 : Nat) : Int) = ((x2 : Nat) : Int) := by rw [hxy]
          simp only [go_sem, simprocAttr, hxy', r86, e86]
          exact Hold.mk ⟨30 - (i + 1), by omega, i + 1, ow9, by omega, rfl, s9, hwx9, hwy9, hm9, fm9, lm9, gm9, by simp only [go_sem, simprocAttr, rp, rk, r13, r14, r16, r85]⟩
        · have hxy' : ¬ ((x1 : Nat) : Int) = ((x2 : Nat) : Int) := by omega
          simp only [go_sem, simprocAttr, hxy', gm9, r13]
          have hou := ours_ok (m := v2.mp) hm9
          unfold Pl.mapV at hou
          refine cl_spec hou (fun _ _ _ hc => absurd hc (by decide +kernel)) ?_
          rintro u k10 ⟨rfl, q10⟩
          have hnd := Pl.rNode_ok (m := v2.mp) (b := (i : Int)) (hm9.quiet q10) s6.good.mp (by omega) (by have := s6.n30; omega)
          unfold Pl.mapV at hnd
          simp only [go_sem, simprocAttr, rk]
          refine cl_spec hnd (fun _ _ _ hc => absurd hc (by decide +kernel)) ?_
          rintro u k11 ⟨q11, p, hp, rfl⟩
          have hn : p.node = ac.node := by
            have hna : nodeAt v2.mp (i : Int) = p.node.toNat := by unfold nodeAt; rw [hp]; rfl
            obtain ⟨_, p', hp', _, _, _, hp0, _⟩ := nodeAt_lt s6.good.mp (j := (i : Int)) (by omega) (by have := s6.n30; omega)
            rw [hp] at hp'; cases hp'
            refine Decidable.byContradiction fun hne => ?_
            have := hoth i h1 (by rw [hna]; have := hh.1; omega)
            rw [hx2', hx1] at this
            exact hxy (Option.some.inj this).symm
          have q11' := q10.trans q11
          simp only [go_sem, simprocAttr, rk, hn, r86, e86]
          exact Hold.mk ⟨30 - (i + 1), by omega, i + 1, _, by omega, rfl, s9.quiet q11', hwx9.mono fun j hj hl => ⟨⟨fr_cut hj.1, hj.2⟩, q11'.2 j hl⟩, hwy9.mono fun j hj hl => ⟨⟨fr_cut hj.1, hj.2⟩, q11'.2 j hl⟩, hm9.mono fun j hj hl => ⟨⟨fr_cut hj.1, hj.2⟩, q11'.2 j hl⟩, ⟨fr_cut fm9.1, fm9.2⟩, Nat.lt_of_lt_of_le lm9 q11'.1, (q11'.2 _ lm9).trans gm9, by simp only [go_sem, simprocAttr, rp, rk, r13, r14, r16, r85]⟩
      · simp only [go_sem, simprocAttr]
        exact Hold.mk ⟨ow9, s9, hwy9, fm9, lm9, gm9, by simp only [go_sem, simprocAttr, rp, rk, r13, r16]⟩
    · rintro ρ k9 ⟨ow9, s9, hwy9, fm9, lm9, gm9, rp, rk, r13, r16⟩
      simp only [go_sem, simprocAttr, rp]
      refine cl_spec (vFlush_ok s9.at_ (ns := []) (w := .slice none 0 0) (IsSl.nil _ _ _) (fun j e => by cases e) (by decide)) (fun _ _ _ hc => absurd hc (by decide +kernel)) ?_
      rintro u k10 ⟨rfl, ow10, a10, vk10⟩
      have hfl : v7.flush [] = (0, v7.flushL (List.range 16)) := rfl
      rw [hfl] at a10 ⊢
      have fl := flushL_like (List.range 16) v7
      have s10 := s9.step a10 vk10 (flushL_good _ _ s9.good) (by rw [fl.1])
      have f10 : ∀ k, k < 16 → ((v7.flushL (List.range 16)).sh k).firm := fun k hk => flushL_firm _ _ _ (.inl (List.mem_range.2 hk))
      dsimp only at s10
      generalize v7.flushL (List.range 16) = v10 at s10 f10 fl
      have hwy10 := hwy9.mono fun j hj hl => vk10.same j hj hl
      have fm10 := (vk10.same _ fm9 lm9)
      have gm10 := fm10.2.trans gm9
      have lm10 := Nat.lt_of_lt_of_le lm9 vk10.1
      simp only [go_sem, simprocAttr, rp, rk]
      refine cl_spec (vCrash_ok s10.at_ s10.good (by decide) (node := ac.node) (ks := []) (IsSl.nil _ _ _)) (fun _ _ _ hc => absurd hc (by decide +kernel)) ?_
      rintro u k11 ⟨rfl, ow11, a11, vk11⟩
      obtain ⟨lk, _⟩ := firm_crash f10 ac.node []
      have s11 := s10.step a11 vk11 (crash_good s10.good (by decide) ac.node []) (by rw [lk.1])
      have hwy11 := hwy10.mono fun j hj hl => vk11.same j hj hl
      have gm11 := (vk11.same _ fm10.1 lm10).2.trans gm10
      generalize (v10.crash ac.node []).2 = v11 at s11 lk
      simp only [go_sem, simprocAttr, rp, r13, gm11]
      have lt := fl.trans lk
      refine cl_spec (s11.read (by rw [lt.1, hmp7])) (fun _ _ _ hc => absurd hc (by decide +kernel)) ?_
      rintro u k12 ⟨az, cz, rfl, hwz, q12⟩
      simp only [go_sem, simprocAttr, r16]
      refine cl_spec (Words_ok (hwy11.quiet q12) hwz) (fun _ _ _ hc => absurd hc (by decide +kernel)) ?_
      rintro u k13 ⟨rfl, rfl⟩
      rw [decide_eq_true (lt.shows s9.good).symm]
      simp only [go_sem, simprocAttr]
end
end Go.Proofs.YtedpfdflolkpeaaGreatDoor
