/- barrier: the law BarrierCoords: what its call comes to. -/
import Derived.Test.YtbcgipcgcjkfcaaBaL
set_option linter.unusedSimpArgs false
set_option linter.unusedVariables false
set_option linter.unnecessarySimpa false
set_option maxRecDepth 100000
namespace Go.Proofs.Ytbcgipcgcjkfcaa
open Go.AM

def rCall : Rep (Nat × Int × Int × Int) := Rep.pair rB (.pair rI (.pair rI rI))
theorem rCall_iff {S : Nat → Prop} {h : AHeap} {x : Nat × Int × Int × Int} {cs : List Value} : rCall.R S h x cs ↔ cs = [.int .u8 (x.1 : Nat), .int .i64 x.2.1, .int .i64 x.2.2.1, .int .i64 x.2.2.2] ∧ (x.1 : Int) ≤ IntKind.u8.max ∧ inI x.2.1 ∧ inI x.2.2.1 ∧ inI x.2.2.2 := by
  constructor
  · rintro ⟨c1, c2, rfl, ⟨rfl, h1⟩, c3, c4, rfl, ⟨rfl, h2⟩, c5, c6, rfl, ⟨rfl, h3⟩, ⟨rfl, h4⟩⟩
    exact ⟨rfl, h1, inI_iff.2 h2, inI_iff.2 h3, inI_iff.2 h4⟩
  · rintro ⟨rfl, h1, h2, h3, h4⟩
    exact ⟨[_], [_, _, _], rfl, ⟨rfl, h1⟩, [_], [_, _], rfl, ⟨rfl, inI_iff.1 h2⟩, [_], [_], rfl, ⟨rfl, inI_iff.1 h3⟩, ⟨rfl, inI_iff.1 h4⟩⟩

def Rc.size (r : Rc) : Nat := r.com.length + r.ab.length
theorem turn_size (r : Rc) (p : Int) : (r.turn p).size = r.size := rfl
theorem begin_size (r : Rc) (x : Int) : (r.begin x).2.size = r.size := by unfold Rc.begin; repeat' split
                                                                          all_goals rfl
theorem abort_size (r : Rc) : r.abort.2.size = r.size := by unfold Rc.abort; split <;> rfl
theorem crash_size (r : Rc) : r.crash.size = r.size := by unfold Rc.crash; split <;> rfl
theorem hear_size (r : Rc) (a k x : Int) : (r.hear a k x).2.size ≤ r.size + 1 := by
  unfold Rc.hear Rc.ends
  repeat' split
  all_goals (simp [Rc.size, Rc.turn]; try omega)

section
variable {h : AHeap}

theorem coords_ok {xs : List (Nat × Int × Int × Int)} {v : Value} {n id : Int} (hd : IsSl rCall (· < h.next) h xs v) (hn : xs.length ≤ 1048576) (hi : inI id) :
    Does Try.prog 3 #[.int .i64 n, v, .int .i64 id] h (fun u _ => u = .bool true) := by
  obtain ⟨A, c, rfl⟩ := hd.shape
  have hlen := hd.len
  refine spec_go mixed Try.func3 rfl Try.results3 (n := Try.f3.ntmps) (by kernel_rfl) (by simp) ?_
  simp only [go_sem, simprocAttr]
  refine cl_spec newCoord_ok (fun _ _ _ hc => absurd hc (by decide +kernel)) ?_
  rintro u k0 ⟨q0, ⟨n1, n2, rfl, a0⟩ | ⟨n1, rfl⟩⟩
  · simp only [go_sem, simprocAttr]
    refine cl_spec newRc_ok (fun _ _ _ hc => absurd hc (by decide +kernel)) ?_
    rintro u k1 ⟨q1, ⟨_, _, ba, rfl, hba, gba⟩ | ⟨e, _⟩⟩
    · simp only [go_sem, simprocAttr]
      refine cl_gen fun k2 e2 => ?_
      have q2 : k1.quiet k2 := by rw [e2]; simp only [go_sem, simprocAttr]
      have g2 : k2.get k1.next = .cells [.slice (some ⟨ba, 0, none⟩) n.toNat n.toNat, .int .i64 0, .int .i64 0, .slice none 0 0, .slice none 0 0] .rw := by rw [e2]; simp only [go_sem, simprocAttr]
      clear e2
      refine cl_spec (alive_ok k2) (fun _ _ _ hc => absurd hc (by decide +kernel)) ?_
      rintro u k ⟨rfl, hk⟩
      obtain rfl : k2 = k := hk.symm
      have hA0 := a0.lt
      have lba : ba < k1.next := AHeap.lt_of_alive k1 (by rw [gba]; simp)
      simp only [go_sem, simprocAttr]
      have gb2 := (q2.2 ba lba).trans gba
      have lb2 : k0.next ≤ ba := hba
      have hN : n.toNat ≤ 16 ∧ 1 ≤ n.toNat := by omega
      refine go_loop (fun z ρ k => ∃ (i : Nat) (own : Nat → Nat) (co : Co) (r : Rc), i ≤ xs.length ∧ z = xs.length - i ∧ Sim co r ∧ r.size ≤ i ∧ CoAt (tg own 1) k (h.next + 1) co ∧ RcAt (tg own 2) k k1.next r ∧ IsSl rCall (tg own 0) k xs (.slice A xs.length c) ∧
        ρ 2 = .int .i64 id ∧ ρ 7 = .pointer (some ⟨h.next + 1, 0, none⟩) ∧ ρ 9 = .pointer (some ⟨k1.next, 0, none⟩) ∧ ρ 42 = .slice A xs.length c ∧ ρ 43 = .int .i64 xs.length ∧ ρ 44 = .int .i64 i) xs.length
        ⟨0, bump (bump (fun _ => 0) h 1) k0 2, ⟨n.toNat, 0, 0, [], []⟩, ⟨List.replicate n.toNat false, 0, 0, [], []⟩, by omega, by omega, Sim.new hN.2, by simp [Rc.size], ?_, ?_, ?_, by simp only [go_sem, simprocAttr]⟩ ?_
      · exact a0.mono (Nat.le_trans q1.1 q2.1) fun j hj hl => ⟨(bump_lt hl).trans (bump_ge hj), (q2.2 j (by have := q1.1; omega)).trans (q1.2 j hl)⟩
      · refine ⟨bump_ge q1.1, ⟨by simpa using hN.2, by simpa using hN.1, Int.le_refl 0, (show (0 : Int) ≤ 4 by decide), (show inI 0 from ⟨by decide, by decide⟩)⟩, ba, _, _, by simpa [rcC] using g2, ⟨bump_ge lb2, by omega, gb2⟩, ⟨.nil _ _ _, by simp, by simp⟩, ⟨.nil _ _ _, by simp, by simp⟩⟩
      · exact hd.mono fun j hj hl => ⟨(bump_lt (by have := q0.1; omega)).trans (bump_lt hl), (q2.2 j (by have := q0.1; have := q1.1; omega)).trans ((q1.2 j (by have := q0.1; omega)).trans (q0.2 j hl))⟩
      rintro z ρ k ⟨i, own, co, r, hi', rfl, hsim, hsz, hc, hr, hs, r2, r7, r9, r42, r43, r44⟩
      simp only [go_sem, simprocAttr, r2, r7, r9, r42, r43, r44]
      refine cnd_decide (fun hx' => ?_) (fun hx' => ?_)
      · have h1 : i < xs.length := by omega
        obtain ⟨b, off, sp, cc, md, cs, x, hAe, hbo, hg, hxi, hxR, hle, hdt⟩ := hs.at 4 rfl h1
        obtain ⟨rfl, hx0, hx1, hx2, hx3⟩ := rCall_iff.1 hxR
        have r42' : ρ 42 = .slice (some ⟨b, off, sp⟩) xs.length c := by rw [r42, hAe]
        have e9 : IntKind.i64.wrap ((i : Int) + 1) = ((i + 1 : Nat) : Int) := by rw [wi64] <;> omega
        simp only [go_sem, simprocAttr, r2, r7, r9, r42', r43, r44, h1, hg, hle, hdt]
        refine cnd_cut (fun ρ k3 => ∃ (own : Nat → Nat) (co : Co) (r : Rc), Sim co r ∧ r.size ≤ i + 1 ∧ CoAt (tg own 1) k3 (h.next + 1) co ∧ RcAt (tg own 2) k3 k1.next r ∧ IsSl rCall (tg own 0) k3 xs (.slice A xs.length c) ∧ k3.get k.next = .cells [.int .u8 (x.1 : Nat), .int .i64 x.2.1, .int .i64 x.2.2.1, .int .i64 x.2.2.2] .rw ∧
          ρ 2 = .int .i64 id ∧ ρ 7 = .pointer (some ⟨h.next + 1, 0, none⟩) ∧ ρ 9 = .pointer (some ⟨k1.next, 0, none⟩) ∧ ρ 12 = .pointer (some ⟨k.next, 0, none⟩) ∧ ρ 13 = .bool true ∧ ρ 42 = .slice A xs.length c ∧ ρ 43 = .int .i64 xs.length ∧ ρ 44 = .int .i64 i) (fun hb => ?_) (fun hb => ?_) ?_
        · simp only [go_sem, simprocAttr, r7, r9]
          refine cl_gen fun k5 e5 => ?_
          have q5 : k.quiet k5 := by rw [e5]; simp only [go_sem, simprocAttr]
          have gx : k5.get k.next = .cells [.int .u8 (x.1 : Nat), .int .i64 x.2.1, .int .i64 x.2.2.1, .int .i64 x.2.2.2] .rw := by rw [e5]; simp only [go_sem, simprocAttr]
          have nx : k5.next = k.next + 1 := by rw [e5]; simp
          clear e5
          have hc5 := hc.mono q5.1 (quiet_other q5 (t := 0))
          have hr5 := hr.mono q5.1 (quiet_other q5 (t := 0))
          have hs5 := hs.mono (quiet_other q5 (t := 0))
          have hb5 : tg (bump own k 0) 0 k.next := bump_ge (Nat.le_refl _)
          generalize bump own k 0 = ow at hc5 hr5 hs5 hb5
          refine cl_hard [12] (by decide +kernel) (cBegin_ok hc5 hx3) (fun v h' hp t ht y hy => ?_) ?_
          · obtain rfl : t = 12 := by simpa using ht
            replace hy : vblk (.pointer (some ⟨k.next, 0, none⟩)) = some y := by rw [← hy]; simp only [go_sem, simprocAttr]
            cases hy
            exact (hp.2.2.stay (s := 0) (by decide) _ hb5 (by omega)).2
          rintro u k6 ⟨rfl, hc6, f6⟩
          have hr6 := hr5.mono f6.1 (f6.other (by decide))
          have hc6 := hc6.weaken fun _ => bump_up
          have hs6 := hs5.mono (f6.other (by decide))
          have hb6 : tg (bump ow k5 1) 0 k.next := bump_tg hb5 (by omega)
          have gx := ((f6.stay (s := 0) (by decide) _ hb5 (by omega)).2).trans gx
          have l6 := f6.1
          generalize bump ow k5 1 = ow' at hc6 hr6 hs6 hb6
          simp only [go_sem, simprocAttr, r9, gx]
          refine cl_spec (rBegin_ok hr6 hx3) (fun _ _ _ hc => absurd hc (by decide +kernel)) ?_
          rintro u k7 ⟨rfl, hr7, f7⟩
          have gx := ((f7.stay (s := 0) (by decide) _ hb6 (by omega)).2).trans gx
          simp only [go_sem, simprocAttr]
          refine Hold.mk ⟨bump ow' k6 2, _, _, (hsim.begin x.2.2.2).2, by rw [begin_size]; omega, hc6.mono f7.1 (f7.other (by decide)), hr7.weaken fun _ => bump_up, hs6.mono (f7.other (by decide)), gx, by simp only [go_sem, simprocAttr, (hsim.begin x.2.2.2).1, r2, r7, r9, r42, r43, r44]⟩
        · simp only [go_sem, simprocAttr]
          refine cnd_decide (fun hb1 => ?_) (fun hb1 => ?_)
          · simp only [go_sem, simprocAttr, r7, r9]
            refine cl_gen fun k5 e5 => ?_
            have q5 : k.quiet k5 := by rw [e5]; simp only [go_sem, simprocAttr]
            have gx : k5.get k.next = .cells [.int .u8 (x.1 : Nat), .int .i64 x.2.1, .int .i64 x.2.2.1, .int .i64 x.2.2.2] .rw := by rw [e5]; simp only [go_sem, simprocAttr]
            have nx : k5.next = k.next + 1 := by rw [e5]; simp
            clear e5
            have hc5 := hc.mono q5.1 (quiet_other q5 (t := 0))
            have hr5 := hr.mono q5.1 (quiet_other q5 (t := 0))
            have hs5 := hs.mono (quiet_other q5 (t := 0))
            have hb5 : tg (bump own k 0) 0 k.next := bump_ge (Nat.le_refl _)
            generalize bump own k 0 = ow at hc5 hr5 hs5 hb5
            refine cl_spec (cStep_ok hc5) (fun _ _ _ hc => absurd hc (by decide +kernel)) ?_
            rintro u k6 ⟨o6, q6⟩
            have hr6 := hr5.mono q6.1 (quiet_other q6 (t := 0))
            have hc6 := hc5.mono q6.1 (quiet_other q6 (t := 0))
            have hs6 := hs5.mono (quiet_other q6 (t := 0))
            have gx := (q6.2 k.next (by omega)).trans gx
            have l6 := q6.1
            generalize bump ow k5 0 = ow' at hc6 hr6 hs6
            simp only [go_sem, simprocAttr, r9]
            refine cl_spec (rStep_ok hr6) (fun _ _ _ hc => absurd hc (by decide +kernel)) ?_
            rintro u2 k7 ⟨o7, q7⟩
            have gx := (q7.2 k.next (by omega)).trans gx
            have o6 := o6.mono q7.1 (fun j hj hl => ⟨hj, q7.2 j hl⟩)
            rw [hsim.step] at o6
            simp only [go_sem, simprocAttr]
            refine cl_spec (orders_ok o6.sl o7.sl) (fun _ _ _ hc => absurd hc (by decide +kernel)) ?_
            rintro u3 k8 ⟨rfl, hk8⟩
            obtain rfl : k7 = k8 := hk8.symm
            simp only [go_sem, simprocAttr]
            refine Hold.mk ⟨bump ow' k6 0, co, r, hsim, by omega, hc6.mono q7.1 (quiet_other q7), hr6.mono q7.1 (quiet_other q7), hs6.mono (quiet_other q7), gx, by simp only [go_sem, simprocAttr, r2, r7, r9, r42, r43, r44]⟩
          · simp only [go_sem, simprocAttr]
            refine cnd_decide (fun hb2 => ?_) (fun hb2 => ?_)
            · simp only [go_sem, simprocAttr, r7, r9]
              refine cl_gen fun k5 e5 => ?_
              have q5 : k.quiet k5 := by rw [e5]; simp only [go_sem, simprocAttr]
              have gx : k5.get k.next = .cells [.int .u8 (x.1 : Nat), .int .i64 x.2.1, .int .i64 x.2.2.1, .int .i64 x.2.2.2] .rw := by rw [e5]; simp only [go_sem, simprocAttr]
              have nx : k5.next = k.next + 1 := by rw [e5]; simp
              clear e5
              have hc5 := hc.mono q5.1 (quiet_other q5 (t := 0))
              have hr5 := hr.mono q5.1 (quiet_other q5 (t := 0))
              have hs5 := hs.mono (quiet_other q5 (t := 0))
              have hb5 : tg (bump own k 0) 0 k.next := bump_ge (Nat.le_refl _)
              generalize bump own k 0 = ow at hc5 hr5 hs5 hb5
              refine cl_hard [12] (by decide +kernel) (cHear_ok hc5) (fun v h' hp t ht y hy => ?_) ?_
              · obtain rfl : t = 12 := by simpa using ht
                replace hy : vblk (.pointer (some ⟨k.next, 0, none⟩)) = some y := by rw [← hy]; simp only [go_sem, simprocAttr]
                cases hy
                exact (hp.2.2.stay (s := 0) (by decide) _ hb5 (by omega)).2
              rintro u k6 ⟨rfl, hc6, f6⟩
              have hr6 := hr5.mono f6.1 (f6.other (by decide))
              have hc6 := hc6.weaken fun _ => bump_up
              have hs6 := hs5.mono (f6.other (by decide))
              have hb6 : tg (bump ow k5 1) 0 k.next := bump_tg hb5 (by omega)
              have gx := ((f6.stay (s := 0) (by decide) _ hb5 (by omega)).2).trans gx
              have l6 := f6.1
              generalize bump ow k5 1 = ow' at hc6 hr6 hs6 hb6
              simp only [go_sem, simprocAttr, r9, gx]
              refine cl_spec (rHear_ok hr6 ⟨by unfold Rc.size at hsz; omega, by unfold Rc.size at hsz; omega⟩) (fun _ _ _ hc => absurd hc (by decide +kernel)) ?_
              rintro u k7 ⟨rfl, hr7, f7⟩
              have gx := ((f7.stay (s := 0) (by decide) _ hb6 (by omega)).2).trans gx
              simp only [go_sem, simprocAttr]
              refine Hold.mk ⟨bump ow' k6 2, _, _, (hsim.hear x.2.1 x.2.2.1 x.2.2.2).2, by have := hear_size r x.2.1 x.2.2.1 x.2.2.2; omega, hc6.mono f7.1 (f7.other (by decide)), hr7.weaken fun _ => bump_up, hs6.mono (f7.other (by decide)), gx, by simp only [go_sem, simprocAttr, (hsim.hear x.2.1 x.2.2.1 x.2.2.2).1, r2, r7, r9, r42, r43, r44]⟩
            · simp only [go_sem, simprocAttr]
              refine cnd_decide (fun hb3 => ?_) (fun hb3 => ?_)
              · simp only [go_sem, simprocAttr, r7, r9]
                refine cl_gen fun k5 e5 => ?_
                have q5 : k.quiet k5 := by rw [e5]; simp only [go_sem, simprocAttr]
                have gx : k5.get k.next = .cells [.int .u8 (x.1 : Nat), .int .i64 x.2.1, .int .i64 x.2.2.1, .int .i64 x.2.2.2] .rw := by rw [e5]; simp only [go_sem, simprocAttr]
                have nx : k5.next = k.next + 1 := by rw [e5]; simp
                clear e5
                have hc5 := hc.mono q5.1 (quiet_other q5 (t := 0))
                have hr5 := hr.mono q5.1 (quiet_other q5 (t := 0))
                have hs5 := hs.mono (quiet_other q5 (t := 0))
                have hb5 : tg (bump own k 0) 0 k.next := bump_ge (Nat.le_refl _)
                generalize bump own k 0 = ow at hc5 hr5 hs5 hb5
                refine cl_spec (cAbort_ok hc5) (fun _ _ _ hc => absurd hc (by decide +kernel)) ?_
                rintro u k6 ⟨rfl, hc6, f6⟩
                have hr6 := hr5.mono f6.1 (f6.other (by decide))
                have hc6 := hc6.weaken fun _ => bump_up
                have hs6 := hs5.mono (f6.other (by decide))
                have hb6 : tg (bump ow k5 1) 0 k.next := bump_tg hb5 (by omega)
                have gx := ((f6.stay (s := 0) (by decide) _ hb5 (by omega)).2).trans gx
                have l6 := f6.1
                generalize bump ow k5 1 = ow' at hc6 hr6 hs6 hb6
                simp only [go_sem, simprocAttr, r9, gx]
                refine cl_spec (rAbort_ok hr6) (fun _ _ _ hc => absurd hc (by decide +kernel)) ?_
                rintro u k7 ⟨rfl, hr7, f7⟩
                have gx := ((f7.stay (s := 0) (by decide) _ hb6 (by omega)).2).trans gx
                simp only [go_sem, simprocAttr]
                refine Hold.mk ⟨bump ow' k6 2, _, _, hsim.abort.2, by rw [abort_size]; omega, hc6.mono f7.1 (f7.other (by decide)), hr7.weaken fun _ => bump_up, hs6.mono (f7.other (by decide)), gx, by simp only [go_sem, simprocAttr, hsim.abort.1, r2, r7, r9, r42, r43, r44]⟩
              · simp only [go_sem, simprocAttr, r7, r9]
                refine cl_gen fun k5 e5 => ?_
                have q5 : k.quiet k5 := by rw [e5]; simp only [go_sem, simprocAttr]
                have gx : k5.get k.next = .cells [.int .u8 (x.1 : Nat), .int .i64 x.2.1, .int .i64 x.2.2.1, .int .i64 x.2.2.2] .rw := by rw [e5]; simp only [go_sem, simprocAttr]
                have nx : k5.next = k.next + 1 := by rw [e5]; simp
                clear e5
                have hc5 := hc.mono q5.1 (quiet_other q5 (t := 0))
                have hr5 := hr.mono q5.1 (quiet_other q5 (t := 0))
                have hs5 := hs.mono (quiet_other q5 (t := 0))
                have hb5 : tg (bump own k 0) 0 k.next := bump_ge (Nat.le_refl _)
                generalize bump own k 0 = ow at hc5 hr5 hs5 hb5
                refine cl_spec (cCrash_ok hc5) (fun _ _ _ hc => absurd hc (by decide +kernel)) ?_
                rintro u k6 ⟨rfl, hc6, f6⟩
                have hr6 := hr5.mono f6.1 (f6.other (by decide))
                have hc6 := hc6.weaken fun _ => bump_up
                have hs6 := hs5.mono (f6.other (by decide))
                have hb6 : tg (bump ow k5 1) 0 k.next := bump_tg hb5 (by omega)
                have gx := ((f6.stay (s := 0) (by decide) _ hb5 (by omega)).2).trans gx
                have l6 := f6.1
                generalize bump ow k5 1 = ow' at hc6 hr6 hs6 hb6
                simp only [go_sem, simprocAttr, r9, gx]
                refine cl_spec (rCrash_ok hr6) (fun _ _ _ hc => absurd hc (by decide +kernel)) ?_
                rintro u k7 ⟨rfl, hr7, f7⟩
                have gx := ((f7.stay (s := 0) (by decide) _ hb6 (by omega)).2).trans gx
                simp only [go_sem, simprocAttr]
                refine Hold.mk ⟨bump ow' k6 2, _, _, hsim.crash, by rw [crash_size]; omega, hc6.mono f7.1 (f7.other (by decide)), hr7.weaken fun _ => bump_up, hs6.mono (f7.other (by decide)), gx, by simp only [go_sem, simprocAttr, r2, r7, r9, r42, r43, r44]⟩
        · rintro ρ k3 ⟨ow, co', r', hsim', hsz', hc', hr', hs', g3, r2, r7, r9, r12, r13, r42, r43, r44⟩
          simp only [go_sem, simprocAttr, r7]
          refine cl_spec (cPhase_ok hc') (fun _ _ _ hc => absurd hc (by decide +kernel)) ?_
          rintro u k4 ⟨rfl, hk4⟩
          obtain rfl : k3 = k4 := hk4.symm
          obtain ⟨ba', vc', vb', gr, _⟩ := hr'.2.2
          have ep := hsim'.ph
          have ei := hsim'.id
          simp only [go_sem, simprocAttr, r7, r9, r13, gr, rcC, ep, ei, r12, g3]
          refine cl_spec (cState_ok hc') (fun u h' hp _ => hp.2 ▸ .refl _) ?_
          rintro u k4 ⟨rfl, hk4⟩
          obtain rfl : k3 = k4 := hk4.symm
          simp only [go_sem, simprocAttr, r7, r9, r13, r12, g3]
          refine cl_spec (rState_ok hr') (fun u h' hp _ => hp.2 ▸ .refl _) ?_
          rintro u k4 ⟨rfl, hk4⟩
          obtain rfl : k3 = k4 := hk4.symm
          simp only [go_sem, simprocAttr, r2, r7, r9, r13, r12, g3, hsim'.state]
          refine cl_spec (cState_ok hc') (fun u h' hp _ => hp.2 ▸ .refl _) ?_
          rintro u k4 ⟨rfl, hk4⟩
          obtain rfl : k3 = k4 := hk4.symm
          simp only [go_sem, simprocAttr, r2, r7, r9, r13, r12, g3]
          refine cl_spec (rState_ok hr') (fun u h' hp _ => hp.2 ▸ .refl _) ?_
          rintro u k4 ⟨rfl, hk4⟩
          obtain rfl : k3 = k4 := hk4.symm
          simp only [go_sem, simprocAttr, r2, r7, r9, r44, hsim'.state, e9]
          exact Hold.mk ⟨xs.length - (i + 1), by omega, i + 1, ow, co', r', by omega, rfl, hsim', hsz', hc', hr', hs', by simp only [go_sem, simprocAttr, r2, r7, r9, r42, r43]⟩
      · simp only [go_sem, simprocAttr]
    · omega
  · simp only [go_sem, simprocAttr]
    refine cl_spec newRc_ok (fun _ _ _ hc => absurd hc (by decide +kernel)) ?_
    rintro u k1 ⟨q1, ⟨_, _, ba, rfl, hba, gba⟩ | ⟨e, rfl⟩⟩
    · omega
    · simp only [go_sem, simprocAttr]
      refine cl_gen fun k2 e2 => ?_
      refine cl_spec (alive_ok k2) (fun _ _ _ hc => absurd hc (by decide +kernel)) ?_
      rintro u k ⟨rfl, hk⟩
      simp only [go_sem, simprocAttr]
end
end Go.Proofs.Ytbcgipcgcjkfcaa
