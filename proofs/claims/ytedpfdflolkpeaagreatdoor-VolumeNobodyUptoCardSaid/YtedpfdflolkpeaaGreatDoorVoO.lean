/- volume: the law Flush. -/
import Derived.Test.YtedpfdflolkpeaaGreatDoorVoN
set_option linter.unusedSimpArgs false
set_option linter.unusedVariables false
set_option linter.unnecessarySimpa false
set_option maxRecDepth 100000
namespace Go.Proofs.YtedpfdflolkpeaaGreatDoor
open Go.AM
section
variable {ow ow' ow'' : Nat → Nat → Nat} {h k k' : AHeap} {id n : Nat} {v : Vm} {S : Nat → Prop} {b : Nat}
theorem Sc.more {m : Nat} (s : Sc h id n ow k v) (hm : n ≤ m) : Sc h id m ow k v := ⟨s.at_, s.good.mono hm, s.n30, s.fr, s.q, s.id_⟩
/-- A crash of what is firm. -/
theorem firm_crash {v : Vm} (f : ∀ k, k < 16 → (v.sh k).firm) (n : Int) (ks : List Bool) : v.like (v.crash n ks).2 ∧ ∀ k, k < 16 → ((v.crash n ks).2.sh k).firm := by
  unfold Vm.crash
  split
  · refine ⟨Vm.upd_like fun hk j _ => crash_flush_val ks (f _ hk).1 (f _ hk).2 j, fun k hk => ?_⟩
    by_cases e : k = n.toNat
    · subst e; rw [v.upd_eq]; exact crash_firm _ _
    · rw [v.upd_ne _ e]; exact f k hk
  · exact ⟨.refl _, f⟩
theorem vhas_ok {n : Int} : Does Tryz.prog 18 #[.int .i64 n] h (fun u h' => u = .bool (decide (has16 n)) ∧ h' = h) := by
  refine spec_go mixed Tryz.func18 rfl Tryz.results18 (n := Tryz.f18.ntmps) (by kernel_rfl) (by simp) ?_
  simp only [go_sem, simprocAttr]
  by_cases h0 : 0 ≤ n
  · simp only [go_sem, simprocAttr, h0, decide_true]
    refine bool_ext ?_
    rw [dec_t, dec_t]
    unfold has16
    omega
  · simp only [go_sem, simprocAttr, h0, decide_false]
    refine bool_ext ?_
    rw [dec_t]
    unfold has16
    simp; omega
theorem flushLaw_ok {ns : List Int} {xs : List VAct} {w1 w2 w3 : Value} {cr : List Int} (hs : Ints (· < h.next) h ns w1) (hx : IsSl rVAct (· < h.next) h xs w2) (hc : Ints (· < h.next) h cr w3) : Does Tryz.prog 7 #[w1, w2, w3] h (fun u _ => u = .bool true) := by
  obtain ⟨a1, c1, rfl⟩ := hs.shape
  obtain ⟨a3, c3, rfl⟩ := hc.shape
  refine spec_go mixed Tryz.func7 rfl Tryz.results7 (n := Tryz.f7.ntmps) (by kernel_rfl) (by simp) ?_
  simp only [go_sem, simprocAttr]
  refine cl_spec (start_ok hs) (fun _ _ _ hc => absurd hc (by decide +kernel)) ?_
  rintro u k ⟨q, ⟨id, ow, v, rfl, sc⟩ | ⟨e, he, rfl⟩⟩
  rotate_left
  · simp only [go_sem, simprocAttr, he]
    refine cl_spec (valive_ok k) (fun _ _ _ hc => absurd hc (by decide +kernel)) ?_
    rintro u k1 ⟨rfl, q1⟩
    simp only [go_sem, simprocAttr]
  simp only [go_sem, simprocAttr]
  refine cl_spec (valive_ok k) (fun _ _ _ hc => absurd hc (by decide +kernel)) ?_
  rintro u k1 ⟨rfl, q1⟩
  have sc1 := sc.quiet q1
  generalize cutO ow k = ow1 at sc1
  simp only [go_sem, simprocAttr]
  refine cl_spec (vshort_ok (hx.mono (S' := (· < h.next)) (h' := k1) fun j hj _ => ⟨hj, sc1.q.2 j hj⟩)) (fun _ _ _ hc => absurd hc (by decide +kernel)) ?_
  rintro u k1' ⟨hx1, rfl⟩
  have hxl : (xs.take 300).length ≤ 300 := by rw [List.length_take]; omega
  have hx2 : IsSl rVAct (· < h.next) h (xs.take 300) u := hx1.mono fun j hj _ => ⟨hj, (sc1.q.2 j hj).symm⟩
  obtain ⟨a2, c2, rfl⟩ := hx2.shape
  generalize xs.take 300 = ys at hx1 hx2 hxl
  simp only [go_sem, simprocAttr]
  refine go_cutb (fun ρ k => ∃ (ow : Nat → Nat → Nat) (v : Vm), Sc h id 6000 ow k v ∧ ρ 7 = .pointer (some ⟨id, 0, none⟩) ∧ ρ 2 = .slice a3 cr.length c3) ?_ ?_
  · refine go_loop (fun z ρ k => ∃ (i : Nat) (ow : Nat → Nat → Nat) (v : Vm), i ≤ ys.length ∧ z = ys.length - i ∧ Sc h id (20 * i) ow k v ∧ ρ 7 = .pointer (some ⟨id, 0, none⟩) ∧ ρ 34 = .slice a2 ys.length c2 ∧ ρ 35 = .int .i64 ys.length ∧ ρ 36 = .int .i64 i ∧ ρ 2 = .slice a3 cr.length c3) ys.length
      ⟨0, ow1, v, by omega, by omega, sc1, by simp only [go_sem, simprocAttr]⟩ ?_
    rintro z ρ k2 ⟨i, ow2, v2, hi, rfl, s2, rp, ra, rb, rc, rk⟩
    simp only [go_sem, simprocAttr, rp, ra, rb, rc, rk]
    refine cnd_decide (fun hy => ?_) (fun hy => ?_)
    · have h1 : i < ys.length := by omega
      have e36 : IntKind.i64.wrap ((i : Int) + 1) = ((i + 1 : Nat) : Int) := by rw [wi64] <;> omega
      obtain ⟨b0, off, sp, cc, md, x, d, w, hA, hg, hxi, hd, hw, hxI, hle, hdt⟩ := s2.actAt hx2 h1
      subst hA
      obtain ⟨ad, cd, rfl⟩ := hd.shape
      obtain ⟨aw, cw, rfl⟩ := hw.shape
      simp only [go_sem, simprocAttr, rp, ra, rc, h1, hg, hle, hdt, va_len, va_one, va_take, va_put]
      have qp : k2.quiet (k2.push (.cells (x.cs (.slice ad x.op.data.length cd) (.slice aw x.keep.length cw)) .rw)) := .push _ _
      refine cl_spec ((s2.quiet qp).does (by omega) hxI (hd.mono fun j hj hl => ⟨hj, qp.2 j hl⟩) (hw.mono fun j hj hl => ⟨hj, qp.2 j hl⟩)) (fun _ _ _ hc => absurd hc (by decide +kernel)) ?_
      rintro u k7 ⟨rfl, ow7, s7, vk7⟩
      simp only [go_sem, simprocAttr, rc, e36]
      exact Hold.mk ⟨ys.length - (i + 1), by omega, i + 1, ow7, _, by omega, rfl, s7, by simp only [go_sem, simprocAttr, rp, ra, rb, rk]⟩
    · simp only [go_sem, simprocAttr]
      exact Hold.mk ⟨ow2, v2, s2.more (by omega), by simp only [go_sem, simprocAttr, rp, rk]⟩
  · rintro ρ k2 ⟨ow2, v2, s2, rp, rk⟩
    simp only [go_sem, simprocAttr, rp, rk]
    refine cl_spec (vFlush_ok s2.at_ (ns := []) (w := .slice none 0 0) (IsSl.nil _ _ _) (fun j e => by cases e) (by decide)) (fun _ _ _ hc => absurd hc (by decide +kernel)) ?_
    rintro u k3 ⟨rfl, ow3, a4, vk3⟩
    have hfl : v2.flush [] = (0, v2.flushL (List.range 16)) := rfl
    rw [hfl] at a4 ⊢
    have s3 := s2.step a4 vk3 (flushL_good _ _ s2.good) (by rw [(flushL_like (List.range 16) v2).1])
    have f3 : ∀ k, k < 16 → ((v2.flushL (List.range 16)).sh k).firm := fun k hk => flushL_firm _ _ _ (.inl (List.mem_range.2 hk))
    dsimp only at s3
    generalize v2.flushL (List.range 16) = v3 at s3 f3
    simp only [go_sem, simprocAttr, rp]
    refine cl_spec s3.map (fun _ _ _ hc => absurd hc (by decide +kernel)) ?_
    rintro u k4 ⟨am, cm, rfl, _, q4⟩
    simp only [go_sem, simprocAttr, Pl.mapV, rp]
    refine cl_spec ((s3.quiet q4).read rfl) (fun _ _ _ hc => absurd hc (by decide +kernel)) ?_
    rintro u k5 ⟨ax, cx, rfl, hwx, q5⟩
    have s5 := s3.quiet (q4.trans q5)
    have hid5 := s3.at_.lt
    have hwx5 : Words (fun j => fr (cutO ow3 k3) j ∧ j ≠ id) k5 v3.shows (.slice ax v3.shows.length cx) := hwx.weaken fun j hj => ⟨cutO_ge (by have := q4.1; omega), by have := q4.1; omega⟩
    generalize cutO ow3 k3 = ow5 at s5 hwx5
    have hc5 : Ints (· < h.next) k5 cr (.slice a3 cr.length c3) := hc.mono fun j hj _ => ⟨hj, s5.q.2 j hj⟩
    obtain ⟨a6, c6, es, hs6⟩ := hc.sliceI 1 rfl (l := 0) (m := min (cr.length : Int) 100) (by omega) (by omega) (by omega)
    have e1 : (min (cr.length : Int) 100).toNat - ((0 : Int)).toNat = (cr.take 100).length := by simp only [List.length_take]; omega
    have e2 : (cr.drop ((0 : Int)).toNat).take (cr.take 100).length = cr.take 100 := by
      rw [show ((0 : Int)).toNat = 0 from rfl, List.drop_zero, List.length_take, List.take_eq_take_iff]; omega
    rw [e1] at es hs6
    rw [e2] at hs6
    have hcl : (cr.take 100).length ≤ 100 := by rw [List.length_take]; omega
    simp only [go_sem, simprocAttr, rk, es, rp]
    generalize cr.take 100 = zs at hs6 hcl es
    refine go_cutb (fun ρ k => ∃ (ow : Nat → Nat → Nat) (v : Vm), Sc h id 6000 ow k v ∧ v3.like v ∧ Words (fun j => fr ow j ∧ j ≠ id) k v3.shows (.slice ax v3.shows.length cx) ∧ ρ 7 = .pointer (some ⟨id, 0, none⟩) ∧ ρ 11 = .slice ax v3.shows.length cx ∧ ρ 12 = .int .i64 0) ?_ ?_
    · refine go_loop (fun z ρ k => ∃ (i : Nat) (ow : Nat → Nat → Nat) (v : Vm), i ≤ zs.length ∧ z = zs.length - i ∧ Sc h id 6000 ow k v ∧ v3.like v ∧ (∀ k, k < 16 → (v.sh k).firm) ∧ Words (fun j => fr ow j ∧ j ≠ id) k v3.shows (.slice ax v3.shows.length cx) ∧ ρ 7 = .pointer (some ⟨id, 0, none⟩) ∧ ρ 11 = .slice ax v3.shows.length cx ∧ ρ 12 = .int .i64 0 ∧
        ρ 59 = .slice a6 zs.length c6 ∧ ρ 60 = .int .i64 zs.length ∧ ρ 61 = .int .i64 i) zs.length ⟨0, ow5, v3, by omega, by omega, s5, .refl _, f3, hwx5, by simp only [go_sem, simprocAttr, rp]⟩ ?_
      rintro z ρ k6 ⟨i, ow6, v6, hi, rfl, s6, l6, f6, hw6, rp, r11, r12, r59, r60, r61⟩
      simp only [go_sem, simprocAttr, rp, r11, r12, r59, r60, r61]
      refine cnd_decide (fun hy => ?_) (fun hy => ?_)
      · have h1 : i < zs.length := by omega
        have e61 : IntKind.i64.wrap ((i : Int) + 1) = ((i + 1 : Nat) : Int) := by rw [wi64] <;> omega
        obtain ⟨b0, off, sp, cc, md, x, hA, _, hgx, hxi, hxI, hdt⟩ := (hs6.mono (S' := (· < h.next)) (h' := k6) fun j hj _ => ⟨hj, s6.q.2 j hj⟩).atI h1
        subst hA
        simp only [go_sem, simprocAttr, rp, r59, r61, h1, hgx, hdt]
        have qb : k6.quiet (k6.push (.cells [.bool true, .bool true] .rw)) := .push _ _
        have hks : IsSl .bool (fr (cutO ow6 k6)) (k6.push (.cells [.bool true, .bool true] .rw)) [true, true] (.slice (some ⟨k6.next, 0, none⟩) 2 2) :=
          ⟨_, 2, [[.bool true], [.bool true]], rfl, Nat.le_refl _, by decide, (fun e => by cases e), (fun ad e => by cases e; exact .inl rfl), .cons rfl (.cons rfl .nil), fun _ => ⟨_, _, _, rfl, cutO_ge (Nat.le_refl _), AHeap.get_push_self _ _, Nat.le_refl 2, rfl⟩⟩
        have s7 := s6.quiet qb
        have hw7 : Words (fun j => fr (cutO ow6 k6) j ∧ j ≠ id) (k6.push (.cells [.bool true, .bool true] .rw)) v3.shows (.slice ax v3.shows.length cx) := hw6.mono fun j hj hl => ⟨⟨fr_cut hj.1, hj.2⟩, qb.2 j hl⟩
        refine cl_spec (vCrash_ok s7.at_ s7.good (by decide) (node := x) hks) (fun _ _ _ hc => absurd hc (by decide +kernel)) ?_
        rintro u k8 ⟨rfl, ow8, a8, vk8⟩
        obtain ⟨lk, fk⟩ := firm_crash f6 x [true, true]
        have s8 := s7.step a8 vk8 (crash_good s7.good (by decide) x [true, true]) (by rw [lk.1])
        have hw8 := hw7.mono fun j hj hl => vk8.same j hj hl
        simp only [go_sem, simprocAttr]
        refine cl_spec vhas_ok (fun _ _ _ hc => absurd hc (by decide +kernel)) ?_
        rintro u k9 ⟨rfl, rfl⟩
        have ec : decide ((v6.crash x [true, true]).1 = 0) = decide (has16 x) := by
          unfold Vm.crash
          by_cases hh : has16 x
          · rw [if_pos hh]; simp [hh]
          · rw [if_neg hh]; simp [hh]
        simp only [go_sem, simprocAttr, ec, r61, e61]
        exact Hold.mk ⟨zs.length - (i + 1), by omega, i + 1, ow8, _, by omega, rfl, s8, l6.trans lk, fk, hw8, by simp only [go_sem, simprocAttr, rp, r11, r12, r59, r60]⟩
      · simp only [go_sem, simprocAttr]
        exact Hold.mk ⟨ow6, v6, s6, l6, hw6, by simp only [go_sem, simprocAttr, rp, r11, r12]⟩
    · rintro ρ k6 ⟨ow6, v6, s6, l6, hw6, rp, r11, r12⟩
      simp only [go_sem, simprocAttr, rp, r11, r12]
      refine cl_spec s6.map (fun _ _ _ hc => absurd hc (by decide +kernel)) ?_
      rintro u k7 ⟨an, cn, rfl, _, q7⟩
      simp only [go_sem, simprocAttr, Pl.mapV, rp]
      refine cl_spec ((s6.quiet q7).read rfl) (fun _ _ _ hc => absurd hc (by decide +kernel)) ?_
      rintro u k8 ⟨ay, cy, rfl, hwy, q8⟩
      simp only [go_sem, simprocAttr, r11, r12]
      refine cl_spec (Words_ok (hw6.quiet (q7.trans q8)) hwy) (fun _ _ _ hc => absurd hc (by decide +kernel)) ?_
      rintro u k9 ⟨rfl, rfl⟩
      rw [decide_eq_true (l6.shows s3.good).symm]
      simp only [go_sem, simprocAttr]
end
end Go.Proofs.YtedpfdflolkpeaaGreatDoor
