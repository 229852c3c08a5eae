/- volume: the law Late. -/
import Derived.Test.YtedpfdflolkpeaaGreatDoorVoM
set_option linter.unusedSimpArgs false
set_option linter.unusedVariables false
set_option linter.unnecessarySimpa false
set_option maxRecDepth 100000
namespace Go.Proofs.YtedpfdflolkpeaaGreatDoor
open Go.AM
section
variable {ow ow' ow'' : Nat → Nat → Nat} {h k k' : AHeap} {id n : Nat} {v : Vm} {S : Nat → Prop} {b : Nat}
theorem lateLaw_ok {ns : List Int} {xs : List VAct} {w1 w2 : Value} (hs : Ints (· < h.next) h ns w1) (hx : IsSl rVAct (· < h.next) h xs w2) : Does Tryz.prog 4 #[w1, w2] h (fun u _ => u = .bool true) := by
  obtain ⟨a1, c1, rfl⟩ := hs.shape
  refine spec_go mixed Tryz.func4 rfl Tryz.results4 (n := Tryz.f4.ntmps) (by kernel_rfl) (by simp) ?_
  simp only [go_sem, simprocAttr]
  refine cl_spec (start_ok hs) (fun _ _ _ hc => absurd hc (by decide +kernel)) ?_
  rintro u k ⟨q, ⟨id, ow, v, rfl, sc⟩ | ⟨e, he, rfl⟩⟩
  rotate_left
  · simp only [go_sem, simprocAttr, he]
    refine cl_spec (valive_ok k) (fun _ _ _ hc => absurd hc (by decide +kernel)) ?_
    rintro u k1 ⟨rfl, q1⟩
    simp only [go_sem, simprocAttr]
  simp only [go_sem, simprocAttr]
  refine cl_spec (valive_ok k) (fun _ _ _ hc => absurd hc (by decide +kernel)) ?_
  rintro u k1 ⟨rfl, q1⟩
  have sc1 := sc.quiet q1
  generalize cutO ow k = ow1 at sc1
  simp only [go_sem, simprocAttr]
  refine cl_spec (vshort_ok (hx.mono (S' := (· < h.next)) (h' := k1) fun j hj _ => ⟨hj, sc1.q.2 j hj⟩)) (fun _ _ _ hc => absurd hc (by decide +kernel)) ?_
  rintro u k1' ⟨hx1, rfl⟩
  have hxl : (xs.take 300).length ≤ 300 := by rw [List.length_take]; omega
  have hx2 : IsSl rVAct (· < h.next) h (xs.take 300) u := hx1.mono fun j hj _ => ⟨hj, (sc1.q.2 j hj).symm⟩
  obtain ⟨a2, c2, rfl⟩ := hx2.shape
  generalize xs.take 300 = ys at hx1 hx2 hxl
  simp only [go_sem, simprocAttr]
  refine go_loop (fun z ρ k => ∃ (i : Nat) (ow : Nat → Nat → Nat) (v : Vm), i ≤ ys.length ∧ z = ys.length - i ∧ Sc h id (20 * i) ow k v ∧ ρ 5 = .pointer (some ⟨id, 0, none⟩) ∧ ρ 32 = .slice a2 ys.length c2 ∧ ρ 33 = .int .i64 ys.length ∧ ρ 34 = .int .i64 i) ys.length
    ⟨0, ow1, v, by omega, by omega, sc1, by simp only [go_sem, simprocAttr]⟩ ?_
  rintro z ρ k2 ⟨i, ow2, v2, hi, rfl, s2, r5, r32, r33, r34⟩
  simp only [go_sem, simprocAttr, r5, r32, r33, r34]
  refine cnd_decide (fun hy => ?_) (fun hy => ?_)
  · have h1 : i < ys.length := by omega
    have e34 : IntKind.i64.wrap ((i : Int) + 1) = ((i + 1 : Nat) : Int) := by rw [wi64] <;> omega
    obtain ⟨b0, off, sp, cc, md, x, d, w, hA, hg, hxi, hd, hw, hxI, hle, hdt⟩ := s2.actAt hx2 h1
    subst hA
    obtain ⟨ad, cd, rfl⟩ := hd.shape
    obtain ⟨aw, cw, rfl⟩ := hw.shape
    obtain ⟨r, hr⟩ : ∃ r, x.kd % 10 = r := ⟨_, rfl⟩
    have et : ((x.kd : Nat) : Int).tmod 10 = (r : Int) := by rw [← hr]; rfl
    simp only [go_sem, simprocAttr, r5, r32, r34, h1, hg, hle, hdt, va_len, va_one, va_take, va_put]
    have qp : k2.quiet (k2.push (.cells (x.cs (.slice ad x.op.data.length cd) (.slice aw x.keep.length cw)) .rw)) := .push _ _
    have gp : (k2.push (.cells (x.cs (.slice ad x.op.data.length cd) (.slice aw x.keep.length cw)) .rw)).get k2.next = .cells (x.cs (.slice ad x.op.data.length cd) (.slice aw x.keep.length cw)) .rw := by simp
    have lp : k2.next < (k2.push (.cells (x.cs (.slice ad x.op.data.length cd) (.slice aw x.keep.length cw)) .rw)).next := by simp
    generalize k2.push (.cells (x.cs (.slice ad x.op.data.length cd) (.slice aw x.keep.length cw)) .rw) = k3 at qp gp lp
    refine cl_spec (s2.quiet qp).map (fun _ _ _ hc => absurd hc (by decide +kernel)) ?_
    rintro u k4 ⟨am, cm, rfl, _, q4⟩
    have g4 := (q4.2 _ lp).trans gp
    have l4 := Nat.lt_of_lt_of_le lp q4.1
    simp only [go_sem, simprocAttr, Pl.mapV, r5]
    have qm : k4.quiet (k4.push (.cells [.int .i64 v2.mp.ver, .int .i64 v2.mp.n, .slice am v2.mp.ps.length cm] .rw)) := .push _ _
    have gm : (k4.push (.cells [.int .i64 v2.mp.ver, .int .i64 v2.mp.n, .slice am v2.mp.ps.length cm] .rw)).get k4.next = .cells [.int .i64 v2.mp.ver, .int .i64 v2.mp.n, .slice am v2.mp.ps.length cm] .rw := by simp
    have lm : k4.next < (k4.push (.cells [.int .i64 v2.mp.ver, .int .i64 v2.mp.n, .slice am v2.mp.ps.length cm] .rw)).next := by simp
    generalize k4.push (.cells [.int .i64 v2.mp.ver, .int .i64 v2.mp.n, .slice am v2.mp.ps.length cm] .rw) = k5 at qm gm lm
    have q25 := (qp.trans q4).trans qm
    refine cl_spec ((s2.quiet q25).read rfl) (fun _ _ _ hc => absurd hc (by decide +kernel)) ?_
    rintro u k6 ⟨ax, cx, rfl, hwx, q6⟩
    have g6 := ((qm.trans q6).2 _ l4).trans g4
    have l6 := Nat.lt_of_lt_of_le l4 (qm.trans q6).1
    have gm6 := (q6.2 _ lm).trans gm
    have lm6 := Nat.lt_of_lt_of_le lm q6.1
    have s6 := s2.quiet (q25.trans q6)
    have hid2 := s2.at_.lt
    have fx : fr (cutO ow2 k2) k2.next ∧ k2.next ≠ id := ⟨cutO_ge (Nat.le_refl _), by omega⟩
    have fm : fr (cutO ow2 k2) k4.next ∧ k4.next ≠ id := ⟨cutO_ge (by have := qp.1; have := q4.1; omega), by have := qp.1; have := q4.1; omega⟩
    have hwx6 : Words (fun j => fr (cutO ow2 k2) j ∧ j ≠ id) k6 v2.shows (.slice ax v2.shows.length cx) := hwx.weaken fun j hj => ⟨cutO_ge (by have := q25.1; omega), by have := q25.1; omega⟩
    have hd6 : Words (fun j => j < h.next) k6 x.op.data (.slice ad x.op.data.length cd) := hd.mono fun j hj hl => ⟨hj, (q25.trans q6).2 j hl⟩
    have hw6 : IsSl .bool (fun j => j < h.next) k6 x.keep (.slice aw x.keep.length cw) := hw.mono fun j hj hl => ⟨hj, (q25.trans q6).2 j hl⟩
    generalize cutO ow2 k2 = ow6 at s6 fx fm hwx6
    simp only [go_sem, simprocAttr, r5, g6, va_len, va_take]
    refine cl_spec (s6.does (by omega) hxI hd6 hw6) (fun _ _ _ hc => absurd hc (by decide +kernel)) ?_
    rintro u k7 ⟨rfl, ow7, s7, vk7⟩
    have g7 := (vk7.same _ fx l6).2.trans g6
    have gm7 := (vk7.same _ fm lm6).2.trans gm6
    have hwx7 := hwx6.mono fun j hj hl => vk7.same j hj hl
    have sh := act_shows s2.good (a := x) (by omega)
    obtain ⟨v7, hv7⟩ : ∃ v7, (v2.act x).2 = v7 := ⟨_, rfl⟩
    obtain ⟨e7, he7⟩ : ∃ e7, (v2.act x).1 = e7 := ⟨_, rfl⟩
    have hlate := act_late s2.good (a := x) hxI.1
    rw [hv7] at s7
    rw [hv7, he7] at sh
    rw [he7] at hlate
    rw [he7]
    by_cases h0 : e7 = 0
    · by_cases hl0 : x.late = 0
      · simp only [go_sem, simprocAttr, g7, va_0, va_1, et, hl0, h0, r34, e34]
        exact Hold.mk ⟨ys.length - (i + 1), by omega, i + 1, _, _, by omega, rfl, s7, by simp only [go_sem, simprocAttr, r5, r32, r33]⟩
      · have hr0 : ¬ (r : Int) = 0 := fun e => by have := hlate hl0 (by omega); omega
        have hr9 : ¬ (r : Int) = 9 := fun e => by have := hlate hl0 (by omega); omega
        simp only [go_sem, simprocAttr, g7, va_0, va_1, et, hl0, h0, hr0, hr9, decide_true, decide_false, r34, e34]
        exact Hold.mk ⟨ys.length - (i + 1), by omega, i + 1, _, _, by omega, rfl, s7, by simp only [go_sem, simprocAttr, r5, r32, r33]⟩
    · obtain ⟨sh1, sh2⟩ := sh (.inl h0)
      rw [if_neg (fun e => h0 e.2.2), Int.add_zero] at sh2
      by_cases hl0 : x.late = 0
      · simp only [go_sem, simprocAttr, g7, gm7, va_0, va_1, et, hl0, h0, r5]
        refine cl_spec (s7.read sh2.symm) (fun _ _ _ hc => absurd hc (by decide +kernel)) ?_
        rintro u k8 ⟨ay, cy, rfl, hwy, q8⟩
        simp only [go_sem, simprocAttr]
        refine cl_spec (Words_ok (hwx7.quiet q8) hwy) (fun _ _ _ hc => absurd hc (by decide +kernel)) ?_
        rintro u k9 ⟨rfl, rfl⟩
        rw [decide_eq_true sh1.symm]
        simp only [go_sem, simprocAttr, r34, e34]
        exact Hold.mk ⟨ys.length - (i + 1), by omega, i + 1, _, _, by omega, rfl, s7.quiet q8, by simp only [go_sem, simprocAttr, r5, r32, r33]⟩
      by_cases hr0 : (r : Int) = 0
      · have e13 := hlate hl0 (by omega)
        simp only [go_sem, simprocAttr, g7, gm7, va_0, va_1, et, hl0, h0, hr0, e13, r5]
        refine cl_spec (s7.read sh2.symm) (fun _ _ _ hc => absurd hc (by decide +kernel)) ?_
        rintro u k8 ⟨ay, cy, rfl, hwy, q8⟩
        simp only [go_sem, simprocAttr]
        refine cl_spec (Words_ok (hwx7.quiet q8) hwy) (fun _ _ _ hc => absurd hc (by decide +kernel)) ?_
        rintro u k9 ⟨rfl, rfl⟩
        rw [decide_eq_true sh1.symm]
        simp only [go_sem, simprocAttr, r34, e34]
        exact Hold.mk ⟨ys.length - (i + 1), by omega, i + 1, _, _, by omega, rfl, s7.quiet q8, by simp only [go_sem, simprocAttr, r5, r32, r33]⟩
      by_cases hr9 : (r : Int) = 9
      · have e13 := hlate hl0 (by omega)
        simp only [go_sem, simprocAttr, g7, gm7, va_0, va_1, et, hl0, h0, hr0, hr9, e13, r5, decide_true, decide_false]
        refine cl_spec (s7.read sh2.symm) (fun _ _ _ hc => absurd hc (by decide +kernel)) ?_
        rintro u k8 ⟨ay, cy, rfl, hwy, q8⟩
        simp only [go_sem, simprocAttr]
        refine cl_spec (Words_ok (hwx7.quiet q8) hwy) (fun _ _ _ hc => absurd hc (by decide +kernel)) ?_
        rintro u k9 ⟨rfl, rfl⟩
        rw [decide_eq_true sh1.symm]
        simp only [go_sem, simprocAttr, r34, e34]
        exact Hold.mk ⟨ys.length - (i + 1), by omega, i + 1, _, _, by omega, rfl, s7.quiet q8, by simp only [go_sem, simprocAttr, r5, r32, r33]⟩
      · simp only [go_sem, simprocAttr, g7, gm7, va_0, va_1, et, hl0, h0, hr0, hr9, r5, decide_true, decide_false]
        refine cl_spec (s7.read sh2.symm) (fun _ _ _ hc => absurd hc (by decide +kernel)) ?_
        rintro u k8 ⟨ay, cy, rfl, hwy, q8⟩
        simp only [go_sem, simprocAttr]
        refine cl_spec (Words_ok (hwx7.quiet q8) hwy) (fun _ _ _ hc => absurd hc (by decide +kernel)) ?_
        rintro u k9 ⟨rfl, rfl⟩
        rw [decide_eq_true sh1.symm]
        simp only [go_sem, simprocAttr, r34, e34]
        exact Hold.mk ⟨ys.length - (i + 1), by omega, i + 1, _, _, by omega, rfl, s7.quiet q8, by simp only [go_sem, simprocAttr, r5, r32, r33]⟩
  · simp only [go_sem, simprocAttr]
end
end Go.Proofs.YtedpfdflolkpeaaGreatDoor
