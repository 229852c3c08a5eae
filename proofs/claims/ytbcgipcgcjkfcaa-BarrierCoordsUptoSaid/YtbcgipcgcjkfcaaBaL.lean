/- barrier: the law BarrierCoords. -/
import Derived.Test.YtbcgipcgcjkfcaaBaK
set_option linter.unusedSimpArgs false
set_option linter.unusedVariables false
set_option linter.unnecessarySimpa false
set_option maxRecDepth 100000
namespace Go.Proofs.Ytbcgipcgcjkfcaa
open Go.AM

section
variable {h : AHeap} {S Z : Nat → Prop}

theorem newRc_ok {n : Int} : Does Try.prog 11 #[.int .i64 n] h
    (fun u h' => h.quiet h' ∧ ((1 ≤ n ∧ n ≤ 16 ∧ ∃ ba, u = .tuple #[.agg #[.slice (some ⟨ba, 0, none⟩) n.toNat n.toNat, .int .i64 0, .int .i64 0, .slice none 0 0, .slice none 0 0], .int .i64 0] ∧ h.next ≤ ba ∧ h'.get ba = .cells ((List.replicate n.toNat false).map .bool) .rw) ∨
      ((n < 1 ∨ 16 < n) ∧ u = .tuple #[.agg #[.slice none 0 0, .int .i64 0, .int .i64 0, .slice none 0 0, .slice none 0 0], .int .i64 1]))) := by
  refine spec_go mixed Try.func11 rfl Try.results11 (n := Try.f11.ntmps) (by kernel_rfl) (by simp) ?_
  by_cases h1 : n < 1
  · simp only [go_sem, simprocAttr, decide_eq_true h1]
    exact .inr (.inl h1)
  · by_cases h2 : 16 < n
    · simp only [go_sem, simprocAttr, decide_eq_false h1, decide_eq_true h2]
      exact .inr (.inr h2)
    · have m1 : 1 * n ≤ 281474976710656 := by omega
      have m2 : n ≤ 281474976710656 := by omega
      have m3 : 0 ≤ n := by omega
      simp only [go_sem, simprocAttr, decide_eq_false h1, decide_eq_false h2, m1, m2, m3, Int.le_refl, true_and, azeros_bool]
      refine .inl ⟨by omega, by omega, h.next + 1, rfl, by omega, ?_⟩
      simp only [go_sem, simprocAttr]

theorem orders_ok {xs : List (Int × Int × Int)} {v w : Value} (hx : IsSl rOrd S h xs v) (hy : IsSl rOrd S h xs w) : Does Try.prog 15 #[v, w] h (fun u h' => u = .bool true ∧ h' = h) := by
  obtain ⟨a, c, rfl⟩ := hx.shape
  obtain ⟨a2, c2, rfl⟩ := hy.shape
  have hlen := hx.len
  refine spec_go mixed Try.func15 rfl Try.results15 (n := Try.f15.ntmps) (by kernel_rfl) (by simp) ?_
  simp only [go_sem, simprocAttr]
  refine go_loop (fun z ρ k => ∃ i : Nat, i ≤ xs.length ∧ z = xs.length - i ∧ h = k ∧ ρ 0 = .slice a xs.length c ∧ ρ 1 = .slice a2 xs.length c2 ∧ ρ 12 = .int .i64 xs.length ∧ ρ 13 = .int .i64 i) xs.length ⟨0, by omega, by omega, rfl, by simp only [go_sem, simprocAttr]⟩ ?_
  rintro z ρ _ ⟨i, hi, rfl, rfl, r0, r1, r12, r13⟩
  simp only [go_sem, simprocAttr, r0, r1, r12, r13]
  refine cnd_decide (fun hb => ?_) (fun hb => ?_)
  · have h1 : i < xs.length := by omega
    have e9 : IntKind.i64.wrap ((i : Int) + 1) = ((i + 1 : Nat) : Int) := by rw [wi64] <;> omega
    obtain ⟨b, off, sp, cc, md, cs, x, hA, _, hg, hx2, hr, hle, hdt⟩ := hx.at 3 rfl h1
    obtain ⟨b2, off2, sp2, cc2, md2, cs2, x2, hA2, _, hg2, hy2, hr2, hle2, hdt2⟩ := hy.at 3 rfl h1
    rw [hx2] at hy2; cases hy2
    obtain ⟨rfl, _⟩ := rOrd_iff.1 hr
    obtain ⟨rfl, _⟩ := rOrd_iff.1 hr2
    have r0' : ρ 0 = .slice (some ⟨b, off, sp⟩) xs.length c := by rw [r0, hA]
    have r1' : ρ 1 = .slice (some ⟨b2, off2, sp2⟩) xs.length c2 := by rw [r1, hA2]
    have c0 : cc[off + i * 3]? = some (.int .i64 x.1) := seg_get hdt (k := 0) (by omega)
    have c1 : cc[off + i * 3 + 1]? = some (.int .i64 x.2.1) := seg_get hdt (k := 1) (by omega)
    have c2' : cc[off + i * 3 + 2]? = some (.int .i64 x.2.2) := seg_get hdt (k := 2) (by omega)
    have d0 : cc2[off2 + i * 3]? = some (.int .i64 x.1) := seg_get hdt2 (k := 0) (by omega)
    have d1 : cc2[off2 + i * 3 + 1]? = some (.int .i64 x.2.1) := seg_get hdt2 (k := 1) (by omega)
    have d2 : cc2[off2 + i * 3 + 2]? = some (.int .i64 x.2.2) := seg_get hdt2 (k := 2) (by omega)
    simp only [go_sem, simprocAttr, r0', r1', r12, r13, hb, hg, hg2, c0, c1, c2', d0, d1, d2, e9]
    exact Hold.mk ⟨xs.length - (i + 1), by omega, i + 1, by omega, rfl, rfl, by simp only [go_sem, simprocAttr, r0, r1, r12]⟩
  · simp only [go_sem, simprocAttr]
end
end Go.Proofs.Ytbcgipcgcjkfcaa
