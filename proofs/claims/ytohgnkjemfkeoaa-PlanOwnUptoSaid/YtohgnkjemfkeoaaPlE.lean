/- plan: comparing. -/
import Derived.Test.YtohgnkjemfkeoaaPlC
import Derived.Test.YtohgnkjemfkeoaaPlA
set_option linter.unusedSimpArgs false
set_option linter.unusedVariables false
set_option linter.unnecessarySimpa false
set_option maxRecDepth 100000
namespace Go.Proofs.Ytohgnkjemfkeoaa
open Go.AM

theorem take_eq_step {α : Type} {xs ys : List α} {i : Nat} {x y : α} (h : xs.take i = ys.take i) (hx : xs[i]? = some x) (hy : ys[i]? = some y) : (x = y → xs.take (i + 1) = ys.take (i + 1)) ∧ (x ≠ y → xs ≠ ys) := by
  refine ⟨fun e => by rw [List.take_add_one, List.take_add_one, h, hx, hy, e], fun hn e => hn ?_⟩
  subst e; rw [hx] at hy; exact Option.some.inj hy
theorem Op.ext' {x y : Op} (h1 : x.kind = y.kind) (h2 : x.off = y.off) (h3 : x.len = y.len) (h4 : x.data = y.data) : x = y := by
  cases x; cases y; simp_all
theorem Part.ext' {x y : Part} (h1 : x.piece = y.piece) (h2 : x.node = y.node) (h3 : x.op = y.op) : x = y := by
  cases x; cases y; simp_all

section
variable {h : AHeap} {S : Nat → Prop}

theorem Words_ok {xs ys : List Nat} {v w : Value} (hx : Words S h xs v) (hy : Words S h ys w) : Does Try.prog 15 #[v, w] h (fun u h' => u = .bool (decide (xs = ys)) ∧ h' = h) := by
  obtain ⟨a, c, rfl⟩ := hx.shape
  obtain ⟨a2, c2, rfl⟩ := hy.shape
  have l1 := hx.len
  refine spec_go mixed Try.func15 rfl Try.results15 (n := Try.f15.ntmps) (by kernel_rfl) (by simp) ?_
  simp only [go_sem, simprocAttr]
  by_cases hl : xs.length = ys.length
  · have hl' : ((xs.length : Nat) : Int) = ys.length := by omega
    simp only [go_sem, simprocAttr, hl', decide_true]
    refine go_loop (fun z ρ k => ∃ i : Nat, i ≤ xs.length ∧ z = xs.length - i ∧ k = h ∧ xs.take i = ys.take i ∧ ρ 0 = .slice a xs.length c ∧ ρ 1 = .slice a2 ys.length c2 ∧ ρ 5 = .int .i64 i) xs.length ⟨0, by omega, by omega, rfl, rfl, by simp only [go_sem, simprocAttr]⟩ ?_
    rintro z ρ k ⟨i, hi, rfl, rfl, ht, r0, r1, r5⟩
    simp only [go_sem, simprocAttr, r0, r1, r5]
    refine cnd_decide (fun hx' => ?_) (fun hx' => ?_)
    · have h1 : i < xs.length := by omega
      have h2 : i < ys.length := by omega
      obtain ⟨b, off, sp, cc, md, x, rfl, _, hg, hxi, hmx, hc⟩ := hx.atN h1
      obtain ⟨b2, off2, sp2, cc2, md2, y, rfl, _, hg2, hyi, hmy, hc2⟩ := hy.atN h2
      have e9 : IntKind.i64.wrap ((i : Int) + 1) = ((i + 1 : Nat) : Int) := by rw [wi64] <;> omega
      obtain ⟨s1, s2⟩ := take_eq_step ht hxi hyi
      by_cases e : x = y
      · subst e
        simp only [go_sem, simprocAttr, r0, r1, r5, h1, h2, hg, hc, hg2, hc2, e9, decide_true]
        exact Hold.mk ⟨xs.length - (i + 1), by omega, i + 1, by omega, rfl, rfl, s1 rfl, by simp only [go_sem, simprocAttr, r0, r1]⟩
      · have e' : ¬ ((x : Nat) : Int) = y := by omega
        simp only [go_sem, simprocAttr, r0, r1, r5, h1, h2, hg, hc, hg2, hc2, e9, e', decide_false]
        exact congrArg Value.bool (decide_eq_false (s2 e)).symm
    · have : i = xs.length := by omega
      subst this
      rw [List.take_length, hl, List.take_length] at ht
      simp only [go_sem, simprocAttr]
      exact congrArg Value.bool (decide_eq_true ht).symm
  · have hl' : ¬ ((xs.length : Nat) : Int) = ys.length := by omega
    simp only [go_sem, simprocAttr, hl', decide_false]
    exact congrArg Value.bool (decide_eq_false (fun e => hl (by rw [e]))).symm

theorem rSameOps_ok {xs ys : List Op} {v w : Value} (hx : IsSl rOp S h xs v) (hy : IsSl rOp S h ys w) : Does Try.prog 16 #[v, w] h (fun u h' => u = .bool (decide (xs = ys)) ∧ h' = h) := by
  obtain ⟨a, c, rfl⟩ := hx.shape
  obtain ⟨a2, c2, rfl⟩ := hy.shape
  have l1 := hx.len
  refine spec_go mixed Try.func16 rfl Try.results16 (n := Try.f16.ntmps) (by kernel_rfl) (by simp) ?_
  simp only [go_sem, simprocAttr]
  by_cases hl : xs.length = ys.length
  · have hl' : ((xs.length : Nat) : Int) = ys.length := by omega
    simp only [go_sem, simprocAttr, hl', decide_true]
    refine go_loop (fun z ρ k => ∃ i : Nat, i ≤ xs.length ∧ z = xs.length - i ∧ k = h ∧ xs.take i = ys.take i ∧ ρ 0 = .slice a xs.length c ∧ ρ 1 = .slice a2 ys.length c2 ∧ ρ 5 = .int .i64 i) xs.length ⟨0, by omega, by omega, rfl, rfl, by simp only [go_sem, simprocAttr]⟩ ?_
    rintro z ρ k ⟨i, hi, rfl, rfl, ht, r0, r1, r5⟩
    simp only [go_sem, simprocAttr, r0, r1, r5]
    refine cnd_decide (fun hx' => ?_) (fun hx' => ?_)
    · have h1 : i < xs.length := by omega
      have h2 : i < ys.length := by omega
      obtain ⟨b, off, sp, cc, md, x, dx, rfl, _, hg, hxi, hxo, hxd, hle, hdt, f0, f1, f2, f3⟩ := hx.atOp h1
      obtain ⟨b2, off2, sp2, cc2, md2, y, dy, rfl, _, hg2, hyi, hyo, hyd, hle2, hdt2, m0, m1, m2, m3⟩ := hy.atOp h2
      have e9 : IntKind.i64.wrap ((i : Int) + 1) = ((i + 1 : Nat) : Int) := by rw [wi64] <;> omega
      obtain ⟨s1, s2⟩ := take_eq_step ht hxi hyi
      simp only [go_sem, simprocAttr, r0, r1, r5, h1, h2, hg, f0, hg2, m0]
      repeat' (first | (refine gd_split (fun hb => ?_) (fun hb => ?_) <;> simp only [go_sem, simprocAttr, dec_t, dec_f, Bool.not_eq_true', Bool.not_eq_false', Bool.and_eq_true] at hb <;> simp only [go_sem, simprocAttr, r0, r1, r5, h1, h2, hg, f1, f2, f3, hg2, m1, m2, m3, e9, hb]) | (refine cnd_split (fun hb => ?_) (fun hb => ?_) <;> simp only [go_sem, simprocAttr, dec_t, dec_f, Bool.not_eq_true', Bool.not_eq_false', Bool.and_eq_true] at hb <;> simp only [go_sem, simprocAttr, r0, r1, r5, h1, h2, hg, f1, f2, f3, hg2, m1, m2, m3, e9, hb]) | (refine cl_spec (Words_ok hxd hyd) (fun _ _ _ hc => absurd hc (by decide +kernel)) ?_ <;> rintro u h' ⟨rfl, rfl⟩ <;> simp only [go_sem, simprocAttr, r0, r1, r5, h1, h2, hg, f1, f2, f3, hg2, m1, m2, m3, e9]))
      all_goals first | exact congrArg Value.bool (decide_eq_false (s2 (fun e => by subst e; simp_all))).symm | skip
      exact Hold.mk ⟨xs.length - (i + 1), by omega, i + 1, by omega, rfl, rfl, s1 (Op.ext' (by assumption) (by assumption) (by assumption) (by assumption)), by simp only [go_sem, simprocAttr, r0, r1]⟩
    · have : i = xs.length := by omega
      subst this
      rw [List.take_length, hl, List.take_length] at ht
      simp only [go_sem, simprocAttr]
      exact congrArg Value.bool (decide_eq_true ht).symm
  · have hl' : ¬ ((xs.length : Nat) : Int) = ys.length := by omega
    simp only [go_sem, simprocAttr, hl', decide_false]
    exact congrArg Value.bool (decide_eq_false (fun e => hl (by rw [e]))).symm

/-- One op, as a slice of its own. -/
theorem oneOp {o : Op} {d : Value} {k H : AHeap} (ho : o.ok) (hod : Words S k o.data d) (q : k.quiet H) {b : Nat} (hg : H.get b = .cells (opC o d) .rw) : IsSl rOp (fun _ => True) H [o] (.slice (some ⟨b, 0, none⟩) 1 1) :=
  .fresh (css := [opC o d]) (.cons (rOp_iff.2 ⟨d, rfl, ho, (hod.quiet q).weaken fun _ _ => trivial⟩) .nil) rfl (by decide) trivial hg (by simp)

theorem rSame_ok {xs ys : List Part} {v w : Value} (hx : IsSl rPart S h xs v) (hy : IsSl rPart S h ys w) : Does Try.prog 23 #[v, w] h (fun u h' => u = .bool (decide (xs = ys)) ∧ h.quiet h') := by
  obtain ⟨a, c, rfl⟩ := hx.shape
  obtain ⟨a2, c2, rfl⟩ := hy.shape
  have l1 := hx.len
  refine spec_go mixed Try.func23 rfl Try.results23 (n := Try.f23.ntmps) (by kernel_rfl) (by simp) ?_
  simp only [go_sem, simprocAttr]
  by_cases hl : xs.length = ys.length
  · have hl' : ((xs.length : Nat) : Int) = ys.length := by omega
    simp only [go_sem, simprocAttr, hl', decide_true]
    refine go_loop (fun z ρ k => ∃ i : Nat, i ≤ xs.length ∧ z = xs.length - i ∧ h.quiet k ∧ xs.take i = ys.take i ∧ ρ 0 = .slice a xs.length c ∧ ρ 1 = .slice a2 ys.length c2 ∧ ρ 5 = .int .i64 i) xs.length ⟨0, by omega, by omega, .refl _, rfl, by simp only [go_sem, simprocAttr]⟩ ?_
    rintro z ρ k ⟨i, hi, rfl, qk, ht, r0, r1, r5⟩
    simp only [go_sem, simprocAttr, r0, r1, r5]
    refine cnd_decide (fun hx' => ?_) (fun hx' => ?_)
    · have h1 : i < xs.length := by omega
      have h2 : i < ys.length := by omega
      obtain ⟨b, off, sp, cc, md, x, dx, rfl, _, hg, hxi, hx1, hx2, hxo, hxd, hle, hdt, hdo, f0, f1, f2, f3, f4, f5⟩ := (hx.quiet qk).atPart h1
      obtain ⟨b2, off2, sp2, cc2, md2, y, dy, rfl, _, hg2, hyi, hy1, hy2, hyo, hyd, hle2, hdt2, hdo2, m0, m1, m2, m3, m4, m5⟩ := (hy.quiet qk).atPart h2
      have e9 : IntKind.i64.wrap ((i : Int) + 1) = ((i + 1 : Nat) : Int) := by rw [wi64] <;> omega
      obtain ⟨s1, s2⟩ := take_eq_step ht hxi hyi
      have lb2 : b2 < k.next := AHeap.lt_of_alive k (by rw [hg2]; simp)
      have n4 : off + i * 6 + 2 + 4 ≤ cc.length := by omega
      have n5 : off2 + i * 6 + 2 + 4 ≤ cc2.length := by omega
      obtain ⟨ax, cx, rfl⟩ := hxd.shape
      obtain ⟨ay, cy, rfl⟩ := hyd.shape
      simp only [opC] at hdo hdo2
      simp only [go_sem, simprocAttr, r0, r1, r5, h1, h2, hg, f0, hg2, m0]
      repeat' (first | (refine gd_split (fun hb => ?_) (fun hb => ?_) <;> simp only [go_sem, simprocAttr, dec_t, dec_f, Bool.not_eq_true', Bool.not_eq_false', Bool.and_eq_true] at hb <;> simp only [go_sem, simprocAttr, r0, r1, r5, h1, h2, hg, f1, f2, hg2, m1, m2, e9, n4, n5, hdo, hdo2, AHeap.get_push_lt _ _ lb2, hb]) | (refine cnd_split (fun hb => ?_) (fun hb => ?_) <;> simp only [go_sem, simprocAttr, dec_t, dec_f, Bool.not_eq_true', Bool.not_eq_false', Bool.and_eq_true] at hb <;> simp only [go_sem, simprocAttr, r0, r1, r5, h1, h2, hg, f1, f2, hg2, m1, m2, e9, n4, n5, hdo, hdo2, AHeap.get_push_lt _ _ lb2, hb]))
      all_goals first | exact ⟨congrArg Value.bool (decide_eq_false (s2 (fun e => by subst e; simp_all))).symm, qk⟩ | skip
      refine cl_gen fun H eH => ?_
      have qH : k.quiet H := by rw [eH]; simp only [go_sem, simprocAttr]
      have gx : H.get k.next = .cells (opC x.op (.slice ax x.op.data.length cx)) .rw := by rw [eH]; simp only [go_sem, simprocAttr]
      have gy : H.get (k.next + 1) = .cells (opC y.op (.slice ay y.op.data.length cy)) .rw := by rw [eH]; simp only [go_sem, simprocAttr]
      clear eH
      refine cl_spec (rSameOps_ok (oneOp hxo hxd qH gx) (oneOp hyo hyd qH gy)) (fun _ _ _ hc => absurd hc (by decide +kernel)) ?_
      rintro u k2 ⟨rfl, rfl⟩
      rename_i b4 b3
      by_cases eo : x.op = y.op
      · simp only [go_sem, simprocAttr, r0, r1, r5, eo, decide_true, e9]
        exact Hold.mk ⟨xs.length - (i + 1), by omega, i + 1, by omega, rfl, qk.trans qH, s1 (Part.ext' (by assumption) (by assumption) eo), by simp only [go_sem, simprocAttr, r0, r1]⟩
      · have eo' : ¬ [x.op] = [y.op] := fun e => eo (by simpa using e)
        simp only [go_sem, simprocAttr, r0, r1, r5, eo', decide_false]
        exact ⟨congrArg Value.bool (decide_eq_false (s2 (fun e => eo (by rw [e])))).symm, qk.trans qH⟩
    · have : i = xs.length := by omega
      subst this
      rw [List.take_length, hl, List.take_length] at ht
      simp only [go_sem, simprocAttr]
      exact ⟨congrArg Value.bool (decide_eq_true ht).symm, qk⟩
  · have hl' : ¬ ((xs.length : Nat) : Int) = ys.length := by omega
    simp only [go_sem, simprocAttr, hl', decide_false]
    exact congrArg Value.bool (decide_eq_false (fun e => hl (by rw [e]))).symm

end
end Go.Proofs.Ytohgnkjemfkeoaa
