/- plan: comparing by functions; joining. -/
import Derived.Test.YtohgnkjemfkeoaaPlE
set_option linter.unusedSimpArgs false
set_option linter.unusedVariables false
set_option linter.unnecessarySimpa false
set_option maxRecDepth 100000
namespace Go.Proofs.Ytohgnkjemfkeoaa
open Go.AM

section
variable {h : AHeap} {S : Nat → Prop}

theorem Equal_ok {xs ys : List Nat} {v w : Value} (hx : Words S h xs v) (hy : Words S h ys w) : Does Try.prog 62 #[v, w] h (fun u h' => u = .bool (decide (xs = ys)) ∧ h' = h) := by
  obtain ⟨a, c, rfl⟩ := hx.shape
  obtain ⟨a2, c2, rfl⟩ := hy.shape
  have l1 := hx.len
  refine spec_go mixed Try.func62 rfl Try.results62 (n := Try.f62.ntmps) (by kernel_rfl) (by simp) ?_
  simp only [go_sem, simprocAttr]
  by_cases hl : xs.length = ys.length
  · have hl' : ((xs.length : Nat) : Int) = ys.length := by omega
    simp only [go_sem, simprocAttr, hl', decide_true]
    refine go_loop (fun z ρ k => ∃ i : Nat, i ≤ xs.length ∧ z = xs.length - i ∧ k = h ∧ xs.take i = ys.take i ∧ ρ 0 = .slice a xs.length c ∧ ρ 1 = .slice a2 ys.length c2 ∧ ρ 12 = .int .i64 ys.length ∧ ρ 13 = .int .i64 i) xs.length ⟨0, by omega, by omega, rfl, rfl, by simp only [go_sem, simprocAttr, hl']⟩ ?_
    rintro z ρ k ⟨i, hi, rfl, rfl, ht, r0, r1, r12, r13⟩
    simp only [go_sem, simprocAttr, r0, r1, r12, r13]
    refine cnd_decide (fun hx' => ?_) (fun hx' => ?_)
    · have h1 : i < xs.length := by omega
      have h2 : i < ys.length := by omega
      obtain ⟨b, off, sp, cc, md, x, rfl, _, hg, hxi, hmx, hc⟩ := hx.atN h1
      obtain ⟨b2, off2, sp2, cc2, md2, y, rfl, _, hg2, hyi, hmy, hc2⟩ := hy.atN h2
      have e9 : IntKind.i64.wrap ((i : Int) + 1) = ((i + 1 : Nat) : Int) := by rw [wi64] <;> omega
      obtain ⟨s1, s2⟩ := take_eq_step ht hxi hyi
      by_cases e : x = y
      · subst e
        simp only [go_sem, simprocAttr, r0, r1, r12, r13, h1, h2, hg, hc, hg2, hc2, e9, decide_true]
        exact Hold.mk ⟨xs.length - (i + 1), by omega, i + 1, by omega, rfl, rfl, s1 rfl, by simp only [go_sem, simprocAttr, r0, r1, r12]⟩
      · have e' : ¬ ((x : Nat) : Int) = y := by omega
        simp only [go_sem, simprocAttr, r0, r1, r12, r13, h1, h2, hg, hc, hg2, hc2, e9, e', decide_false]
        exact congrArg Value.bool (decide_eq_false (s2 e)).symm
    · have : i = xs.length := by omega
      subst this
      rw [List.take_length, hl, List.take_length] at ht
      simp only [go_sem, simprocAttr]
      exact congrArg Value.bool (decide_eq_true ht).symm
  · have hl' : ¬ ((xs.length : Nat) : Int) = ys.length := by omega
    simp only [go_sem, simprocAttr, hl', decide_false]
    exact congrArg Value.bool (decide_eq_false (fun e => hl (by rw [e]))).symm

theorem bSame1_ok {x y : Op} {dx dy : Value} (hx : Words S h x.data dx) (hy : Words S h y.data dy) : Does Try.prog 61 #[opV x dx, opV y dy] h (fun u h' => u = .bool (decide (x = y)) ∧ h.quiet h') := by
  obtain ⟨a, c, rfl⟩ := hx.shape
  obtain ⟨a2, c2, rfl⟩ := hy.shape
  refine spec_go mixed Try.func61 rfl Try.results61 (n := Try.f61.ntmps) (by kernel_rfl) (by simp) ?_
  simp only [go_sem, simprocAttr]
  repeat' (first | (refine gd_split (fun hb => ?_) (fun hb => ?_) <;> simp only [go_sem, simprocAttr, dec_t, dec_f, Bool.not_eq_true', Bool.not_eq_false', Bool.and_eq_true] at hb <;> simp only [go_sem, simprocAttr, hb]) | (refine cnd_split (fun hb => ?_) (fun hb => ?_) <;> simp only [go_sem, simprocAttr, dec_t, dec_f, Bool.not_eq_true', Bool.not_eq_false', Bool.and_eq_true] at hb <;> simp only [go_sem, simprocAttr, hb]))
  all_goals first | exact congrArg Value.bool (decide_eq_false (fun e => by subst e; simp_all)).symm | skip
  refine cl_gen fun H eH => ?_
  have qH : h.quiet H := by rw [eH]; simp only [go_sem, simprocAttr]
  clear eH
  refine cl_spec (Equal_ok (hx.quiet qH) (hy.quiet qH)) (fun _ _ _ hc => absurd hc (by decide +kernel)) ?_
  rintro u k2 ⟨rfl, rfl⟩
  simp only [go_sem, simprocAttr]
  refine ⟨?_, qH⟩
  by_cases e : x.data = y.data
  · rw [decide_eq_true e, decide_eq_true (Op.ext' (by assumption) (by assumption) (by assumption) e)]
  · rw [decide_eq_false e, decide_eq_false (fun e' => e (by rw [e']))]

theorem bSame_ok {xs ys : List Op} {v w : Value} (hx : IsSl rOp S h xs v) (hy : IsSl rOp S h ys w) : Does Try.prog 48 #[v, w] h (fun u h' => u = .bool (decide (xs = ys)) ∧ h.quiet h') := by
  have eqf : Does Try.prog 60 #[v, w, .func (.func 61) #[] #[]] h (fun u h' => u = .bool (decide (xs = ys)) ∧ h.quiet h') := by
    obtain ⟨a, c, rfl⟩ := hx.shape
    obtain ⟨a2, c2, rfl⟩ := hy.shape
    have l1 := hx.len
    refine spec_go mixed Try.func60 rfl Try.results60 (n := Try.f60.ntmps) (by kernel_rfl) (by simp) ?_
    simp only [go_sem, simprocAttr]
    by_cases hl : xs.length = ys.length
    · have hl' : ((xs.length : Nat) : Int) = ys.length := by omega
      simp only [go_sem, simprocAttr, hl', decide_true]
      refine go_loop (fun z ρ k => ∃ i : Nat, i ≤ xs.length ∧ z = xs.length - i ∧ h.quiet k ∧ xs.take i = ys.take i ∧ ρ 1 = .slice a2 ys.length c2 ∧ ρ 2 = .func (.func 61) #[] #[] ∧ ρ 15 = .slice a xs.length c ∧ ρ 16 = .int .i64 ys.length ∧ ρ 17 = .int .i64 i) xs.length ⟨0, by omega, by omega, .refl _, rfl, by simp only [go_sem, simprocAttr, hl']⟩ ?_
      rintro z ρ k ⟨i, hi, rfl, qk, ht, r1, r2, r15, r16, r17⟩
      simp only [go_sem, simprocAttr, r1, r2, r15, r16, r17]
      refine cnd_decide (fun hx' => ?_) (fun hx' => ?_)
      · have h1 : i < xs.length := by omega
        have h2 : i < ys.length := by omega
        obtain ⟨b, off, sp, cc, md, x, dx, rfl, _, hg, hxi, hxo, hxd, hle, hdt, f0, f1, f2, f3⟩ := (hx.quiet qk).atOp h1
        obtain ⟨b2, off2, sp2, cc2, md2, y, dy, rfl, _, hg2, hyi, hyo, hyd, hle2, hdt2, m0, m1, m2, m3⟩ := (hy.quiet qk).atOp h2
        have e9 : IntKind.i64.wrap ((i : Int) + 1) = ((i + 1 : Nat) : Int) := by rw [wi64] <;> omega
        have lb2 : b2 < k.next := AHeap.lt_of_alive k (by rw [hg2]; simp)
        obtain ⟨s1, s2⟩ := take_eq_step ht hxi hyi
        obtain ⟨ax, cx, rfl⟩ := hxd.shape
        obtain ⟨ay, cy, rfl⟩ := hyd.shape
        simp only [opC] at hdt hdt2
        simp only [go_sem, simprocAttr, r1, r2, r15, r16, r17, h1, h2, hg, hle, hdt, AHeap.get_push_lt _ _ lb2, hg2, hle2, hdt2]
        refine cl_gen fun H eH => ?_
        have qH : k.quiet H := by rw [eH]; simp only [go_sem, simprocAttr]
        clear eH
        refine cl_spec (bSame1_ok (hxd.quiet qH) (hyd.quiet qH)) (fun _ _ _ hc => absurd hc (by decide +kernel)) ?_
        rintro u k2 ⟨rfl, q2⟩
        by_cases e : x = y
        · simp only [go_sem, simprocAttr, r1, r2, r15, r16, r17, decide_eq_true e, e9]
          exact Hold.mk ⟨xs.length - (i + 1), by omega, i + 1, by omega, rfl, (qk.trans qH).trans q2, s1 e, by simp only [go_sem, simprocAttr, r1, r2, r15, r16]⟩
        · simp only [go_sem, simprocAttr, r1, r2, r15, r16, r17, decide_eq_false e]
          exact ⟨congrArg Value.bool (decide_eq_false (s2 e)).symm, (qk.trans qH).trans q2⟩
      · have : i = xs.length := by omega
        subst this
        rw [List.take_length, hl, List.take_length] at ht
        simp only [go_sem, simprocAttr]
        exact ⟨congrArg Value.bool (decide_eq_true ht).symm, qk⟩
    · have hl' : ¬ ((xs.length : Nat) : Int) = ys.length := by omega
      simp only [go_sem, simprocAttr, hl', decide_false]
      exact congrArg Value.bool (decide_eq_false (fun e => hl (by rw [e]))).symm
  refine spec_go mixed Try.func48 rfl Try.results48 (n := Try.f48.ntmps) (by kernel_rfl) (by simp) ?_
  simp only [go_sem, simprocAttr]
  refine cl_spec eqf (fun _ _ _ hc => absurd hc (by decide +kernel)) ?_
  rintro u k ⟨rfl, q⟩
  simp only [go_sem, simprocAttr]
  exact q

/-- A part's value. -/
def partV (p : Part) (d : Value) : Value := .agg #[.int .i64 p.piece, .int .i64 p.node, .int .i64 p.op.kind, .int .i64 p.op.off, .int .i64 p.op.len, d]
attribute [go_sem] partV

theorem pSame1_ok {x y : Part} {dx dy : Value} (hxo : x.op.ok) (hyo : y.op.ok) (hx : Words S h x.op.data dx) (hy : Words S h y.op.data dy) : Does Try.prog 47 #[partV x dx, partV y dy] h (fun u h' => u = .bool (decide (x = y)) ∧ h.quiet h') := by
  obtain ⟨a, c, rfl⟩ := hx.shape
  obtain ⟨a2, c2, rfl⟩ := hy.shape
  refine spec_go mixed Try.func47 rfl Try.results47 (n := Try.f47.ntmps) (by kernel_rfl) (by simp) ?_
  simp only [go_sem, simprocAttr]
  repeat' (first | (refine gd_split (fun hb => ?_) (fun hb => ?_) <;> simp only [go_sem, simprocAttr, dec_t, dec_f, Bool.not_eq_true', Bool.not_eq_false', Bool.and_eq_true] at hb <;> simp only [go_sem, simprocAttr, hb]) | (refine cnd_split (fun hb => ?_) (fun hb => ?_) <;> simp only [go_sem, simprocAttr, dec_t, dec_f, Bool.not_eq_true', Bool.not_eq_false', Bool.and_eq_true] at hb <;> simp only [go_sem, simprocAttr, hb]))
  all_goals first | exact congrArg Value.bool (decide_eq_false (fun e => by subst e; simp_all)).symm | skip
  refine cl_gen fun H eH => ?_
  have qH : h.quiet H := by rw [eH]; simp only [go_sem, simprocAttr]
  have gx : H.get (h.next + 1 + 1) = .cells (opC x.op (.slice a x.op.data.length c)) .rw := by rw [eH]; simp only [go_sem, simprocAttr]
  have gy : H.get (h.next + 1 + 1 + 1) = .cells (opC y.op (.slice a2 y.op.data.length c2)) .rw := by rw [eH]; simp only [go_sem, simprocAttr]
  clear eH
  refine cl_spec (bSame_ok (oneOp hxo hx qH gx) (oneOp hyo hy qH gy)) (fun _ _ _ hc => absurd hc (by decide +kernel)) ?_
  rintro u k2 ⟨rfl, q2⟩
  simp only [go_sem, simprocAttr]
  refine ⟨?_, qH.trans q2⟩
  by_cases e : x.op = y.op
  · rw [e, decide_eq_true rfl, decide_eq_true (Part.ext' (by assumption) (by assumption) e)]
  · rw [decide_eq_false (show ¬ [x.op] = [y.op] from fun e' => e (by simpa using e')), decide_eq_false (fun e' => e (by rw [e']))]

theorem pSame_ok {xs ys : List Part} {v w : Value} (hx : IsSl rPart S h xs v) (hy : IsSl rPart S h ys w) : Does Try.prog 25 #[v, w] h (fun u h' => u = .bool (decide (xs = ys)) ∧ h.quiet h') := by
  have eqf : Does Try.prog 46 #[v, w, .func (.func 47) #[] #[]] h (fun u h' => u = .bool (decide (xs = ys)) ∧ h.quiet h') := by
    obtain ⟨a, c, rfl⟩ := hx.shape
    obtain ⟨a2, c2, rfl⟩ := hy.shape
    have l1 := hx.len
    refine spec_go mixed Try.func46 rfl Try.results46 (n := Try.f46.ntmps) (by kernel_rfl) (by simp) ?_
    simp only [go_sem, simprocAttr]
    by_cases hl : xs.length = ys.length
    · have hl' : ((xs.length : Nat) : Int) = ys.length := by omega
      simp only [go_sem, simprocAttr, hl', decide_true]
      refine go_loop (fun z ρ k => ∃ i : Nat, i ≤ xs.length ∧ z = xs.length - i ∧ h.quiet k ∧ xs.take i = ys.take i ∧ ρ 1 = .slice a2 ys.length c2 ∧ ρ 2 = .func (.func 47) #[] #[] ∧ ρ 15 = .slice a xs.length c ∧ ρ 16 = .int .i64 ys.length ∧ ρ 17 = .int .i64 i) xs.length ⟨0, by omega, by omega, .refl _, rfl, by simp only [go_sem, simprocAttr, hl']⟩ ?_
      rintro z ρ k ⟨i, hi, rfl, qk, ht, r1, r2, r15, r16, r17⟩
      simp only [go_sem, simprocAttr, r1, r2, r15, r16, r17]
      refine cnd_decide (fun hx' => ?_) (fun hx' => ?_)
      · have h1 : i < xs.length := by omega
        have h2 : i < ys.length := by omega
        obtain ⟨b, off, sp, cc, md, x, dx, rfl, _, hg, hxi, hx1, hx2, hxo, hxd, hle, hdt, _⟩ := (hx.quiet qk).atPart h1
        obtain ⟨b2, off2, sp2, cc2, md2, y, dy, rfl, _, hg2, hyi, hy1, hy2, hyo, hyd, hle2, hdt2, _⟩ := (hy.quiet qk).atPart h2
        have e9 : IntKind.i64.wrap ((i : Int) + 1) = ((i + 1 : Nat) : Int) := by rw [wi64] <;> omega
        have lb2 : b2 < k.next := AHeap.lt_of_alive k (by rw [hg2]; simp)
        obtain ⟨s1, s2⟩ := take_eq_step ht hxi hyi
        obtain ⟨ax, cx, rfl⟩ := hxd.shape
        obtain ⟨ay, cy, rfl⟩ := hyd.shape
        simp only [go_sem, simprocAttr, r1, r2, r15, r16, r17, h1, h2, hg, hle, hdt, AHeap.get_push_lt _ _ lb2, hg2, hle2, hdt2]
        refine cl_gen fun H eH => ?_
        have qH : k.quiet H := by rw [eH]; simp only [go_sem, simprocAttr]
        clear eH
        refine cl_spec (pSame1_ok (x := x) (y := y) hxo hyo (hxd.quiet qH) (hyd.quiet qH)) (fun _ _ _ hc => absurd hc (by decide +kernel)) ?_
        rintro u k2 ⟨rfl, q2⟩
        by_cases e : x = y
        · simp only [go_sem, simprocAttr, r1, r2, r15, r16, r17, decide_eq_true e, e9]
          exact Hold.mk ⟨xs.length - (i + 1), by omega, i + 1, by omega, rfl, (qk.trans qH).trans q2, s1 e, by simp only [go_sem, simprocAttr, r1, r2, r15, r16]⟩
        · simp only [go_sem, simprocAttr, r1, r2, r15, r16, r17, decide_eq_false e]
          exact ⟨congrArg Value.bool (decide_eq_false (s2 e)).symm, (qk.trans qH).trans q2⟩
      · have : i = xs.length := by omega
        subst this
        rw [List.take_length, hl, List.take_length] at ht
        simp only [go_sem, simprocAttr]
        exact ⟨congrArg Value.bool (decide_eq_true ht).symm, qk⟩
    · have hl' : ¬ ((xs.length : Nat) : Int) = ys.length := by omega
      simp only [go_sem, simprocAttr, hl', decide_false]
      exact congrArg Value.bool (decide_eq_false (fun e => hl (by rw [e]))).symm
  refine spec_go mixed Try.func25 rfl Try.results25 (n := Try.f25.ntmps) (by kernel_rfl) (by simp) ?_
  simp only [go_sem, simprocAttr]
  refine cl_spec eqf (fun _ _ _ hc => absurd hc (by decide +kernel)) ?_
  rintro u k ⟨rfl, q⟩
  simp only [go_sem, simprocAttr]
  exact q

theorem ours_ok {xs : List Part} {v : Value} (hx : IsSl rPart S h xs v) (hn : xs.length ≤ 1048576) : Does Try.prog 24 #[v] h (fun u h' => h.quiet h' ∧ IsSl rPart (fun _ => True) h' xs u) := by
  replace hx := hx.bound
  obtain ⟨a, c, rfl⟩ := hx.shape
  refine spec_go mixed Try.func24 rfl Try.results24 (n := Try.f24.ntmps) (by kernel_rfl) (by simp) ?_
  simp only [go_sem, simprocAttr]
  refine go_loop (fun z ρ k => ∃ (i : Nat) (u : Value), i ≤ xs.length ∧ z = xs.length - i ∧ h.quiet k ∧ Lst rPart h.next (· < h.next) k (xs.take i) u ∧ ρ 3 = u ∧ ρ 6 = .slice a xs.length c ∧ ρ 7 = .int .i64 xs.length ∧ ρ 8 = .int .i64 i) xs.length
    ⟨0, _, by omega, by omega, .refl _, .nil _ _ _ _, by simp only [go_sem, simprocAttr]⟩ ?_
  rintro z ρ k ⟨i, u, hi, rfl, qk, hl, r3, r6, r7, r8⟩
  simp only [go_sem, simprocAttr, r3, r6, r7, r8]
  refine cnd_decide (fun hx' => ?_) (fun hx' => ?_)
  · have h1 : i < xs.length := by omega
    obtain ⟨b, off, sp, cc, md, x, dx, rfl, _, hg, hxi, hx1, hx2, hxo, hxd, hle, hdt, _⟩ := (hx.quiet qk).atPart h1
    have e9 : IntKind.i64.wrap ((i : Int) + 1) = ((i + 1 : Nat) : Int) := by rw [wi64] <;> omega
    obtain ⟨ax, cx, rfl⟩ := hxd.shape
    simp only [go_sem, simprocAttr, r3, r6, r7, r8, h1, hg, hle, hdt]
    have q2 : k.quiet ((k.push (.cells [.int .i64 x.piece, .int .i64 x.node, .int .i64 x.op.kind, .int .i64 x.op.off, .int .i64 x.op.len, .slice ax x.op.data.length cx] .rw)).push (.cells [.int .i64 x.piece, .int .i64 x.node, .int .i64 x.op.kind, .int .i64 x.op.off, .int .i64 x.op.len, .slice ax x.op.data.length cx] .rw)) := by simp only [go_sem, simprocAttr]
    obtain ⟨u4, k4, e4, hl4, hf4, _⟩ := (hl.quiet q2).app1 (r := rPart) (y := x) (cs := [.int .i64 x.piece, .int .i64 x.node, .int .i64 x.op.kind, .int .i64 x.op.off, .int .i64 x.op.len, .slice ax x.op.data.length cx]) (bytes := 64) 6 rfl
      (rPart_iff.2 ⟨_, rfl, hx1, hx2, hxo, (hxd.quiet q2).weaken fun j hj => ⟨hj.2, fun e => by have := (hl.blk_ge e).1; omega⟩⟩) (by simp; omega) (by simp; omega) (by have := qk.1; have := q2.1; omega)
    simp only [go_sem, simprocAttr, r6, r7, r8, e4, e9]
    refine Hold.mk ⟨xs.length - (i + 1), by omega, i + 1, u4, by omega, rfl, Fw.behind (qk.trans q2) hf4 (fun j e => (hl.blk_ge e).1), ?_, by simp only [go_sem, simprocAttr, r6, r7]⟩
    rw [List.take_add_one, hxi]; exact hl4
  · have : i = xs.length := by omega
    subst this
    simp only [go_sem, simprocAttr, r3]
    rw [List.take_length] at hl
    exact ⟨qk, hl.isSl (fun _ _ _ => trivial) (fun _ _ => trivial)⟩

end
end Go.Proofs.Ytohgnkjemfkeoaa
