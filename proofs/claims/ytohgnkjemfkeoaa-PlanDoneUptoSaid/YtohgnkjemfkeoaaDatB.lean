/- maps and requests: what the small functions of both sides answer. -/
import Derived.Test.YtohgnkjemfkeoaaDatA
set_option linter.unusedSimpArgs false
set_option linter.unusedVariables false
set_option linter.unnecessarySimpa false
set_option maxRecDepth 100000
namespace Go.Proofs.Ytohgnkjemfkeoaa
open Go.AM
section
variable {h : AHeap} {S : Nat → Prop}

theorem isNode_ok {n : Int} : Does Try.prog 66 #[.int .i64 n] h (fun u h' => u = .bool (decide (0 ≤ n ∧ n < 16)) ∧ h' = h) := by
  refine spec_go mixed Try.func66 rfl Try.results66 (n := Try.f66.ntmps) (by kernel_rfl) (by simp) ?_
  simp only [go_sem, simprocAttr]
  repeat' (first | (refine gd_split (fun hb => ?_) (fun hb => ?_) <;> simp only [go_sem, simprocAttr, dec_t, dec_f, Bool.not_eq_true', Bool.not_eq_false', Bool.and_eq_true] at hb <;> simp only [go_sem, simprocAttr, hb]) | (refine cnd_split (fun hb => ?_) (fun hb => ?_) <;> simp only [go_sem, simprocAttr, dec_t, dec_f, Bool.not_eq_true', Bool.not_eq_false', Bool.and_eq_true] at hb <;> simp only [go_sem, simprocAttr, hb]))
  all_goals try (first | rfl | (refine bool_ext ?_; try simp (disch := omega) only [wi64, dec_t, Bool.and_eq_true, Bool.or_eq_true, Bool.not_eq_true', dec_f, reduceCtorEq, true_iff, iff_true, false_iff, iff_false, not_true_eq_false, not_false_eq_true, Bool.true_and, Bool.and_true, Bool.false_eq_true, false_and, and_false, true_and, and_true]; try omega))
theorem rnode_ok {n : Int} : Does Try.prog 58 #[.int .i64 n] h (fun u h' => u = .bool (decide (0 ≤ n ∧ n < 16)) ∧ h' = h) := by
  refine spec_go mixed Try.func58 rfl Try.results58 (n := Try.f58.ntmps) (by kernel_rfl) (by simp) ?_
  simp only [go_sem, simprocAttr]
  repeat' (first | (refine gd_split (fun hb => ?_) (fun hb => ?_) <;> simp only [go_sem, simprocAttr, dec_t, dec_f, Bool.not_eq_true', Bool.not_eq_false', Bool.and_eq_true] at hb <;> simp only [go_sem, simprocAttr, hb]) | (refine cnd_split (fun hb => ?_) (fun hb => ?_) <;> simp only [go_sem, simprocAttr, dec_t, dec_f, Bool.not_eq_true', Bool.not_eq_false', Bool.and_eq_true] at hb <;> simp only [go_sem, simprocAttr, hb]))
  all_goals try (first | rfl | (refine bool_ext ?_; try simp (disch := omega) only [wi64, dec_t, Bool.and_eq_true, Bool.or_eq_true, Bool.not_eq_true', dec_f, reduceCtorEq, true_iff, iff_true, false_iff, iff_false, not_true_eq_false, not_false_eq_true, Bool.true_and, Bool.and_true, Bool.false_eq_true, false_and, and_false, true_and, and_true]; try omega))
theorem lies_ok {n off k : Int} (h1 : 0 ≤ n) (h2 : n ≤ 1024) : Does Try.prog 67 #[.int .i64 n, .int .i64 off, .int .i64 k] h (fun u h' => u = .bool (decide (lies n off k)) ∧ h' = h) := by
  refine spec_go mixed Try.func67 rfl Try.results67 (n := Try.f67.ntmps) (by kernel_rfl) (by simp) ?_
  simp only [go_sem, simprocAttr, lies]
  repeat' (first | (refine gd_split (fun hb => ?_) (fun hb => ?_) <;> simp only [go_sem, simprocAttr, dec_t, dec_f, Bool.not_eq_true', Bool.not_eq_false', Bool.and_eq_true] at hb <;> simp only [go_sem, simprocAttr, hb]) | (refine cnd_split (fun hb => ?_) (fun hb => ?_) <;> simp only [go_sem, simprocAttr, dec_t, dec_f, Bool.not_eq_true', Bool.not_eq_false', Bool.and_eq_true] at hb <;> simp only [go_sem, simprocAttr, hb]))
  all_goals try (first | rfl | (refine bool_ext ?_; try simp (disch := omega) only [wi64, dec_t, Bool.and_eq_true, Bool.or_eq_true, Bool.not_eq_true', dec_f, reduceCtorEq, true_iff, iff_true, false_iff, iff_false, not_true_eq_false, not_false_eq_true, Bool.true_and, Bool.and_true, Bool.false_eq_true, false_and, and_false, true_and, and_true]; try omega))
theorem many_ok {n : Int} : Does Try.prog 39 #[.int .i64 n] h (fun u h' => u = .bool (decide (0 ≤ n ∧ n ≤ 1024)) ∧ h' = h) := by
  refine spec_go mixed Try.func39 rfl Try.results39 (n := Try.f39.ntmps) (by kernel_rfl) (by simp) ?_
  simp only [go_sem, simprocAttr]
  repeat' (first | (refine gd_split (fun hb => ?_) (fun hb => ?_) <;> simp only [go_sem, simprocAttr, dec_t, dec_f, Bool.not_eq_true', Bool.not_eq_false', Bool.and_eq_true] at hb <;> simp only [go_sem, simprocAttr, hb]) | (refine cnd_split (fun hb => ?_) (fun hb => ?_) <;> simp only [go_sem, simprocAttr, dec_t, dec_f, Bool.not_eq_true', Bool.not_eq_false', Bool.and_eq_true] at hb <;> simp only [go_sem, simprocAttr, hb]))
  all_goals try (first | rfl | (refine bool_ext ?_; try simp (disch := omega) only [wi64, dec_t, Bool.and_eq_true, Bool.or_eq_true, Bool.not_eq_true', dec_f, reduceCtorEq, true_iff, iff_true, false_iff, iff_false, not_true_eq_false, not_false_eq_true, Bool.true_and, Bool.and_true, Bool.false_eq_true, false_and, and_false, true_and, and_true]; try omega))
theorem rin_ok {n off k : Int} (h1 : 0 ≤ n) (h2 : n ≤ 1024) : Does Try.prog 52 #[.int .i64 n, .int .i64 off, .int .i64 k] h (fun u h' => u = .bool (decide (0 ≤ off ∧ off ≤ n ∧ k ≤ n - off)) ∧ h' = h) := by
  refine spec_go mixed Try.func52 rfl Try.results52 (n := Try.f52.ntmps) (by kernel_rfl) (by simp) ?_
  simp only [go_sem, simprocAttr]
  repeat' (first | (refine gd_split (fun hb => ?_) (fun hb => ?_) <;> simp only [go_sem, simprocAttr, dec_t, dec_f, Bool.not_eq_true', Bool.not_eq_false', Bool.and_eq_true] at hb <;> simp only [go_sem, simprocAttr, hb]) | (refine cnd_split (fun hb => ?_) (fun hb => ?_) <;> simp only [go_sem, simprocAttr, dec_t, dec_f, Bool.not_eq_true', Bool.not_eq_false', Bool.and_eq_true] at hb <;> simp only [go_sem, simprocAttr, hb]))
  all_goals try (first | rfl | (refine bool_ext ?_; try simp (disch := omega) only [wi64, dec_t, Bool.and_eq_true, Bool.or_eq_true, Bool.not_eq_true', dec_f, reduceCtorEq, true_iff, iff_true, false_iff, iff_false, not_true_eq_false, not_false_eq_true, Bool.true_and, Bool.and_true, Bool.false_eq_true, false_and, and_false, true_and, and_true]; try omega))

theorem Range_ok {o : Op} {d : Value} (hd : Words S h o.data d) : Does Try.prog 35 #[opV o d] h (fun u h' => u = .tuple #[.int .i64 o.range.1, .int .i64 o.range.2] ∧ h.quiet h') := by
  obtain ⟨a, c, rfl⟩ := hd.shape
  refine spec_go mixed Try.func35 rfl Try.results35 (n := Try.f35.ntmps) (by kernel_rfl) (by simp) ?_
  simp only [go_sem, simprocAttr]
  repeat' (first | (refine gd_split (fun hb => ?_) (fun hb => ?_) <;> simp only [go_sem, simprocAttr, dec_t, dec_f, Bool.not_eq_true', Bool.not_eq_false', Bool.and_eq_true] at hb <;> simp only [go_sem, simprocAttr, hb]) | (refine cnd_split (fun hb => ?_) (fun hb => ?_) <;> simp only [go_sem, simprocAttr, dec_t, dec_f, Bool.not_eq_true', Bool.not_eq_false', Bool.and_eq_true] at hb <;> simp only [go_sem, simprocAttr, hb]))
  all_goals simp only [Op.range]
  all_goals simp_all [AHeap.quiet.push]
theorem rRange_ok {o : Op} {d : Value} (hd : Words S h o.data d) : Does Try.prog 17 #[opV o d] h (fun u h' => u = .tuple #[.int .i64 o.range.1, .int .i64 o.range.2] ∧ h.quiet h') := by
  obtain ⟨a, c, rfl⟩ := hd.shape
  refine spec_go mixed Try.func17 rfl Try.results17 (n := Try.f17.ntmps) (by kernel_rfl) (by simp) ?_
  simp only [go_sem, simprocAttr]
  repeat' (first | (refine gd_split (fun hb => ?_) (fun hb => ?_) <;> simp only [go_sem, simprocAttr, dec_t, dec_f, Bool.not_eq_true', Bool.not_eq_false', Bool.and_eq_true] at hb <;> simp only [go_sem, simprocAttr, hb]) | (refine cnd_split (fun hb => ?_) (fun hb => ?_) <;> simp only [go_sem, simprocAttr, dec_t, dec_f, Bool.not_eq_true', Bool.not_eq_false', Bool.and_eq_true] at hb <;> simp only [go_sem, simprocAttr, hb]))
  all_goals simp only [Op.range]
  all_goals simp_all [AHeap.quiet.push]

theorem bRight_ok {n : Int} {o : Op} {d : Value} (hd : Words S h o.data d) : Does Try.prog 56 #[.int .i64 n, opV o d] h (fun u h' => u = .bool (decide (o.right n)) ∧ h.quiet h') := by
  obtain ⟨a, c, rfl⟩ := hd.shape
  refine spec_go mixed Try.func56 rfl Try.results56 (n := Try.f56.ntmps) (by kernel_rfl) (by simp) ?_
  simp only [go_sem, simprocAttr]
  have hd1 := hd.quiet (.push h (.cells [.int .i64 o.kind, .int .i64 o.off, .int .i64 o.len, .slice a o.data.length c] .rw))
  refine cl_spec (Range_ok hd1) (fun _ _ _ hc => absurd hc (by decide +kernel)) ?_
  rintro u k1 ⟨rfl, q1⟩
  obtain ⟨e1, _, q2⟩ := q1.box
  by_cases c1 : o.kind = 1
  · simp only [go_sem, simprocAttr, e1, Op.range1 c1]
    repeat' (first | (refine gd_split (fun hb => ?_) (fun hb => ?_) <;> simp only [go_sem, simprocAttr, dec_t, dec_f, Bool.not_eq_true', Bool.not_eq_false', Bool.and_eq_true] at hb <;> simp only [go_sem, simprocAttr, e1, c1, hb]) | (refine cnd_split (fun hb => ?_) (fun hb => ?_) <;> simp only [go_sem, simprocAttr, dec_t, dec_f, Bool.not_eq_true', Bool.not_eq_false', Bool.and_eq_true] at hb <;> simp only [go_sem, simprocAttr, e1, c1, hb]) | (refine cl_spec (lies_ok (by omega) (by omega)) (fun _ _ _ hc => absurd hc (by decide +kernel)) ?_ <;> rintro u h' ⟨rfl, rfl⟩ <;> simp only [go_sem, simprocAttr, e1, c1]))
    all_goals refine ⟨?_, q2⟩
    all_goals try (first | rfl | (refine bool_ext ?_; try simp (disch := omega) only [wi64, dec_t, Bool.and_eq_true, Bool.or_eq_true, Bool.not_eq_true', dec_f, reduceCtorEq, true_iff, iff_true, false_iff, iff_false, not_true_eq_false, not_false_eq_true, Bool.true_and, Bool.and_true, Bool.false_eq_true, false_and, and_false, true_and, and_true]; try simp only [Op.right, lies] at *; try omega))
  · by_cases c2 : o.kind = 2
    · simp only [go_sem, simprocAttr, e1, Op.range2 c2]
      repeat' (first | (refine gd_split (fun hb => ?_) (fun hb => ?_) <;> simp only [go_sem, simprocAttr, dec_t, dec_f, Bool.not_eq_true', Bool.not_eq_false', Bool.and_eq_true] at hb <;> simp only [go_sem, simprocAttr, e1, c2, hb]) | (refine cnd_split (fun hb => ?_) (fun hb => ?_) <;> simp only [go_sem, simprocAttr, dec_t, dec_f, Bool.not_eq_true', Bool.not_eq_false', Bool.and_eq_true] at hb <;> simp only [go_sem, simprocAttr, e1, c2, hb]) | (refine cl_spec (lies_ok (by omega) (by omega)) (fun _ _ _ hc => absurd hc (by decide +kernel)) ?_ <;> rintro u h' ⟨rfl, rfl⟩ <;> simp only [go_sem, simprocAttr, e1, c2]))
      all_goals refine ⟨?_, q2⟩
      all_goals try (first | rfl | (refine bool_ext ?_; try simp (disch := omega) only [wi64, dec_t, Bool.and_eq_true, Bool.or_eq_true, Bool.not_eq_true', dec_f, reduceCtorEq, true_iff, iff_true, false_iff, iff_false, not_true_eq_false, not_false_eq_true, Bool.true_and, Bool.and_true, Bool.false_eq_true, false_and, and_false, true_and, and_true]; try simp only [Op.right, lies] at *; try omega))
    · simp only [go_sem, simprocAttr, e1, Op.range0 c1 c2]
      repeat' (first | (refine gd_split (fun hb => ?_) (fun hb => ?_) <;> simp only [go_sem, simprocAttr, dec_t, dec_f, Bool.not_eq_true', Bool.not_eq_false', Bool.and_eq_true] at hb <;> simp only [go_sem, simprocAttr, e1, c1, c2, hb]) | (refine cnd_split (fun hb => ?_) (fun hb => ?_) <;> simp only [go_sem, simprocAttr, dec_t, dec_f, Bool.not_eq_true', Bool.not_eq_false', Bool.and_eq_true] at hb <;> simp only [go_sem, simprocAttr, e1, c1, c2, hb]) | (refine cl_spec (lies_ok (by omega) (by omega)) (fun _ _ _ hc => absurd hc (by decide +kernel)) ?_ <;> rintro u h' ⟨rfl, rfl⟩ <;> simp only [go_sem, simprocAttr, e1, c1, c2]))
      all_goals refine ⟨?_, q2⟩
      all_goals try (first | rfl | (refine bool_ext ?_; try simp (disch := omega) only [wi64, dec_t, Bool.and_eq_true, Bool.or_eq_true, Bool.not_eq_true', dec_f, reduceCtorEq, true_iff, iff_true, false_iff, iff_false, not_true_eq_false, not_false_eq_true, Bool.true_and, Bool.and_true, Bool.false_eq_true, false_and, and_false, true_and, and_true]; try simp only [Op.right, lies] at *; try omega))

theorem rRight_ok {n : Int} {o : Op} {d : Value} (hd : Words S h o.data d) : Does Try.prog 40 #[.int .i64 n, opV o d] h (fun u h' => u = .bool (decide (o.right n)) ∧ h.quiet h') := by
  obtain ⟨a, c, rfl⟩ := hd.shape
  refine spec_go mixed Try.func40 rfl Try.results40 (n := Try.f40.ntmps) (by kernel_rfl) (by simp) ?_
  simp only [go_sem, simprocAttr]
  repeat' (first | (refine gd_split (fun hb => ?_) (fun hb => ?_) <;> simp only [go_sem, simprocAttr, dec_t, dec_f, Bool.not_eq_true', Bool.not_eq_false', Bool.and_eq_true] at hb <;> simp only [go_sem, simprocAttr, hb]) | (refine cnd_split (fun hb => ?_) (fun hb => ?_) <;> simp only [go_sem, simprocAttr, dec_t, dec_f, Bool.not_eq_true', Bool.not_eq_false', Bool.and_eq_true] at hb <;> simp only [go_sem, simprocAttr, hb]) | (refine cl_spec (many_ok) (fun _ _ _ hc => absurd hc (by decide +kernel)) ?_ <;> rintro u h' ⟨rfl, rfl⟩ <;> simp only [go_sem, simprocAttr]) | (refine cl_spec (rin_ok (by omega) (by omega)) (fun _ _ _ hc => absurd hc (by decide +kernel)) ?_ <;> rintro u h' ⟨rfl, rfl⟩ <;> simp only [go_sem, simprocAttr]))
  all_goals try (first | rfl | (refine bool_ext ?_; try simp (disch := omega) only [wi64, dec_t, Bool.and_eq_true, Bool.or_eq_true, Bool.not_eq_true', dec_f, reduceCtorEq, true_iff, iff_true, false_iff, iff_false, not_true_eq_false, not_false_eq_true, Bool.true_and, Bool.and_true, Bool.false_eq_true, false_and, and_false, true_and, and_true]; try simp only [Op.right, lies] at *; try omega))

theorem theirs_ok {m : SMap} {v : Value} (hd : IsSl rPiece S h m.ps v) : Does Try.prog 11 #[mapV m v] h (fun u h' => u = mapV m v ∧ h.quiet h') := by
  obtain ⟨a, c, rfl⟩ := hd.shape
  refine spec_go mixed Try.func11 rfl Try.results11 (n := Try.f11.ntmps) (by kernel_rfl) (by simp) ?_
  simp only [go_sem, simprocAttr]

theorem sRight_ok {m : SMap} {v : Value} (hd : IsSl rPiece S h m.ps v) : Does Try.prog 55 #[mapV m v] h (fun u h' => u = .bool (decide m.right) ∧ h.quiet h') := by
  obtain ⟨a, c, rfl⟩ := hd.shape
  have hl := hd.len
  refine spec_go mixed Try.func55 rfl Try.results55 (n := Try.f55.ntmps) (by kernel_rfl) (by simp) ?_
  simp only [go_sem, simprocAttr]
  repeat' (first | (refine gd_split (fun hb => ?_) (fun hb => ?_) <;> simp only [go_sem, simprocAttr, dec_t, dec_f, Bool.not_eq_true', Bool.not_eq_false', Bool.and_eq_true] at hb <;> simp only [go_sem, simprocAttr, hb]) | (refine cnd_split (fun hb => ?_) (fun hb => ?_) <;> simp only [go_sem, simprocAttr, dec_t, dec_f, Bool.not_eq_true', Bool.not_eq_false', Bool.and_eq_true] at hb <;> simp only [go_sem, simprocAttr, hb]))
  all_goals try (first | rfl | (refine bool_ext ?_; try simp (disch := omega) only [wi64, dec_t, Bool.and_eq_true, Bool.or_eq_true, Bool.not_eq_true', dec_f, reduceCtorEq, true_iff, iff_true, false_iff, iff_false, not_true_eq_false, not_false_eq_true, Bool.true_and, Bool.and_true, Bool.false_eq_true, false_and, and_false, true_and, and_true]; try simp only [SMap.right] at *; try omega))
  rename_i b4 b3 b2 b1
  refine go_gen fun h1 e1 => ?_
  obtain ⟨g1, l1, q1⟩ := AHeap.quiet.box (h := h) (k := h1) (by rw [e1]; exact .refl _)
  clear e1
  refine go_loop (fun z ρ k => ∃ (i : Nat) (at_ : Int), i ≤ m.ps.length ∧ z = m.ps.length - i ∧ h1.quiet k ∧ (chain 0 m.ps m.n ↔ chain at_ (m.ps.drop i) m.n) ∧
    ρ 1 = .pointer (some ⟨h.next, 0, none⟩) ∧ ρ 3 = .int .i64 at_ ∧ ρ 31 = .slice a m.ps.length c ∧ ρ 32 = .int .i64 m.ps.length ∧ ρ 33 = .int .i64 i) m.ps.length ⟨0, 0, by omega, by omega, .refl _, by simp, by simp only [go_sem, simprocAttr]⟩ ?_
  rintro z ρ k ⟨i, at_, hi, rfl, qk, hch, r1, r3, r31, r32, r33⟩
  have gk : k.get h.next = _ := (qk.2 _ l1).trans g1
  simp only [go_sem, simprocAttr, r1, r3, r31, r32, r33]
  refine cnd_decide (fun hx => ?_) (fun hx => ?_)
  · have hx' : i < m.ps.length := by omega
    obtain ⟨b, off, sp, cc, md, p, rfl, hSb, hg, hpi, hp, hle, hdt, f0, f1, f2⟩ := (hd.quiet (q1.trans qk)).atPiece hx'
    rw [drop_cons hpi, chain] at hch
    have e9 : IntKind.i64.wrap ((i : Int) + 1) = ((i + 1 : Nat) : Int) := by rw [wi64] <;> omega
    simp only [go_sem, simprocAttr, r1, r3, r31, r32, r33, hx', hg, hle, hdt]
    repeat' (first | (refine gd_split (fun hb => ?_) (fun hb => ?_) <;> simp only [go_sem, simprocAttr, dec_t, dec_f, Bool.not_eq_true', Bool.not_eq_false', Bool.and_eq_true] at hb <;> simp only [go_sem, simprocAttr, r1, r3, r31, r32, r33, e9, hb]) | (refine cnd_split (fun hb => ?_) (fun hb => ?_) <;> simp only [go_sem, simprocAttr, dec_t, dec_f, Bool.not_eq_true', Bool.not_eq_false', Bool.and_eq_true] at hb <;> simp only [go_sem, simprocAttr, r1, r3, r31, r32, r33, e9, hb]) | (refine cl_spec (isNode_ok) (fun _ _ _ hc => absurd hc (by decide +kernel)) ?_ <;> rintro u h' ⟨rfl, rfl⟩ <;> simp only [go_sem, simprocAttr, r1, r3, r31, r32, r33, e9]))
    all_goals try exact ⟨congrArg Value.bool (decide_eq_false (fun e => by have := hch.1 e.2; omega)).symm, (q1.trans qk).push' _⟩
    refine Hold.mk ⟨m.ps.length - (i + 1), by omega, i + 1, p.to, by omega, rfl, qk.push' _, hch.trans ⟨fun e => e.2.2.2, fun e => ⟨by omega, by omega, by omega, e⟩⟩, by simp only [go_sem, simprocAttr, r1, r31, r32]⟩
  · have : i = m.ps.length := by omega
    subst this
    simp only [go_sem, simprocAttr, r1, r3, r31, r32, r33, gk]
    refine ⟨?_, q1.trans qk⟩
    rw [List.drop_length, chain] at hch
    refine bool_ext ?_
    simp only [dec_t, SMap.right, hch]
    omega

theorem rsRight_ok {m : SMap} {v : Value} (hd : IsSl rPiece S h m.ps v) : Does Try.prog 43 #[mapV m v] h (fun u h' => u = .bool (decide m.right) ∧ h.quiet h') := by
  obtain ⟨a, c, rfl⟩ := hd.shape
  have hl := hd.len
  have hc0 : m.ps.length = 0 → m.right → False := fun e r => by
    have := r.2; rw [List.eq_nil_of_length_eq_zero e, chain] at this; have := r.1; omega
  refine spec_go mixed Try.func43 rfl Try.results43 (n := Try.f43.ntmps) (by kernel_rfl) (by simp) ?_
  simp only [go_sem, simprocAttr]
  repeat' (first | (refine gd_split (fun hb => ?_) (fun hb => ?_) <;> simp only [go_sem, simprocAttr, dec_t, dec_f, Bool.not_eq_true', Bool.not_eq_false', Bool.and_eq_true] at hb <;> simp only [go_sem, simprocAttr, hb]) | (refine cnd_split (fun hb => ?_) (fun hb => ?_) <;> simp only [go_sem, simprocAttr, dec_t, dec_f, Bool.not_eq_true', Bool.not_eq_false', Bool.and_eq_true] at hb <;> simp only [go_sem, simprocAttr, hb]))
  all_goals try (first | rfl | (refine bool_ext ?_; try simp (disch := omega) only [wi64, dec_t, Bool.and_eq_true, Bool.or_eq_true, Bool.not_eq_true', dec_f, reduceCtorEq, true_iff, iff_true, false_iff, iff_false, not_true_eq_false, not_false_eq_true, Bool.true_and, Bool.and_true, Bool.false_eq_true, false_and, and_false, true_and, and_true]; try simp only [SMap.right] at *; try omega))
  rotate_left
  · exact fun e => hc0 (by omega) e
  rename_i b5 b4 b3 b2 b1
  refine go_gen fun h1 e1 => ?_
  obtain ⟨g1, l1, q1⟩ := AHeap.quiet.box (h := h) (k := h1) (by rw [e1]; exact .refl _)
  clear e1
  refine go_loop (fun z ρ k => ∃ (i : Nat) (at_ : Int), i ≤ m.ps.length ∧ z = m.ps.length - i ∧ h1.quiet k ∧ (chain 0 m.ps m.n ↔ chain at_ (m.ps.drop i) m.n) ∧
    ρ 1 = .pointer (some ⟨h.next, 0, none⟩) ∧ ρ 3 = .int .i64 at_ ∧ ρ 4 = .int .i64 i) m.ps.length ⟨0, 0, by omega, by omega, .refl _, by simp, by simp only [go_sem, simprocAttr]⟩ ?_
  rintro z ρ k ⟨i, at_, hi, rfl, qk, hch, r1, r3, r4⟩
  have gk : k.get h.next = _ := (qk.2 _ l1).trans g1
  simp only [go_sem, simprocAttr, r1, r3, r4, gk]
  refine cnd_decide (fun hx => ?_) (fun hx => ?_)
  · have hx' : i < m.ps.length := by omega
    obtain ⟨b, off, sp, cc, md, p, rfl, _, hg, hpi, hp, hle, hdt, f0, f1, f2⟩ := (hd.quiet (q1.trans qk)).atPiece hx'
    rw [drop_cons hpi, chain] at hch
    have e9 : IntKind.i64.wrap ((i : Int) + 1) = ((i + 1 : Nat) : Int) := by rw [wi64] <;> omega
    simp only [go_sem, simprocAttr, r1, r3, r4, gk, hx', hg, hle, hdt]
    repeat' (first | (refine gd_split (fun hb => ?_) (fun hb => ?_) <;> simp only [go_sem, simprocAttr, dec_t, dec_f, Bool.not_eq_true', Bool.not_eq_false', Bool.and_eq_true] at hb <;> simp only [go_sem, simprocAttr, r1, r3, r4, e9, hb]) | (refine cnd_split (fun hb => ?_) (fun hb => ?_) <;> simp only [go_sem, simprocAttr, dec_t, dec_f, Bool.not_eq_true', Bool.not_eq_false', Bool.and_eq_true] at hb <;> simp only [go_sem, simprocAttr, r1, r3, r4, e9, hb]) | (refine cl_spec (rnode_ok) (fun _ _ _ hc => absurd hc (by decide +kernel)) ?_ <;> rintro u h' ⟨rfl, rfl⟩ <;> simp only [go_sem, simprocAttr, r1, r3, r4, e9]))
    all_goals try exact ⟨congrArg Value.bool (decide_eq_false (fun e => by have := hch.1 e.2; omega)).symm, (q1.trans qk).push' _⟩
    refine Hold.mk ⟨m.ps.length - (i + 1), by omega, i + 1, p.to, by omega, rfl, qk.push' _, hch.trans ⟨fun e => e.2.2.2, fun e => ⟨by omega, by omega, by omega, e⟩⟩, by simp only [go_sem, simprocAttr, r1]⟩
  · have : i = m.ps.length := by omega
    subst this
    simp only [go_sem, simprocAttr, r1, r3, gk]
    refine ⟨?_, q1.trans qk⟩
    rw [List.drop_length, chain] at hch
    refine bool_ext ?_
    simp only [dec_t, SMap.right, hch]
    omega

end
end Go.Proofs.Ytohgnkjemfkeoaa
