/- cow: the document's lists of extents: which may be, which are the same. -/
import Derived.Test.YtfdbadpiklmbaaaCoT
set_option linter.unusedSimpArgs false
set_option linter.unusedVariables false
set_option linter.unnecessarySimpa false
set_option maxRecDepth 100000
namespace Go.Proofs.Ytfdbadpiklmbaaa
open Go.AM

section
variable {own own' own'' : Nat → Nat} {h h' h'' h0 : AHeap} {S S' Z : Nat → Prop} {id : Nat} {ts : List T} {ps : List (Option Nat)} {v : Value}
theorem range_ok {off n : Int} (hn : inI n) (ho : inI off) : Does Try.prog 45 #[.int .i64 off, .int .i64 n] h (fun u h' => u = .bool (decide (Blks off n)) ∧ h' = h) := by
  refine spec_go mixed Try.func45 rfl Try.results45 (n := Try.f45.ntmps) (by kernel_rfl) (by simp) ?_
  unfold inI at *
  by_cases c1 : 0 ≤ off
  · by_cases c3 : 1 ≤ n
    · by_cases c2 : off ≤ 1024
      · have e1 : IntKind.i64.wrap (1024 - off) = 1024 - off := by rw [wi64] <;> omega
        by_cases c4 : n ≤ 1024 - off
        · simp only [go_sem, simprocAttr, decide_eq_true c1, decide_eq_true c2, decide_eq_true c3, e1, decide_eq_true c4]
          exact congrArg Value.bool (decide_eq_true (by unfold Blks; omega)).symm
        · simp only [go_sem, simprocAttr, decide_eq_true c1, decide_eq_true c2, decide_eq_true c3, e1, decide_eq_false c4]
          exact congrArg Value.bool (decide_eq_false (by unfold Blks; omega)).symm
      · simp only [go_sem, simprocAttr, decide_eq_true c1, decide_eq_true c3, decide_eq_false c2]
        exact congrArg Value.bool (decide_eq_false (by unfold Blks; omega)).symm
    · simp only [go_sem, simprocAttr, decide_eq_true c1, decide_eq_false c3]
      exact congrArg Value.bool (decide_eq_false (by unfold Blks; omega)).symm
  · simp only [go_sem, simprocAttr, decide_eq_false c1]
    exact congrArg Value.bool (decide_eq_false (by unfold Blks; omega)).symm
theorem rmay_ok {x : Ext} (hx : x.inI) : Does Try.prog 58 #[x.ag] h (fun u h' => u = .bool (decide x.ok) ∧ h.quiet h') := by
  obtain ⟨x1, x2, x3, x4⟩ := hx
  refine spec_go mixed Try.func58 rfl Try.results58 (n := Try.f58.ntmps) (by kernel_rfl) (by simp) ?_
  simp only [go_sem, simprocAttr, Ext.ag]
  refine cl_spec (range_ok x2 x1) (fun _ _ _ hc => absurd hc (by decide +kernel)) ?_
  rintro u k ⟨rfl, hk⟩
  obtain rfl : _ = k := hk.symm
  by_cases c0 : Blks x.off x.len
  · have c0' := c0
    unfold Blks at c0'
    have e1 : IntKind.i64.wrap (1099511627776 - x.len) = 1099511627776 - x.len := by rw [wi64] <;> omega
    by_cases c1 : 0 ≤ x.phys
    · by_cases c2 : x.phys ≤ 1099511627776 - x.len
      · by_cases c3 : 0 ≤ x.birth
        · by_cases c4 : x.birth ≤ 1099511627776
          · simp only [go_sem, simprocAttr, decide_eq_true c0, decide_eq_true c1, e1, decide_eq_true c2, decide_eq_true c3, decide_eq_true c4]
            exact congrArg Value.bool (decide_eq_true (by unfold Ext.ok; omega)).symm
          · simp only [go_sem, simprocAttr, decide_eq_true c0, decide_eq_true c1, e1, decide_eq_true c2, decide_eq_true c3, decide_eq_false c4]
            exact congrArg Value.bool (decide_eq_false (by unfold Ext.ok; omega)).symm
        · simp only [go_sem, simprocAttr, decide_eq_true c0, decide_eq_true c1, e1, decide_eq_true c2, decide_eq_false c3]
          exact congrArg Value.bool (decide_eq_false (by unfold Ext.ok; omega)).symm
      · simp only [go_sem, simprocAttr, decide_eq_true c0, decide_eq_true c1, e1, decide_eq_false c2]
        exact congrArg Value.bool (decide_eq_false (by unfold Ext.ok; omega)).symm
    · simp only [go_sem, simprocAttr, decide_eq_true c0, decide_eq_false c1]
      exact congrArg Value.bool (decide_eq_false (by unfold Ext.ok; omega)).symm
  · simp only [go_sem, simprocAttr, decide_eq_false c0]
    exact congrArg Value.bool (decide_eq_false (by unfold Ext.ok; unfold Blks at c0; omega)).symm
theorem rone_ok {a b : Ext} (ha : a.ok) (hb : b.ok) : Does Try.prog 37 #[a.ag, b.ag] h (fun u h' => u = .bool (decide (a.meets b)) ∧ h.quiet h') := by
  unfold Ext.ok at ha hb
  have e1 : IntKind.i64.wrap (a.off + a.len) = a.off + a.len := by rw [wi64] <;> omega
  have e2 : IntKind.i64.wrap (a.phys + a.len) = a.phys + a.len := by rw [wi64] <;> omega
  refine spec_go mixed Try.func37 rfl Try.results37 (n := Try.f37.ntmps) (by kernel_rfl) (by simp) ?_
  by_cases c1 : a.off + a.len = b.off
  · have c1' : (a.off + a.len = b.off) = True := eq_true c1
    by_cases c2 : a.phys + a.len = b.phys
    · have c2' : (a.phys + a.len = b.phys) = True := eq_true c2
      by_cases c3 : a.birth = b.birth
      · have c3' : (a.birth = b.birth) = True := eq_true c3
        simp only [go_sem, simprocAttr, Ext.ag, e1, e2, c1', c2', c3']
        simp [Ext.meets, c1, c2, c3]
      · have c3' : (a.birth = b.birth) = False := eq_false c3
        simp only [go_sem, simprocAttr, Ext.ag, e1, e2, c1', c2', c3']
        simp [Ext.meets, c3]
    · have c2' : (a.phys + a.len = b.phys) = False := eq_false c2
      simp only [go_sem, simprocAttr, Ext.ag, e1, e2, c1', c2']
      simp [Ext.meets, c2]
  · have c1' : (a.off + a.len = b.off) = False := eq_false c1
    simp only [go_sem, simprocAttr, Ext.ag, e1, e2, c1']
    simp [Ext.meets, c1]
theorem rList_ok {xs : List Ext} {v : Value} (hx : IsSl rExt S h xs v) : Does Try.prog 36 #[v] h (fun u h' => (∃ b : Bool, u = .bool b ∧ (b = true ↔ Lis 0 xs)) ∧ h.quiet h') := by
  obtain ⟨a, c, rfl⟩ := hx.shape
  have hlen := hx.len
  refine spec_go mixed Try.func36 rfl Try.results36 (n := Try.f36.ntmps) (by kernel_rfl) (by simp) ?_
  simp only [go_sem, simprocAttr]
  refine go_loop (fun z ρ k => ∃ (i : Nat) (la : Int), i ≤ xs.length ∧ z = xs.length - i ∧ h.quiet k ∧ (Lis 0 xs ↔ Lis la (xs.drop i)) ∧ ((i = 0 ∧ la = 0) ∨ ∃ j y, i = j + 1 ∧ xs[j]? = some y ∧ y.ok ∧ la = y.off + y.len) ∧ ρ 0 = .slice a xs.length c ∧ ρ 3 = .int .i64 i) xs.length ⟨0, 0, by omega, by omega, .refl _, by simp, .inl ⟨rfl, rfl⟩, by simp only [go_sem, simprocAttr]⟩ ?_
  rintro z ρ k ⟨i, la, hi, rfl, q, hiff, hla, r0, r3⟩
  simp only [go_sem, simprocAttr, r0, r3]
  refine cnd_decide (fun hy => ?_) (fun hy => ?_)
  · have h1 : i < xs.length := by omega
    have e9 : IntKind.i64.wrap ((i : Int) + 1) = ((i + 1 : Nat) : Int) := by rw [wi64] <;> omega
    obtain ⟨b, off, sp, cc, md, x, hA, _, hg, hxi, hxx, hle, hdt⟩ := IsSl.atX (hx.quiet q) h1
    have hdr : xs.drop i = x :: xs.drop (i + 1) := drop_cons hxi
    rw [hdr] at hiff
    have c0 : cc[off + i * 4]? = some (.int .i64 x.off) := seg_get hdt (k := 0) (by omega)
    unfold Ext.cs at hdt
    have hb : b < k.next := AHeap.lt_of_alive k (by rw [hg]; simp)
    simp only [go_sem, simprocAttr, r0, r3, hA, hg, hle, hdt, h1]
    refine cl_spec (rmay_ok hxx) (fun _ _ _ hc => absurd hc (by decide +kernel)) ?_
    rintro u k2 ⟨rfl, q2⟩
    have hg2 := (q2.2 b hb).trans hg
    have Q2 := q.trans q2
    by_cases c1 : x.ok
    · rcases hla with ⟨rfl, rfl⟩ | ⟨j, y, rfl, hyj, hyo, rfl⟩
      · have hz : ¬ (0 : Int) < ((0 : Nat) : Int) := by omega
        simp only [go_sem, simprocAttr, decide_eq_true c1, r3, decide_eq_false hz, e9]
        have hx0 : (0 : Int) ≤ x.off := by have := c1; unfold Ext.ok at this; omega
        refine Hold.mk ⟨xs.length - 1, by omega, 1, x.off + x.len, by omega, rfl, Q2, hiff.trans ⟨fun e => e.2.2, fun e => ⟨c1, hx0, e⟩⟩, .inr ⟨0, x, rfl, hxi, c1, rfl⟩, by simp only [go_sem, simprocAttr, r0, hA, show IntKind.i64.wrap 1 = 1 from rfl]⟩
      · have hz : (0 : Int) < ((j + 1 : Nat) : Int) := by omega
        obtain ⟨b', off', sp', cc', md', y', hA', _, hg', hyi', _, hle', hdt'⟩ := IsSl.atX (hx.quiet q) (i := j) (by omega)
        rw [hA] at hA'; cases hA'
        rw [hg] at hg'; cases hg'
        rw [hyj] at hyi'; cases hyi'
        have d0 : cc[off + j * 4]? = some (.int .i64 y.off) := seg_get hdt' (k := 0) (by omega)
        have d1 : cc[off + j * 4 + 1]? = some (.int .i64 y.len) := seg_get hdt' (k := 1) (by omega)
        have hyo' := hyo
        unfold Ext.ok at hyo'
        have e7 : IntKind.i64.wrap (((j + 1 : Nat) : Int) - 1) = (j : Int) := by rw [wi64] <;> omega
        have e8 : IntKind.i64.wrap (y.off + y.len) = y.off + y.len := by rw [wi64] <;> omega
        have hj : j < xs.length := by omega
        by_cases c2 : x.off < y.off + y.len
        · simp only [go_sem, simprocAttr, decide_eq_true c1, r0, r3, decide_eq_true hz, hA, hg2, h1, c0, e7, hj, d0, d1, e8, decide_eq_true c2]
          exact ⟨ans_no fun e => (by have := (hiff.1 e).2.1; omega), Q2⟩
        · simp only [go_sem, simprocAttr, decide_eq_true c1, r0, r3, decide_eq_true hz, hA, hg2, h1, c0, e7, hj, d0, d1, e8, decide_eq_false c2, e9]
          refine Hold.mk ⟨xs.length - (j + 1 + 1), by omega, j + 1 + 1, x.off + x.len, by omega, rfl, Q2, hiff.trans ⟨fun e => e.2.2, fun e => ⟨c1, by omega, e⟩⟩, .inr ⟨j + 1, x, rfl, hxi, c1, rfl⟩, by simp only [go_sem, simprocAttr, r0, hA]⟩
    · simp only [go_sem, simprocAttr, decide_eq_false c1]
      exact ⟨ans_no fun e => c1 (hiff.1 e).1, Q2⟩
  · simp only [go_sem, simprocAttr]
    have hi' : i = xs.length := by omega
    rw [hi', List.drop_eq_nil_of_le (Nat.le_refl _)] at hiff
    exact ⟨ans_yes (hiff.2 trivial), q⟩
theorem rRight_ok {xs : List Ext} {v : Value} (hx : IsSl rExt S h xs v) : Does Try.prog 17 #[v] h (fun u h' => (∃ b : Bool, u = .bool b ∧ (b = true ↔ RightL xs)) ∧ h.quiet h') := by
  obtain ⟨a, c, rfl⟩ := hx.shape
  have hlen := hx.len
  refine spec_go mixed Try.func17 rfl Try.results17 (n := Try.f17.ntmps) (by kernel_rfl) (by simp) ?_
  by_cases c1 : 1024 < xs.length
  · have c1' : (1024 : Int) < xs.length := by omega
    simp only [go_sem, simprocAttr, decide_eq_true c1']
    exact ans_no fun e => by have := e.1; omega
  have c1' : ¬ (1024 : Int) < xs.length := by omega
  simp only [go_sem, simprocAttr, decide_eq_false c1']
  refine cl_spec (rList_ok hx) (fun _ _ _ hc => absurd hc (by decide +kernel)) ?_
  rintro u k ⟨⟨b, rfl, hb⟩, q⟩
  cases b with
  | false =>
    simp only [go_sem, simprocAttr]
    exact ⟨ans_no fun e => by (have := hb.2 e.2.1; cases this), q⟩
  | true =>
    have hL := hb.1 rfl
    simp only [go_sem, simprocAttr]
    refine go_loop (fun z ρ k => ∃ (i : Nat), z = xs.length - i ∧ h.quiet k ∧ (Adj xs ↔ Adj (xs.drop i)) ∧ ρ 0 = .slice a xs.length c ∧ ρ 3 = .int .i64 ((i + 1 : Nat) : Int) ∧ i ≤ xs.length) xs.length ⟨0, by omega, q, by simp, by simp only [go_sem, simprocAttr]⟩ ?_
    rintro z ρ k ⟨i, rfl, q, hiff, r0, r3, hi⟩
    simp only [go_sem, simprocAttr, r0, r3]
    refine cnd_decide (fun hy => ?_) (fun hy => ?_)
    · have h2 : i + 1 < xs.length := by omega
      have h1 : i < xs.length := by omega
      have e9 : IntKind.i64.wrap (((i + 1 : Nat) : Int) + 1) = ((i + 1 + 1 : Nat) : Int) := by rw [wi64] <;> omega
      have e7 : IntKind.i64.wrap (((i + 1 : Nat) : Int) - 1) = (i : Int) := by rw [wi64] <;> omega
      obtain ⟨b, off, sp, cc, md, x, hA, _, hg, hxi, hxx, hle, hdt⟩ := IsSl.atX (hx.quiet q) h1
      obtain ⟨b2, off2, sp2, cc2, md2, y, hA2, _, hg2, hyi, hyy, hle2, hdt2⟩ := IsSl.atX (hx.quiet q) h2
      rw [hA] at hA2
      cases hA2
      rw [hg] at hg2
      cases hg2
      have hdr : xs.drop i = x :: y :: xs.drop (i + 2) := by rw [drop_cons hxi, drop_cons hyi]
      have hdr1 : xs.drop (i + 1) = y :: xs.drop (i + 2) := drop_cons hyi
      rw [hdr] at hiff
      unfold Ext.cs at hdt hdt2
      simp only [go_sem, simprocAttr, r0, r3, e7, hA, hg, hle, hdt, h1, h2, hle2, hdt2]
      refine cl_spec (rone_ok (hL.oks x (List.mem_of_getElem? hxi)) (hL.oks y (List.mem_of_getElem? hyi))) (fun _ _ _ hc => absurd hc (by decide +kernel)) ?_
      rintro u k2 ⟨rfl, q2⟩
      by_cases cm : x.meets y
      · simp only [go_sem, simprocAttr, decide_eq_true cm]
        exact ⟨ans_no fun e => (hiff.1 e.2.2).1 cm, q.trans q2⟩
      · simp only [go_sem, simprocAttr, decide_eq_false cm, r3, e9]
        refine Hold.mk ⟨xs.length - (i + 1), by omega, i + 1, rfl, q.trans q2, ?_, by simp only [go_sem, simprocAttr, r0, hA]; omega⟩
        rw [hdr1]
        exact hiff.trans ⟨fun e => e.2, fun e => ⟨cm, e⟩⟩
    · simp only [go_sem, simprocAttr]
      have : Adj (xs.drop i) := by
        have hl : (xs.drop i).length ≤ 1 := by rw [List.length_drop]; omega
        match xs.drop i, hl with
        | [], _ => trivial
        | [_], _ => trivial
      exact ⟨ans_yes ⟨by omega, hL, hiff.2 this⟩, q⟩
theorem same_ok {xs ys : List Ext} {v w : Value} (hx : IsSl rExt S h xs v) (hy : IsSl rExt S' h ys w) : Does Try.prog 18 #[v, w] h (fun u h' => u = .bool (decide (xs = ys)) ∧ h' = h) := by
  obtain ⟨a, c, rfl⟩ := hx.shape
  obtain ⟨a2, c2, rfl⟩ := hy.shape
  have hlen := hx.len
  have hlen2 := hy.len
  refine spec_go mixed Try.func18 rfl Try.results18 (n := Try.f18.ntmps) (by kernel_rfl) (by simp) ?_
  by_cases hl : xs.length = ys.length
  · have hl' : ((xs.length : Int) = ys.length) = True := eq_true (by omega)
    simp only [go_sem, simprocAttr, hl']
    refine go_loop (fun z ρ k => ∃ (i : Nat), i ≤ xs.length ∧ z = xs.length - i ∧ h = k ∧ xs.take i = ys.take i ∧ ρ 0 = .slice a xs.length c ∧ ρ 1 = .slice a2 ys.length c2 ∧ ρ 5 = .int .i64 i) xs.length ⟨0, by omega, by omega, rfl, by simp, by simp only [go_sem, simprocAttr]⟩ ?_
    rintro z ρ k ⟨i, hi, rfl, rfl, ht, r0, r1, r5⟩
    simp only [go_sem, simprocAttr, r0, r1, r5]
    refine cnd_decide (fun hz => ?_) (fun hz => ?_)
    · have h1 : i < xs.length := by omega
      have h2 : i < ys.length := by omega
      have e9 : IntKind.i64.wrap ((i : Int) + 1) = ((i + 1 : Nat) : Int) := by rw [wi64] <;> omega
      obtain ⟨b, off, sp, cc, md, x, hA, _, hg, hxi, hxx, hle, hdt⟩ := IsSl.atX hx h1
      obtain ⟨b2, off2, sp2, cc2, md2, y, hA2, _, hg2, hyi, hyy, hle2, hdt2⟩ := IsSl.atX hy h2
      unfold Ext.cs at hdt hdt2
      simp only [go_sem, simprocAttr, r0, r1, r5, hA, hA2, hg, hg2, hle, hle2, hdt, hdt2, h1, h2]
      have hb' : ∀ B : Bool, B = (decide (x.off = y.off) && (decide (x.len = y.len) && (decide (x.phys = y.phys) && decide (x.birth = y.birth)))) → (B = true ↔ x = y) := by
        rintro B rfl
        cases x; cases y
        simp only [Bool.and_eq_true, decide_eq_true_eq, Ext.mk.injEq]
      have hB := hb' _ rfl
      generalize (decide (x.off = y.off) && (decide (x.len = y.len) && (decide (x.phys = y.phys) && decide (x.birth = y.birth)))) = B at hB
      cases B with
      | true =>
        have hxy := hB.1 rfl
        simp only [go_sem, simprocAttr, r5, e9]
        refine Hold.mk ⟨xs.length - (i + 1), by omega, i + 1, by omega, rfl, rfl, ?_, by simp only [go_sem, simprocAttr, r0, r1, hA, hA2]⟩
        rw [List.take_add_one, List.take_add_one, ht, hxi, hyi, hxy]
      | false =>
        simp only [go_sem, simprocAttr]
        refine congrArg Value.bool (decide_eq_false fun e => ?_).symm
        rw [e, hyi] at hxi
        have := hB.2 (Option.some.inj hxi).symm
        cases this
    · have hi' : i = xs.length := by omega
      subst hi'
      rw [List.take_length, hl, List.take_length] at ht
      simp only [go_sem, simprocAttr]
      exact congrArg Value.bool (decide_eq_true ht).symm
  · have hl' : ((xs.length : Int) = ys.length) = False := eq_false (by omega)
    simp only [go_sem, simprocAttr, hl']
    exact congrArg Value.bool (decide_eq_false fun e => hl (by rw [e])).symm
end
end Go.Proofs.Ytfdbadpiklmbaaa
