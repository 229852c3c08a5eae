/- stream: what is the same. -/
import Derived.Test.YtolnacokdjognaaStD
set_option linter.unusedSimpArgs false
set_option linter.unusedVariables false
set_option linter.unnecessarySimpa false
set_option maxRecDepth 100000
namespace Go.Proofs.Ytolnacokdjognaa
open Go.AM
section
variable {h k : AHeap} {S S' Z : Nat → Prop} {v w : Value}
theorem take_step {α : Type} {xs ys : List α} {i : Nat} {x y : α} (h : xs.take i = ys.take i) (hx : xs[i]? = some x) (hy : ys[i]? = some y) (e : x = y) : xs.take (i + 1) = ys.take (i + 1) := by
  rw [List.take_add_one, List.take_add_one, h, hx, hy, e]
theorem Words_ok {xs ys : List Nat} (hx : Words S h xs v) (hy : Words S' h ys w) : Does Try.prog 52 #[v, w] h (fun u h' => u = .bool (decide (xs = ys)) ∧ h' = h) := by
  obtain ⟨a, c, rfl⟩ := hx.shape
  obtain ⟨a2, c2, rfl⟩ := hy.shape
  have hxl := hx.len
  have hyl := hy.len
  refine spec_go mixed Try.func52 rfl Try.results52 (n := Try.f52.ntmps) (by kernel_rfl) (by simp) ?_
  simp only [go_sem, simprocAttr]
  by_cases hl : xs.length = ys.length
  · have hl' : (xs.length : Int) = ys.length := by omega
    simp only [go_sem, simprocAttr, hl', decide_true, decide_false]
    refine go_loop (fun z ρ k => ∃ i : Nat, i ≤ xs.length ∧ z = xs.length - i ∧ k = h ∧ xs.take i = ys.take i ∧ ρ 0 = .slice a xs.length c ∧ ρ 1 = .slice a2 ys.length c2 ∧ ρ 5 = .int .i64 i) xs.length ⟨0, by omega, by omega, rfl, rfl, by simp only [go_sem, simprocAttr]⟩ ?_
    rintro z ρ k ⟨i, hi, rfl, rfl, ht, r0, r1, r5⟩
    simp only [go_sem, simprocAttr, r0, r1, r5]
    refine cnd_decide (fun hq => ?_) (fun hq => ?_)
    · have h1 : i < xs.length := by omega
      have h2 : i < ys.length := by omega
      obtain ⟨b, off, sp, cc, md, x, hA, _, hg, hxi, _, hc⟩ := hx.atN h1
      obtain ⟨b', off', sp', cc', md', y, hA', _, hg', hyi, _, hc'⟩ := hy.atN h2
      have e9 : IntKind.i64.wrap ((i : Int) + 1) = ((i + 1 : Nat) : Int) := by rw [wi64] <;> omega
      simp only [go_sem, simprocAttr, r0, r1, r5, hA, hA', hg, hg', hc, hc', h1, h2]
      by_cases e : x = y
      · have e' : (x : Int) = y := by omega
        simp only [go_sem, simprocAttr, r0, r1, r5, e', decide_true, decide_false, e9]
        exact Hold.mk ⟨xs.length - (i + 1), by omega, i + 1, by omega, rfl, rfl, take_step ht hxi hyi e, by simp only [go_sem, simprocAttr, r0, r1, hA, hA']⟩
      · have e' : ¬ (x : Int) = y := by omega
        simp only [go_sem, simprocAttr, r0, r1, r5, e', decide_true, decide_false]
        rw [decide_eq_false (fun e2 => by subst e2; rw [hxi] at hyi; cases hyi; exact e rfl)]
    · have : i = xs.length := by omega
      subst this
      rw [List.take_length, hl, List.take_length] at ht
      simp only [go_sem, simprocAttr, ht, decide_true]
  · have hl' : ¬ (xs.length : Int) = ys.length := by omega
    simp only [go_sem, simprocAttr, hl', decide_true, decide_false]
    rw [decide_eq_false (fun e => hl (by rw [e]))]
theorem One_ok {m n : Rec} (hv : Words S h m.data v) (hw : Words S' h n.data w) : Does Try.prog 30 #[.agg (m.cs v).toArray, .agg (n.cs w).toArray] h (fun u h' => u = .bool (decide (m = n)) ∧ h.quiet h') := by
  obtain ⟨a, c, rfl⟩ := hv.shape
  obtain ⟨a2, c2, rfl⟩ := hw.shape
  refine spec_go mixed Try.func30 rfl Try.results30 (n := Try.f30.ntmps) (by kernel_rfl) (by simp) ?_
  simp only [go_sem, simprocAttr, rc_len, rc_one, rc_take, rc_put]
  have q0 : h.quiet ((h.push (.cells (m.cs (.slice a m.data.length c)) .rw)).push (.cells (n.cs (.slice a2 n.data.length c2)) .rw)) := (AHeap.quiet.push _ _).push' _
  have g0 : ((h.push (.cells (m.cs (.slice a m.data.length c)) .rw)).push (.cells (n.cs (.slice a2 n.data.length c2)) .rw)).get h.next = .cells (m.cs (.slice a m.data.length c)) .rw := by simp only [go_sem, simprocAttr]
  have g1 : ((h.push (.cells (m.cs (.slice a m.data.length c)) .rw)).push (.cells (n.cs (.slice a2 n.data.length c2)) .rw)).get (h.next + 1) = .cells (n.cs (.slice a2 n.data.length c2)) .rw := by simp only [go_sem, simprocAttr]
  generalize (h.push (.cells (m.cs (.slice a m.data.length c)) .rw)).push (.cells (n.cs (.slice a2 n.data.length c2)) .rw) = k at q0 g0 g1
  have hx := hv.quiet q0
  have hy := hw.quiet q0
  simp only [go_sem, simprocAttr, g0, g1, rc_0]
  by_cases e0 : m.kd = n.kd
  · simp only [go_sem, simprocAttr, e0, eq_self, decide_true, g0, g1, rc_1]
    by_cases e1 : m.sh = n.sh
    · simp only [go_sem, simprocAttr, e0, e1, eq_self, decide_true, g0, g1, rc_2]
      by_cases e2 : m.sn = n.sn
      · simp only [go_sem, simprocAttr, e0, e1, e2, eq_self, decide_true, g0, g1, rc_3]
        by_cases e3 : m.ba = n.ba
        · simp only [go_sem, simprocAttr, e0, e1, e2, e3, eq_self, decide_true, g0, g1, rc_4]
          by_cases e4 : m.mp = n.mp
          · simp only [go_sem, simprocAttr, e0, e1, e2, e3, e4, eq_self, decide_true, g0, g1, rc_5]
            by_cases e5 : m.of_ = n.of_
            · simp only [go_sem, simprocAttr, e0, e1, e2, e3, e4, e5, eq_self, decide_true, g0, g1, rc_6]
              by_cases e6 : m.ln = n.ln
              · simp only [go_sem, simprocAttr, e0, e1, e2, e3, e4, e5, e6, eq_self, decide_true, g0, g1, rc_7]
                refine cl_spec (Words_ok hx hy) (fun _ _ _ hc => absurd hc (by decide +kernel)) ?_
                rintro u k2 ⟨rfl, rfl⟩
                simp only [go_sem, simprocAttr]
                refine ⟨congrArg Value.bool (decide_eq_decide.2 ⟨fun e => ?_, fun e => by rw [e]⟩), q0⟩
                obtain ⟨x0, x1, x2, x3, x4, x5, x6, x7⟩ := m
                obtain ⟨y0, y1, y2, y3, y4, y5, y6, y7⟩ := n
                simp_all
              · simp only [go_sem, simprocAttr, e0, e1, e2, e3, e4, e5, e6, eq_self, decide_true, decide_false]
                exact ⟨by rw [decide_eq_false (fun e => e6 (by rw [e]))], q0⟩
            · simp only [go_sem, simprocAttr, e0, e1, e2, e3, e4, e5, eq_self, decide_true, decide_false]
              exact ⟨by rw [decide_eq_false (fun e => e5 (by rw [e]))], q0⟩
          · simp only [go_sem, simprocAttr, e0, e1, e2, e3, e4, eq_self, decide_true, decide_false]
            exact ⟨by rw [decide_eq_false (fun e => e4 (by rw [e]))], q0⟩
        · simp only [go_sem, simprocAttr, e0, e1, e2, e3, eq_self, decide_true, decide_false]
          exact ⟨by rw [decide_eq_false (fun e => e3 (by rw [e]))], q0⟩
      · simp only [go_sem, simprocAttr, e0, e1, e2, eq_self, decide_true, decide_false]
        exact ⟨by rw [decide_eq_false (fun e => e2 (by rw [e]))], q0⟩
    · simp only [go_sem, simprocAttr, e0, e1, eq_self, decide_true, decide_false]
      exact ⟨by rw [decide_eq_false (fun e => e1 (by rw [e]))], q0⟩
  · simp only [go_sem, simprocAttr, e0, eq_self, decide_true, decide_false]
    exact ⟨by rw [decide_eq_false (fun e => e0 (by rw [e]))], q0⟩
theorem Same_ok {xs ys : List Rec} (hx : IsSl rRec S h xs v) (hy : IsSl rRec S' h ys w) : Does Try.prog 13 #[v, w] h (fun u h' => u = .bool (decide (xs = ys)) ∧ h.quiet h') := by
  obtain ⟨a, c, rfl⟩ := hx.shape
  obtain ⟨a2, c2, rfl⟩ := hy.shape
  have hxl := hx.len
  have hyl := hy.len
  refine spec_go mixed Try.func13 rfl Try.results13 (n := Try.f13.ntmps) (by kernel_rfl) (by simp) ?_
  simp only [go_sem, simprocAttr]
  by_cases hl : xs.length = ys.length
  · have hl' : (xs.length : Int) = ys.length := by omega
    simp only [go_sem, simprocAttr, hl', decide_true, decide_false]
    refine go_loop (fun z ρ k => ∃ i : Nat, i ≤ xs.length ∧ z = xs.length - i ∧ h.quiet k ∧ xs.take i = ys.take i ∧ ρ 0 = .slice a xs.length c ∧ ρ 1 = .slice a2 ys.length c2 ∧ ρ 5 = .int .i64 i) xs.length ⟨0, by omega, by omega, .refl _, rfl, by simp only [go_sem, simprocAttr]⟩ ?_
    rintro z ρ k ⟨i, hi, rfl, q, ht, r0, r1, r5⟩
    simp only [go_sem, simprocAttr, r0, r1, r5]
    refine cnd_decide (fun hq => ?_) (fun hq => ?_)
    · have h1 : i < xs.length := by omega
      have h2 : i < ys.length := by omega
      obtain ⟨b, off, sp, cc, md, x, lv, hA, _, hg, hxi, hlv, _, hle, hdt⟩ := IsSl.atR (hx.quiet q) h1
      obtain ⟨b', off', sp', cc', md', y, lw, hA', _, hg', hyi, hlw, _, hle', hdt'⟩ := IsSl.atR (hy.quiet q) h2
      obtain ⟨al, cl, rfl⟩ := hlv.shape
      obtain ⟨al', cl', rfl⟩ := hlw.shape
      have e9 : IntKind.i64.wrap ((i : Int) + 1) = ((i + 1 : Nat) : Int) := by rw [wi64] <;> omega
      simp only [go_sem, simprocAttr, r0, r1, r5, hA, hA', hg, hg', hle, hle', hdt, hdt', h1, h2, rc_len, rc_one, rc_take, rc_put]
      refine cl_spec (One_ok hlv hlw) (fun _ _ _ hc => absurd hc (by decide +kernel)) ?_
      rintro u k2 ⟨rfl, q2⟩
      by_cases e : x = y
      · simp only [go_sem, simprocAttr, r0, r1, r5, e, eq_self, decide_true, e9]
        exact Hold.mk ⟨xs.length - (i + 1), by omega, i + 1, by omega, rfl, q.trans q2, take_step ht hxi hyi e, by simp only [go_sem, simprocAttr, r0, r1, hA, hA']⟩
      · simp only [go_sem, simprocAttr, r0, r1, r5, e, decide_false]
        rw [decide_eq_false (fun e2 => by subst e2; rw [hxi] at hyi; cases hyi; exact e rfl)]
        exact ⟨rfl, q.trans q2⟩
    · have : i = xs.length := by omega
      subst this
      rw [List.take_length, hl, List.take_length] at ht
      simp only [go_sem, simprocAttr, ht, eq_self, decide_true]
      exact q
  · have hl' : ¬ (xs.length : Int) = ys.length := by omega
    simp only [go_sem, simprocAttr, hl', decide_true, decide_false]
    rw [decide_eq_false (fun e => hl (by rw [e]))]
end
end Go.Proofs.Ytolnacokdjognaa
