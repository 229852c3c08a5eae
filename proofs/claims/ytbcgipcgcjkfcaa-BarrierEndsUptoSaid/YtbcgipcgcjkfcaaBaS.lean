/- barrier: the world of the laws: how it begins, what is told of it, and that a script is short. -/
import Derived.Test.YtbcgipcgcjkfcaaBaR
set_option linter.unusedSimpArgs false
set_option linter.unusedVariables false
set_option linter.unnecessarySimpa false
set_option maxRecDepth 100000
namespace Go.Proofs.Ytbcgipcgcjkfcaa
open Go.AM

section
variable {own own' own'' : Nat → Nat} {h h' h'' : AHeap} {pc id : Nat} {ps : List Nat} {vg vo vn vi : Value} {w : Wd} {Z : Nat → Prop}

theorem WdAt.step {W : Wd} (ha : WdAt own h id W) : W.co.step.length ≤ 16 := by
  obtain ⟨_, pc, ps, vg, vo, vn, vi, _, c⟩ := ha
  obtain ⟨_, hgd, _⟩ := c.co
  unfold Co.step; split
  · exact Nat.zero_le _
  · rw [List.length_map]; exact hgd.2.2.2.2.2.1
theorem Bnd.order {n : Nat} {W : Wd} (b : Bnd n W) (o : Int × Int × Int) : Bnd (n + 1) (W.order o) := by
  have up1 : Bnd (n + 1) W := ⟨fun a ha => Nat.le_succ_of_le (b.a a ha), b.o, b.q, Nat.le_succ_of_le b.i⟩
  unfold Wd.order
  split
  · exact up1
  split
  · exact up1
  rename_i a hi
  refine ⟨fun a' ha => ?_, b.o, ?_, Nat.le_succ_of_le b.i⟩
  · rcases List.mem_or_eq_of_mem_set ha with h1 | rfl
    · exact up1.a a' h1
    · exact Nat.le_trans (com_le _ _ _) (Nat.succ_le_succ (b.a a (List.mem_of_getElem? hi)))
  · show (if _ then _ else _ : List _).length ≤ 300
    split
    · simp; omega
    · exact b.q
theorem Bnd.do {n : Nat} {W : Wd} (b : Bnd n W) (hs : W.co.step.length ≤ 16) (d : Dd) : Bnd (n + 1) (W.do d) := by
  have up1 : Bnd (n + 1) W := ⟨fun a ha => Nat.le_succ_of_le (b.a a ha), b.o, b.q, Nat.le_succ_of_le b.i⟩
  unfold Wd.do
  split
  · refine ⟨up1.a, b.o, b.q, ?_⟩
    show (if _ then _ else _ : List _).length ≤ _
    split
    · simpa using b.i
    · exact up1.i
  split
  · split
    · refine ⟨up1.a, ?_, b.q, up1.i⟩
      show (_ ++ _ : List _).length ≤ 320
      rw [List.length_append]; omega
    · exact up1
  split
  · split
    · exact up1
    split
    · exact up1
    have b1 : Bnd n (if d.kind % 8 ≠ 3 then { W with ords := W.ords.eraseIdx d.i.toNat } else W) := by
      split
      · exact ⟨b.a, Nat.le_trans (List.length_eraseIdx_le _ _) b.o, b.q, b.i⟩
      · exact b
    dsimp only
    split
    · exact b1.order _
    · exact ⟨fun a ha => Nat.le_succ_of_le (b1.a a ha), b1.o, b1.q, Nat.le_succ_of_le b1.i⟩
  split
  · split
    · exact up1
    split
    · exact up1
    exact ⟨up1.a, b.o, Nat.le_trans (List.length_eraseIdx_le _ _) b.q, up1.i⟩
  split
  · split
    · exact up1
    split
    · exact up1
    rename_i a hi
    refine ⟨fun a' ha => ?_, b.o, b.q, up1.i⟩
    rcases List.mem_or_eq_of_mem_set ha with h1 | rfl
    · exact up1.a a' h1
    · exact up1.a a (List.mem_of_getElem? hi)
  split <;> exact ⟨up1.a, b.o, b.q, up1.i⟩

theorem right_ok {W : Wd} (ha : WdAt own h id W) (hr : W.right) : Does Try.prog 37 #[.pointer (some ⟨id, 0, none⟩)] h (fun u h' => u = .bool true ∧ h' = h) := by
  obtain ⟨h6, pc, ps, vg, vo, vn, vi, hg, c⟩ := ha
  obtain ⟨ai, ci, rfl⟩ := c.is.sl.shape
  have hli := c.is.sl.len
  obtain ⟨ag, cg, rfl⟩ := c.pl.shape
  have hlg := c.pl.len
  refine spec_go mixed Try.func37 rfl Try.results37 (n := Try.f37.ntmps) (by kernel_rfl) (by simp) ?_
  simp only [go_sem, simprocAttr, hg, wdV]
  refine go_loop (fun z ρ k => ∃ i : Nat, i ≤ W.ids.length ∧ z = W.ids.length - i ∧ h = k ∧ ρ 0 = .pointer (some ⟨id, 0, none⟩) ∧ ρ 12 = .slice ai W.ids.length ci ∧ ρ 13 = .int .i64 W.ids.length ∧ ρ 14 = .int .i64 i) W.ids.length ⟨0, by omega, by omega, rfl, by simp only [go_sem, simprocAttr]⟩ ?_
  rintro z ρ k ⟨i, hi, rfl, rfl, r0, r12, r13, r14⟩
  simp only [go_sem, simprocAttr, r0, r12, r13, r14]
  refine cnd_decide (fun hx => ?_) (fun hx => ?_)
  · have h1 : i < W.ids.length := by omega
    have e9 : IntKind.i64.wrap ((i : Int) + 1) = ((i + 1 : Nat) : Int) := by rw [wi64] <;> omega
    obtain ⟨b, off, sp, cc, md, x, rfl, _, hgb, hxi, hxx, hcc⟩ := c.is.sl.atI h1
    obtain ⟨f1, f2, f3⟩ := hr x (List.mem_of_getElem? hxi)
    simp only [go_sem, simprocAttr, r0, r12, r13, r14, hgb, hcc, h1, hg, wdV]
    refine go_loop (fun z ρ k => ∃ (j : Nat) (s l : Bool), j ≤ ps.length ∧ z = ps.length - j ∧ h = k ∧ (s = true ↔ ∃ a ∈ W.ags.take j, x ∈ a.com) ∧ (l = true ↔ ∀ a ∈ W.ags.take j, x ∈ a.com ∨ a.pre = x) ∧
      ρ 0 = .pointer (some ⟨id, 0, none⟩) ∧ ρ 12 = .slice (some ⟨b, off, sp⟩) W.ids.length ci ∧ ρ 13 = .int .i64 W.ids.length ∧ ρ 14 = .int .i64 i ∧ ρ 4 = .int .i64 x ∧ ρ 5 = .bool s ∧ ρ 6 = .bool l ∧ ρ 21 = .slice ag ps.length cg ∧ ρ 22 = .int .i64 ps.length ∧ ρ 23 = .int .i64 j) ps.length
      ⟨0, false, true, by omega, by omega, rfl, by simp, by simp, by simp only [go_sem, simprocAttr, r0, r12, r13, r14]⟩ ?_
    rintro z ρ k ⟨j, s, l, hj, rfl, rfl, hs, hl, r0, r12, r13, r14, r4, r5, r6, r21, r22, r23⟩
    simp only [go_sem, simprocAttr, r0, r12, r13, r14, r4, r5, r6, r21, r22, r23]
    refine cnd_decide (fun hy => ?_) (fun hy => ?_)
    · have h2 : j < ps.length := by omega
      have e8 : IntKind.i64.wrap ((j : Int) + 1) = ((j + 1 : Nat) : Int) := by rw [wi64] <;> omega
      obtain ⟨b2, off2, sp2, cc2, md2, v, p, hA, _, hgb2, hpi, hR, hcc2⟩ := c.pl.at1 rfl h2
      obtain rfl : v = _ := by simpa using rP_iff.1 hR
      obtain ⟨a, hai, hag⟩ := c.lt hpi
      have et : W.ags.take (j + 1) = W.ags.take j ++ [a] := by rw [List.take_add_one, hai]; rfl
      have fin : ∀ s' l' : Bool, s' = (s || decide (x ∈ a.com)) → l' = (l && (decide (x ∈ a.com) || decide (a.pre = x))) → (s' = true ↔ ∃ a ∈ W.ags.take (j + 1), x ∈ a.com) ∧ (l' = true ↔ ∀ a ∈ W.ags.take (j + 1), x ∈ a.com ∨ a.pre = x) := by
        rintro s' l' rfl rfl
        rw [et, Bool.or_eq_true, Bool.and_eq_true, Bool.or_eq_true, decide_eq_true_eq, decide_eq_true_eq, hs, hl]
        constructor
        · constructor
          · rintro (⟨b, hb, h⟩ | h)
            · exact ⟨b, List.mem_append_left _ hb, h⟩
            · exact ⟨a, by simp, h⟩
          · rintro ⟨b, hb, h⟩
            rcases List.mem_append.1 hb with hb | hb
            · exact .inl ⟨b, hb, h⟩
            · obtain rfl : b = a := by simpa using hb
              exact .inr h
        · constructor
          · rintro ⟨h1, h2⟩ b hb
            rcases List.mem_append.1 hb with hb | hb
            · exact h1 b hb
            · obtain rfl : b = a := by simpa using hb
              exact h2
          · exact fun h => ⟨fun b hb => h b (List.mem_append_left _ hb), h a (by simp)⟩
      cases s with
      | true =>
        cases l with
        | false =>
          simp only [go_sem, simprocAttr, r0, r12, r13, r14, r4, r21, r22, r23, hA, hgb2, hcc2, h2, e8, r5, r6]
          obtain ⟨f4, f5⟩ := fin (true) (false) (by simp) (by simp)
          exact Hold.mk ⟨ps.length - (j + 1), by omega, j + 1, _, _, by omega, rfl, rfl, f4, f5, by simp only [go_sem, simprocAttr, r0, r12, r13, r14, r4, r21, r22, hA]⟩
        | true =>
          simp only [go_sem, simprocAttr, r0, r12, r13, r14, r4, r21, r22, r23, hA, hgb2, hcc2, h2, e8, r5, r6]
          refine cl_spec (aCommitted_ok hag) (fun _ _ _ hc => absurd hc (by decide +kernel)) ?_
          rintro u k ⟨rfl, hk⟩
          obtain rfl : h = k := hk.symm
          by_cases hc : x ∈ a.com
          · simp only [go_sem, simprocAttr, r0, r12, r13, r14, r4, r21, r22, r23, hA, hgb2, hcc2, h2, e8, decide_eq_true hc]
            obtain ⟨f4, f5⟩ := fin (true) (true) (by simp [hc]) (by simp [hc])
            exact Hold.mk ⟨ps.length - (j + 1), by omega, j + 1, _, _, by omega, rfl, rfl, f4, f5, by simp only [go_sem, simprocAttr, r0, r12, r13, r14, r4, r21, r22, hA]⟩
          · simp only [go_sem, simprocAttr, r0, r12, r13, r14, r4, r21, r22, r23, hA, hgb2, hcc2, h2, e8, decide_eq_false hc]
            refine cl_spec (aPrepared_ok hag) (fun _ _ _ hc => absurd hc (by decide +kernel)) ?_
            rintro u k ⟨rfl, hk⟩
            obtain rfl : h = k := hk.symm
            simp only [go_sem, simprocAttr, r0, r12, r13, r14, r4, r21, r22, r23, hA, hgb2, hcc2, h2, e8]
            obtain ⟨f4, f5⟩ := fin (true) (decide (a.pre = x)) (by simp [hc]) (by simp [hc])
            exact Hold.mk ⟨ps.length - (j + 1), by omega, j + 1, _, _, by omega, rfl, rfl, f4, f5, by simp only [go_sem, simprocAttr, r0, r12, r13, r14, r4, r21, r22, hA]⟩
      | false =>
        simp only [go_sem, simprocAttr, r0, r12, r13, r14, r4, r21, r22, r23, hA, hgb2, hcc2, h2, e8, r5, r6]
        refine cl_spec (aCommitted_ok hag) (fun _ _ _ hc => absurd hc (by decide +kernel)) ?_
        rintro u k ⟨rfl, hk⟩
        obtain rfl : h = k := hk.symm
        by_cases hc : x ∈ a.com
        · cases l with
          | false =>
            simp only [go_sem, simprocAttr, r0, r12, r13, r14, r4, r21, r22, r23, hA, hgb2, hcc2, h2, e8, r5, r6, decide_eq_true hc]
            obtain ⟨f4, f5⟩ := fin (true) (false) (by simp [hc]) (by simp [hc])
            exact Hold.mk ⟨ps.length - (j + 1), by omega, j + 1, _, _, by omega, rfl, rfl, f4, f5, by simp only [go_sem, simprocAttr, r0, r12, r13, r14, r4, r21, r22, hA]⟩
          | true =>
            simp only [go_sem, simprocAttr, r0, r12, r13, r14, r4, r21, r22, r23, hA, hgb2, hcc2, h2, e8, r5, r6, decide_eq_true hc]
            refine cl_spec (aCommitted_ok hag) (fun _ _ _ hc => absurd hc (by decide +kernel)) ?_
            rintro u k ⟨rfl, hk⟩
            obtain rfl : h = k := hk.symm
            simp only [go_sem, simprocAttr, r0, r12, r13, r14, r4, r21, r22, r23, hA, hgb2, hcc2, h2, e8, decide_eq_true hc]
            obtain ⟨f4, f5⟩ := fin (true) (true) (by simp [hc]) (by simp [hc])
            exact Hold.mk ⟨ps.length - (j + 1), by omega, j + 1, _, _, by omega, rfl, rfl, f4, f5, by simp only [go_sem, simprocAttr, r0, r12, r13, r14, r4, r21, r22, hA]⟩
        · cases l with
          | false =>
            simp only [go_sem, simprocAttr, r0, r12, r13, r14, r4, r21, r22, r23, hA, hgb2, hcc2, h2, e8, r5, r6, decide_eq_false hc]
            obtain ⟨f4, f5⟩ := fin (false) (false) (by simp [hc]) (by simp [hc])
            exact Hold.mk ⟨ps.length - (j + 1), by omega, j + 1, _, _, by omega, rfl, rfl, f4, f5, by simp only [go_sem, simprocAttr, r0, r12, r13, r14, r4, r21, r22, hA]⟩
          | true =>
            simp only [go_sem, simprocAttr, r0, r12, r13, r14, r4, r21, r22, r23, hA, hgb2, hcc2, h2, e8, r5, r6, decide_eq_false hc]
            refine cl_spec (aCommitted_ok hag) (fun _ _ _ hc => absurd hc (by decide +kernel)) ?_
            rintro u k ⟨rfl, hk⟩
            obtain rfl : h = k := hk.symm
            simp only [go_sem, simprocAttr, r0, r12, r13, r14, r4, r21, r22, r23, hA, hgb2, hcc2, h2, e8, decide_eq_false hc]
            refine cl_spec (aPrepared_ok hag) (fun _ _ _ hc => absurd hc (by decide +kernel)) ?_
            rintro u k ⟨rfl, hk⟩
            obtain rfl : h = k := hk.symm
            simp only [go_sem, simprocAttr, r0, r12, r13, r14, r4, r21, r22, r23, hA, hgb2, hcc2, h2, e8]
            obtain ⟨f4, f5⟩ := fin (false) (decide (a.pre = x)) (by simp [hc]) (by simp [hc])
            exact Hold.mk ⟨ps.length - (j + 1), by omega, j + 1, _, _, by omega, rfl, rfl, f4, f5, by simp only [go_sem, simprocAttr, r0, r12, r13, r14, r4, r21, r22, hA]⟩
    · have hjj : j = ps.length := by omega
      rw [hjj, c.ln, List.take_length] at hs hl
      have g1 : s = true → l = true ∧ W.co.state x = 2 := fun e => ⟨hl.2 (f1 (hs.1 e)).1, (f1 (hs.1 e)).2⟩
      have g2 : W.co.state x = 2 → l = true := fun e => hl.2 (f2 e)
      cases s with
      | true =>
        obtain ⟨rfl, e2⟩ := g1 rfl
        simp only [go_sem, simprocAttr, r0, r12, r13, r14, r4, r5, r6, hg, wdV]
        refine cl_spec (cState_ok c.co) (fun _ _ _ hc => absurd hc (by decide +kernel)) ?_
        rintro u k ⟨rfl, hk⟩
        obtain rfl : h = k := hk.symm
        rw [e2]
        simp only [go_sem, simprocAttr, r0, r12, r13, r14, r4, r5, r6, hg, wdV]
        refine cl_spec (cState_ok c.co) (fun _ _ _ hc => absurd hc (by decide +kernel)) ?_
        rintro u k ⟨rfl, hk⟩
        obtain rfl : h = k := hk.symm
        rw [e2]
        simp only [go_sem, simprocAttr, r0, r12, r13, r14, r4, r5, r6, hg, wdV]
        refine cl_spec (cState_ok c.co) (fun _ _ _ hc => absurd hc (by decide +kernel)) ?_
        rintro u k ⟨rfl, hk⟩
        obtain rfl : h = k := hk.symm
        rw [e2]
        simp only [go_sem, simprocAttr, r0, r12, r13, r14, r4, r5, r6, hg, wdV, e9]
        exact Hold.mk ⟨W.ids.length - (i + 1), by omega, i + 1, by omega, rfl, rfl, by simp only [go_sem, simprocAttr, r0, r12, r13]⟩
      | false =>
        simp only [go_sem, simprocAttr, r0, r12, r13, r14, r4, r5, r6, hg, wdV]
        refine cl_spec (cState_ok c.co) (fun _ _ _ hc => absurd hc (by decide +kernel)) ?_
        rintro u k ⟨rfl, hk⟩
        obtain rfl : h = k := hk.symm
        by_cases e2 : W.co.state x = 2
        · obtain rfl := g2 e2
          rw [e2]
          simp only [go_sem, simprocAttr, r0, r12, r13, r14, r4, r5, r6, hg, wdV]
          refine cl_spec (cState_ok c.co) (fun _ _ _ hc => absurd hc (by decide +kernel)) ?_
          rintro u k ⟨rfl, hk⟩
          obtain rfl : h = k := hk.symm
          rw [e2]
          simp only [go_sem, simprocAttr, r0, r12, r13, r14, r4, r5, r6, hg, wdV, e9]
          exact Hold.mk ⟨W.ids.length - (i + 1), by omega, i + 1, by omega, rfl, rfl, by simp only [go_sem, simprocAttr, r0, r12, r13]⟩
        · have e2' : (W.co.state x = 2) = False := eq_false e2
          simp only [go_sem, simprocAttr, r0, r12, r13, r14, r4, r5, r6, hg, wdV, e2']
          refine cl_spec (cState_ok c.co) (fun _ _ _ hc => absurd hc (by decide +kernel)) ?_
          rintro u k ⟨rfl, hk⟩
          obtain rfl : h = k := hk.symm
          by_cases e3 : W.co.state x = 3
          · rw [e3]
            simp only [go_sem, simprocAttr, r0, r12, r13, r14, r4, r5, r6, hg, wdV, e9]
            exact Hold.mk ⟨W.ids.length - (i + 1), by omega, i + 1, by omega, rfl, rfl, by simp only [go_sem, simprocAttr, r0, r12, r13]⟩
          · have e3' : (W.co.state x = 3) = False := eq_false e3
            simp only [go_sem, simprocAttr, r0, r12, r13, r14, r4, r5, r6, hg, wdV, e3', e9]
            exact Hold.mk ⟨W.ids.length - (i + 1), by omega, i + 1, by omega, rfl, rfl, by simp only [go_sem, simprocAttr, r0, r12, r13]⟩
  · simp only [go_sem, simprocAttr]
end
end Go.Proofs.Ytbcgipcgcjkfcaa
