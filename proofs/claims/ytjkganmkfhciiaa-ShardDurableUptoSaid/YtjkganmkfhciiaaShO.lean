/- shard: the document's volumes. -/
import Derived.Test.YtjkganmkfhciiaaShJ
set_option linter.unusedSimpArgs false
set_option linter.unusedVariables false
set_option linter.unnecessarySimpa false
set_option maxRecDepth 100000
namespace Go.Proofs.Ytjkganmkfhciiaa
open Go.AM

/-- From a to ahead of b other numbers. -/
def paint (a b : Nat) (f : Nat → Nat) (xs : List Nat) : List Nat := xs.mapIdx fun j x => if a ≤ j ∧ j < b then f j else x
theorem paint_len (a b : Nat) (f : Nat → Nat) (xs : List Nat) : (paint a b f xs).length = xs.length := by simp [paint]
theorem paint_get (a b : Nat) (f : Nat → Nat) (xs : List Nat) (j : Nat) : (paint a b f xs)[j]? = (xs[j]?).map fun x => if a ≤ j ∧ j < b then f j else x := by simp [paint, List.getElem?_mapIdx]
theorem paint_nil {a b : Nat} (f : Nat → Nat) (xs : List Nat) (h : b ≤ a) : paint a b f xs = xs := by
  apply List.ext_getElem?
  intro j
  rw [paint_get]
  cases xs[j]? with
  | none => rfl
  | some x => simp only [Option.map_some]; rw [if_neg (by omega)]
theorem paint_set {a b : Nat} (f : Nat → Nat) (xs : List Nat) (h : a ≤ b) (hb : b < xs.length) : (paint a b f xs).set b (f b) = paint a (b + 1) f xs := by
  apply List.ext_getElem?
  intro j
  rw [List.getElem?_set]
  split
  · rename_i e; subst e
    rw [if_pos (by rw [paint_len]; exact hb), paint_get, List.getElem?_eq_getElem hb]
    simp only [Option.map_some]
    rw [if_pos (by omega)]
  · rw [paint_get, paint_get]
    cases xs[j]? with
    | none => rfl
    | some x =>
      simp only [Option.map_some]
      by_cases h1 : a ≤ j ∧ j < b
      · rw [if_pos h1, if_pos (by omega)]
      · rw [if_neg h1, if_neg (by omega)]

/-- What an op writes at a block. -/
def Bop.val (o : Bop) (j : Nat) : Nat := if o.kd = 1 then o.data.getD (j - o.off.toNat) 0 else 0
/-- A volume behind an op. -/
def Bop.app (o : Bop) (xs : List Nat) : List Nat := paint o.off.toNat (o.off.toNat + o.rng.2.toNat) o.val xs

section
variable {h k h' : AHeap} {S S' Z : Nat → Prop} {v w : Value} {id : Nat}
theorem many_ok {n : Int} : Does Try.prog 35 #[.int .i64 n] h (fun u h' => u = .bool (decide (0 ≤ n ∧ n ≤ 1024)) ∧ h' = h) := by
  refine spec_go mixed Try.func35 rfl Try.results35 (n := Try.f35.ntmps) (by kernel_rfl) (by simp) ?_
  simp only [go_sem, simprocAttr]
  by_cases c1 : 0 ≤ n
  · simp only [go_sem, simprocAttr, c1, decide_true, true_and]
  · simp only [go_sem, simprocAttr, c1, decide_false, false_and]
theorem in_ok {n i k : Int} (h0 : inJ n) (h1 : inJ i) : Does Try.prog 48 #[.int .i64 n, .int .i64 i, .int .i64 k] h (fun u h' => u = .bool (decide (0 ≤ i ∧ i ≤ n ∧ k ≤ n - i)) ∧ h' = h) := by
  refine spec_go mixed Try.func48 rfl Try.results48 (n := Try.f48.ntmps) (by kernel_rfl) (by simp) ?_
  simp only [go_sem, simprocAttr]
  by_cases c1 : 0 ≤ i
  · by_cases c2 : i ≤ n
    · have e : IntKind.i64.wrap (n - i) = n - i := by have := h0.2; rw [wi64] <;> omega
      simp only [go_sem, simprocAttr, c1, c2, decide_true, e, true_and]
    · simp only [go_sem, simprocAttr, c1, c2, decide_true, decide_false, true_and, false_and]
  · simp only [go_sem, simprocAttr, c1, decide_false, false_and]
theorem RRange_ok {o : Bop} (hv : Words S h o.data v) : Does Try.prog 20 #[.agg (o.cs v).toArray] h (fun u h' => u = .tuple #[.int .i64 o.rng.1, .int .i64 o.rng.2] ∧ h.quiet h') := by
  obtain ⟨a, c, rfl⟩ := hv.shape
  refine spec_go mixed Try.func20 rfl Try.results20 (n := Try.f20.ntmps) (by kernel_rfl) (by simp) ?_
  simp only [go_sem, simprocAttr, bo_len, bo_one, bo_take, bo_put, bo_0]
  unfold Bop.rng
  by_cases k1 : o.kd = 1
  · simp only [go_sem, simprocAttr, k1, eq_self, decide_true, bo_1, bo_3, if_true]
    all_goals exact .push _ _
  · by_cases k2 : o.kd = 2
    · simp only [go_sem, simprocAttr, k1, k2, eq_self, decide_true, decide_false, bo_1, bo_2, if_true, if_false]
      all_goals exact .push _ _
    · simp only [go_sem, simprocAttr, k1, k2, decide_true, decide_false, if_false]
      all_goals exact .push _ _
theorem RRight_ok {o : Bop} {n : Int} (hi : o.inI) (hn : inJ n) (hv : Words S h o.data v) : Does Try.prog 36 #[.int .i64 n, .agg (o.cs v).toArray] h (fun u h' => u = .bool (decide (o.fits n)) ∧ h.quiet h') := by
  obtain ⟨a, c, rfl⟩ := hv.shape
  have hl := hv.len
  have hno : ¬ o.fits n → Value.bool false = Value.bool (decide (o.fits n)) := fun e => by rw [decide_eq_false e]
  have hr : ∀ q, (q ↔ o.fits n) → ∀ [Decidable q], Value.bool (decide q) = Value.bool (decide (o.fits n)) := fun q e _ => congrArg Value.bool (decide_eq_decide.2 e)
  refine spec_go mixed Try.func36 rfl Try.results36 (n := Try.f36.ntmps) (by kernel_rfl) (by simp) ?_
  simp only [go_sem, simprocAttr, bo_len, bo_one, bo_take, bo_put]
  have q0 : h.quiet (h.push (.cells (o.cs (.slice a o.data.length c)) .rw)) := .push _ _
  have g0 : (h.push (.cells (o.cs (.slice a o.data.length c)) .rw)).get h.next = .cells (o.cs (.slice a o.data.length c)) .rw := by simp
  generalize h.push (.cells (o.cs (.slice a o.data.length c)) .rw) = k at q0 g0
  simp only [go_sem, simprocAttr, g0, bo_0]
  by_cases k1 : o.kd = 1
  · have er : o.rng = (o.off, (o.data.length : Int)) := by unfold Bop.rng; rw [if_pos k1]
    have hf : o.fits n ↔ (0 ≤ n ∧ n ≤ 1024 ∧ 1 ≤ (o.data.length : Int) ∧ 0 ≤ o.off ∧ (o.data.length : Int) ≤ n ∧ o.off ≤ n - o.data.length) ∧ ((o.kd = 2 ∧ o.data.length = 0) ∨ (o.kd = 1 ∧ o.ln = 0 ∧ (o.data.length : Int) ≤ 64)) := by unfold Bop.fits; rw [er]
    simp only [go_sem, simprocAttr, k1, eq_self, decide_true]
    refine cl_spec many_ok (fun _ _ _ hc => absurd hc (by decide +kernel)) ?_
    rintro u k2 ⟨rfl, rfl⟩
    by_cases c1 : 0 ≤ n ∧ n ≤ 1024
    · simp only [go_sem, simprocAttr, decide_eq_true c1, g0, bo_2]
      by_cases c2 : o.ln = 0
      · simp only [go_sem, simprocAttr, c2, eq_self, decide_true, g0, bo_3]
        by_cases c3 : (1 : Int) ≤ o.data.length
        · simp only [go_sem, simprocAttr, c3, decide_true, g0, bo_3]
          by_cases c4 : (o.data.length : Int) ≤ 64
          · simp only [go_sem, simprocAttr, c4, decide_true, g0, bo_3, bo_1]
            refine cl_spec (in_ok hn hi.2.1) (fun _ _ _ hc => absurd hc (by decide +kernel)) ?_
            rintro u k3 ⟨rfl, rfl⟩
            simp only [go_sem, simprocAttr]
            exact ⟨hr _ (by rw [hf]; omega), q0⟩
          · simp only [go_sem, simprocAttr, c4, decide_false]
            exact ⟨hno (by rw [hf]; omega), q0⟩
        · simp only [go_sem, simprocAttr, c3, decide_false]
          exact ⟨hno (by rw [hf]; omega), q0⟩
      · simp only [go_sem, simprocAttr, c2, decide_false]
        exact ⟨hno (by rw [hf]; omega), q0⟩
    · simp only [go_sem, simprocAttr, decide_eq_false c1]
      exact ⟨hno (by rw [hf]; omega), q0⟩
  · by_cases k2 : o.kd = 2
    · have er : o.rng = (o.off, o.ln) := by unfold Bop.rng; rw [if_neg k1, if_pos k2]
      have hf : o.fits n ↔ (0 ≤ n ∧ n ≤ 1024 ∧ 1 ≤ o.ln ∧ 0 ≤ o.off ∧ o.ln ≤ n ∧ o.off ≤ n - o.ln) ∧ ((o.kd = 2 ∧ o.data.length = 0) ∨ (o.kd = 1 ∧ o.ln = 0 ∧ o.ln ≤ 64)) := by unfold Bop.fits; rw [er]
      simp only [go_sem, simprocAttr, k1, k2, eq_self, decide_true, decide_false]
      refine cl_spec many_ok (fun _ _ _ hc => absurd hc (by decide +kernel)) ?_
      rintro u k2 ⟨rfl, rfl⟩
      by_cases c1 : 0 ≤ n ∧ n ≤ 1024
      · simp only [go_sem, simprocAttr, decide_eq_true c1, g0, bo_3]
        by_cases c2 : (o.data.length : Int) = 0
        · simp only [go_sem, simprocAttr, c2, eq_self, decide_true, g0, bo_2]
          by_cases c3 : 1 ≤ o.ln
          · simp only [go_sem, simprocAttr, c3, decide_true, g0, bo_2, bo_1]
            refine cl_spec (in_ok hn hi.2.1) (fun _ _ _ hc => absurd hc (by decide +kernel)) ?_
            rintro u k3 ⟨rfl, rfl⟩
            simp only [go_sem, simprocAttr]
            exact ⟨hr _ (by rw [hf]; omega), q0⟩
          · simp only [go_sem, simprocAttr, c3, decide_false]
            exact ⟨hno (by rw [hf]; omega), q0⟩
        · simp only [go_sem, simprocAttr, c2, decide_false]
          exact ⟨hno (by rw [hf]; omega), q0⟩
      · simp only [go_sem, simprocAttr, decide_eq_false c1]
        exact ⟨hno (by rw [hf]; omega), q0⟩
    · simp only [go_sem, simprocAttr, k1, k2, decide_false]
      exact ⟨hno (by unfold Bop.fits; omega), q0⟩
attribute [local go_sem] Bop.cs

theorem rone_ok {xs : List Nat} {o : Bop} {v d : Value} (hx : Words S h xs v) (hod : Words S' h o.data d) (hr : o.fits xs.length) : Does Try.prog 37 #[v, .agg (o.cs d).toArray] h (fun u h' => h.quiet h' ∧ Lst rW (h.next + 1) (fun _ => False) h' (o.app xs) u) := by
  replace hod := hod.bound
  obtain ⟨a, c, rfl⟩ := hx.shape
  obtain ⟨a2, c2, rfl⟩ := hod.shape
  have hl := hx.len
  have hl2 := hod.len
  obtain ⟨n0, n1, r1, r0, r3_, r2⟩ := hr.1
  have eo : o.rng.1 = o.off := by rcases hr.kd with ⟨_, e, _⟩ | ⟨_, e⟩ <;> rw [e]
  rw [eo] at r0 r2
  have hm := hx.vals rfl
  refine spec_go mixed Try.func37 rfl Try.results37 (n := Try.f37.ntmps) (by kernel_rfl) (by simp) ?_
  generalize hH : h.push (.cells [.int .i64 o.kd, .int .i64 o.off, .int .i64 o.ln, .slice a2 o.data.length c2] .rw) = H
  obtain ⟨gH, lH, qH⟩ := AHeap.quiet.box (h := h) (k := H) (by rw [hH]; exact .refl _)
  obtain ⟨u1, k1, e1, l1, f1, _⟩ := (Lst.nil rW (h.next + 1) (fun _ => False) H).app (ys := xs) 1 rfl (bytes := 8) (n := xs.length) (nat_all2 (fun n hn => hm n hn)) rfl (by simp; omega) (by simp; omega) (by omega)
  rw [nat_flat, List.nil_append] at *
  have q1 : H.quiet k1 := f1.quiet (fun j _ e => by cases e)
  have gk1 := (q1.2 _ lH).trans gH
  simp only [go_sem, simprocAttr, hH, (hx.quiet qH).acellsN, e1, gk1]
  refine cl_spec (RRange_ok (hod.quiet (qH.trans q1))) (fun _ _ _ hc => absurd hc (by decide +kernel)) ?_
  rintro u k2 ⟨rfl, q2⟩
  have gk2 := (q2.2 _ (by have := q1.1; omega)).trans gk1
  simp only [go_sem, simprocAttr]
  refine go_loop (fun z ρ k => ∃ (i : Nat) (u : Value), (i : Int) ≤ o.rng.2 ∧ z = o.rng.2.toNat - i ∧ k2.next ≤ k.next ∧ h.quiet k ∧ Lst rW (h.next + 1) (fun _ => False) k (paint o.off.toNat (o.off.toNat + i) o.val xs) u ∧ k.get h.next = .cells [.int .i64 o.kd, .int .i64 o.off, .int .i64 o.ln, .slice a2 o.data.length c2] .rw ∧
    ρ 3 = .pointer (some ⟨h.next, 0, none⟩) ∧ ρ 5 = u ∧ ρ 6 = .int .i64 o.rng.1 ∧ ρ 7 = .int .i64 o.rng.2 ∧ ρ 8 = .int .i64 i) o.rng.2.toNat
    ⟨0, u1, by omega, by omega, Nat.le_refl _, (qH.trans q1).trans q2, by rw [paint_nil _ _ (by omega)]; exact l1.quiet q2, gk2, by simp only [go_sem, simprocAttr]⟩ ?_
  rintro z ρ k ⟨i, u, hi, rfl, nk, qk, hlu, gk, r3, r5, r6, r7, r8⟩
  simp only [go_sem, simprocAttr, r3, r5, r6, r7, r8]
  refine cnd_decide (fun hx' => ?_) (fun hx' => ?_)
  · obtain ⟨au, cu, rfl, _⟩ := hlu.len
    have hpl := paint_len o.off.toNat (o.off.toNat + i) o.val xs
    rw [hpl] at hlu r5
    obtain ⟨ob, cc, x, rfl, hob, hob2, hg, hc, hcl, hxi, hmx, hset⟩ := hlu.setN (i := o.off.toNat + i) (by omega)
    have e2 : IntKind.i64.wrap (o.rng.1 + i) = ((o.off.toNat + i : Nat) : Int) := by rw [eo, wi64] <;> omega
    have e9 : IntKind.i64.wrap ((i : Int) + 1) = ((i + 1 : Nat) : Int) := by rw [wi64] <;> omega
    have b1 : o.off.toNat + i < xs.length := by omega
    have b2 : o.off.toNat + i + 1 ≤ xs.length := by omega
    have gset : ∀ o', (k.set ob o').get h.next = _ := fun o' => (AHeap.get_set_ne _ _ (by omega)).trans gk
    by_cases hk : o.kd = 1
    · have ev : o.val (o.off.toNat + i) = o.data.getD i 0 := by unfold Bop.val; rw [if_pos hk, Nat.add_sub_cancel_left]
      have hx2 := hx'
      have er : o.rng = (o.off, (o.data.length : Int)) := by unfold Bop.rng; rw [if_pos hk]
      rw [er] at hx2
      have hdi : i < o.data.length := by simp only at hx2; omega
      obtain ⟨b0, off0, sp0, cd, md0, y, rfl, hSb, hgd, hyi, hmy, hcd⟩ := (hod.quiet qk).atN hdi
      have ey : o.data.getD i 0 = y := by rw [List.getD_eq_getElem?_getD, hyi]; rfl
      have gset2 : ∀ o', (k.set ob o').get b0 = _ := fun o' => (AHeap.get_set_ne _ _ (by have := hSb.2; omega)).trans hgd
      rw [hk] at gset
      simp only [go_sem, simprocAttr, r3, r5, r6, r7, r8, e2, b1, b2, hg, hcl, gset, gset2, hk, hdi, hcd, AHeap.get_set_self _ _ hob2, List.length_set, AHeap.set_set, List.set_set, e9]
      have hp := hset y hmy
      rw [← ey, ← ev, paint_set _ _ (by omega) (by omega)] at hp
      refine Hold.mk ⟨o.rng.2.toNat - (i + 1), by omega, i + 1, .slice (some ⟨ob, 0, some 1⟩) xs.length cu, by omega, rfl, by simpa using nk, qk.set' (by omega) _, ?_, gset _, by simp only [go_sem, simprocAttr, r3, r5, r6, r7]⟩
      rw [← ey, ← ev]; exact hp
    · have ev : o.val (o.off.toNat + i) = 0 := by unfold Bop.val; rw [if_neg hk]
      simp only [go_sem, simprocAttr, r3, r5, r6, r7, r8, e2, b1, b2, hg, hcl, gset, hk, decide_false, e9]
      have hp := hset 0 (by rw [u64_max]; omega)
      have hpt := paint_set (a := o.off.toNat) (b := o.off.toNat + i) o.val xs (by omega) (by omega)
      rw [ev] at hpt
      rw [hpt] at hp
      refine Hold.mk ⟨o.rng.2.toNat - (i + 1), by omega, i + 1, .slice (some ⟨ob, 0, some 1⟩) xs.length cu, by omega, rfl, by simpa using nk, qk.set' (by omega) _, ?_, gset _, by simp only [go_sem, simprocAttr, r3, r5, r6, r7]⟩
      exact hp
  · have : o.rng.2.toNat = i := by omega
    unfold Bop.app
    rw [this]
    simp only [go_sem, simprocAttr, r5]
    exact ⟨qk, hlu⟩

/-- A volume behind ops. -/
def applyV (xs : List Nat) (os : List Bop) : List Nat × Int :=
  if xs.length ≤ 1024 then (if ∀ o ∈ os, o.fits xs.length then (os.foldl (fun xs o => o.app xs) xs, 0) else ([], 1)) else ([], 6)
theorem app_len (o : Bop) (xs : List Nat) : (o.app xs).length = xs.length := paint_len _ _ _ _
theorem foldl_app_len (os : List Bop) : ∀ (xs : List Nat), (os.foldl (fun xs o => o.app xs) xs).length = xs.length := by
  induction os with
  | nil => intro xs; rfl
  | cons o os ih => intro xs; rw [List.foldl_cons, ih, app_len]

theorem rApply_ok {xs : List Nat} {os : List Bop} {v w : Value} (hx : Words S h xs v) (hos : IsSl rBop S' h os w) : Does Try.prog 18 #[v, w] h
      (fun u h' => h.quiet h' ∧ ∃ x, u = .tuple #[x, .int .i64 (applyV xs os).2] ∧ Lst rW h.next (fun _ => False) h' (applyV xs os).1 x) := by
  obtain ⟨a, c, rfl⟩ := hx.shape
  obtain ⟨a2, c2, rfl⟩ := hos.shape
  have hl := hx.len
  have hlo := hos.len
  have hm := hx.vals rfl
  refine spec_go mixed Try.func18 rfl Try.results18 (n := Try.f18.ntmps) (by kernel_rfl) (by simp) ?_
  simp only [go_sem, simprocAttr]
  refine cl_spec many_ok (fun _ _ _ hc => absurd hc (by decide +kernel)) ?_
  rintro u k ⟨rfl, rfl⟩
  unfold applyV
  by_cases h1 : xs.length ≤ 1024
  · rw [if_pos h1]
    have h1' : (xs.length : Int) ≤ 1024 := by omega
    simp only [go_sem, simprocAttr, decide_eq_true h1']
    refine go_loop (fun z ρ k2 => ∃ i : Nat, i ≤ os.length ∧ z = os.length - i ∧ k.quiet k2 ∧ (∀ o ∈ os.take i, o.fits xs.length) ∧ ρ 0 = .slice a xs.length c ∧ ρ 1 = .slice a2 os.length c2 ∧ ρ 6 = .int .i64 i) os.length
      ⟨0, by omega, by omega, .refl _, by simp, by simp only [go_sem, simprocAttr]⟩ ?_
    rintro z ρ k2 ⟨i, hi, rfl, qk, hri, r0, r1, r6⟩
    simp only [go_sem, simprocAttr, r0, r1, r6]
    refine cnd_decide (fun hx' => ?_) (fun hx' => ?_)
    · have h1 : i < os.length := by omega
      obtain ⟨b, off, sp, cc, md, o, d, rfl, _, hg, hoi, hod, hoo, hle, hdt⟩ := IsSl.atO (hos.quiet qk) h1
      obtain ⟨ad, cd_, rfl⟩ := hod.shape
      have e9 : IntKind.i64.wrap ((i : Int) + 1) = ((i + 1 : Nat) : Int) := by rw [wi64] <;> omega
      simp only [Bop.cs] at hdt
      simp only [go_sem, simprocAttr, r0, r1, r6, h1, hg, hle, hdt]
      refine cl_spec (RRight_ok (o := o) hoo (by unfold inJ; omega) hod) (fun _ _ _ hc => absurd hc (by decide +kernel)) ?_
      rintro u k3 ⟨rfl, q3⟩
      by_cases hr : o.fits xs.length
      · simp only [go_sem, simprocAttr, r0, r1, r6, decide_eq_true hr, e9]
        refine Hold.mk ⟨os.length - (i + 1), by omega, i + 1, by omega, rfl, qk.trans q3, ?_, by simp only [go_sem, simprocAttr, r0, r1]⟩
        rw [List.take_add_one, hoi]
        intro o' ho'
        rcases List.mem_append.1 ho' with ho' | ho'
        · exact hri o' ho'
        · simp at ho'; subst ho'; exact hr
      · simp only [go_sem, simprocAttr, decide_eq_false hr]
        rw [if_neg (fun e => hr (e o (List.mem_of_getElem? hoi)))]
        exact ⟨qk.trans q3, _, rfl, .nil _ _ _ _⟩
    · have : i = os.length := by omega
      subst this
      rw [List.take_length] at hri
      rw [if_pos hri]
      obtain ⟨u4, k4, e4, hl4, hf4, _⟩ := (Lst.nil rW k.next (fun _ => False) k2).app (ys := xs) 1 rfl (bytes := 8) (n := xs.length) (nat_all2 (fun n hn => hm n hn)) rfl (by simp; omega) (by simp; omega) qk.1
      rw [nat_flat, List.nil_append] at *
      have q4 : k.quiet k4 := Fw.behind qk hf4 (fun j e => by cases e)
      simp only [go_sem, simprocAttr, r0, r1, (hx.quiet qk).acellsN, e4]
      refine go_loop (fun z ρ k3 => ∃ (i : Nat) (u : Value), i ≤ os.length ∧ z = os.length - i ∧ k.quiet k3 ∧ Lst rW k.next (fun _ => False) k3 ((os.take i).foldl (fun xs o => o.app xs) xs) u ∧ ρ 1 = .slice a2 os.length c2 ∧ ρ 7 = u ∧ ρ 8 = .int .i64 i) os.length
        ⟨0, u4, by omega, by omega, q4, hl4, by simp only [go_sem, simprocAttr, r1]⟩ ?_
      rintro z ρ k3 ⟨i, u, hi, rfl, qk3, hlu, r1, r7, r8⟩
      simp only [go_sem, simprocAttr, r1, r7, r8]
      refine cnd_decide (fun hx' => ?_) (fun hx' => ?_)
      · have h1 : i < os.length := by omega
        obtain ⟨b, off, sp, cc, md, o, d, rfl, _, hg, hoi, hod, hoo, hle, hdt⟩ := IsSl.atO (hos.quiet qk3) h1
        obtain ⟨ad, cd_, rfl⟩ := hod.shape
        have e9 : IntKind.i64.wrap ((i : Int) + 1) = ((i + 1 : Nat) : Int) := by rw [wi64] <;> omega
        have hr := hri o (List.mem_of_getElem? hoi)
        simp only [Bop.cs] at hdt
        simp only [go_sem, simprocAttr, r1, r7, r8, h1, hg, hle, hdt]
        refine cl_spec (rone_ok (o := o) (S := fun _ => True) (hlu.isSl (fun _ _ _ => trivial) (fun _ _ => trivial)) hod (by rw [foldl_app_len]; exact hr)) (fun _ _ _ hc => absurd hc (by decide +kernel)) ?_
        rintro u5 k5 ⟨q5, hl5⟩
        simp only [go_sem, simprocAttr, r1, r8, e9]
        refine Hold.mk ⟨os.length - (i + 1), by omega, i + 1, u5, by omega, rfl, qk3.trans q5, ?_, by simp only [go_sem, simprocAttr, r1]⟩
        rw [List.take_add_one, hoi, List.foldl_append]
        exact hl5.mono (by have := qk3.1; omega) (Nat.le_refl _) (fun _ e _ _ => e.elim) (fun _ _ _ => rfl)
      · have : i = os.length := by omega
        subst this
        rw [List.take_length] at hlu
        simp only [go_sem, simprocAttr, r7]
        exact ⟨qk3, u, rfl, hlu⟩
  · rw [if_neg h1]
    have h1' : ¬ ((xs.length : Int) ≤ 1024) := by omega
    simp only [go_sem, simprocAttr, decide_eq_false h1']
    exact ⟨_, rfl, .nil _ _ _ _⟩
end
end Go.Proofs.Ytjkganmkfhciiaa
