/- plan: doing ops; the op that parts are together. -/
import Derived.Test.YtohgnkjemfkeoaaPlJ
set_option linter.unusedSimpArgs false
set_option linter.unusedVariables false
set_option linter.unnecessarySimpa false
set_option maxRecDepth 100000
namespace Go.Proofs.Ytohgnkjemfkeoaa
open Go.AM

/-- From a to ahead of b other numbers. -/
def paint (a b : Nat) (f : Nat → Nat) (xs : List Nat) : List Nat := xs.mapIdx fun j x => if a ≤ j ∧ j < b then f j else x
theorem paint_len (a b : Nat) (f : Nat → Nat) (xs : List Nat) : (paint a b f xs).length = xs.length := by simp [paint]
theorem paint_get (a b : Nat) (f : Nat → Nat) (xs : List Nat) (j : Nat) : (paint a b f xs)[j]? = (xs[j]?).map fun x => if a ≤ j ∧ j < b then f j else x := by simp [paint, List.getElem?_mapIdx]
theorem paint_nil {a b : Nat} (f : Nat → Nat) (xs : List Nat) (h : b ≤ a) : paint a b f xs = xs := by
  apply List.ext_getElem?
  intro j
  rw [paint_get]
  cases xs[j]? with
  | none => rfl
  | some x => simp only [Option.map_some]; rw [if_neg (by omega)]
theorem paint_set {a b : Nat} (f : Nat → Nat) (xs : List Nat) (h : a ≤ b) (hb : b < xs.length) : (paint a b f xs).set b (f b) = paint a (b + 1) f xs := by
  apply List.ext_getElem?
  intro j
  rw [List.getElem?_set]
  split
  · rename_i e; subst e
    rw [if_pos (by rw [paint_len]; exact hb), paint_get, List.getElem?_eq_getElem hb]
    simp only [Option.map_some]
    rw [if_pos (by omega)]
  · rw [paint_get, paint_get]
    cases xs[j]? with
    | none => rfl
    | some x =>
      simp only [Option.map_some]
      by_cases h1 : a ≤ j ∧ j < b
      · rw [if_pos h1, if_pos (by omega)]
      · rw [if_neg h1, if_neg (by omega)]

/-- What an op writes at a block. -/
def Op.val (o : Op) (j : Nat) : Nat := if o.kind = 1 then o.data.getD (j - o.off.toNat) 0 else 0
/-- A volume behind an op. -/
def Op.app (o : Op) (xs : List Nat) : List Nat := paint o.off.toNat (o.off.toNat + o.range.2.toNat) o.val xs

section
variable {h : AHeap} {S S' : Nat → Prop}

theorem rone_ok {xs : List Nat} {o : Op} {v d : Value} (hx : Words S h xs v) (hod : Words S' h o.data d) (hr : o.right xs.length) : Does Try.prog 41 #[v, opV o d] h (fun u h' => h.quiet h' ∧ Lst rW (h.next + 1) (fun _ => False) h' (o.app xs) u) := by
  replace hod := hod.bound
  obtain ⟨a, c, rfl⟩ := hx.shape
  obtain ⟨a2, c2, rfl⟩ := hod.shape
  have hl := hx.len
  have hl2 := hod.len
  obtain ⟨n0, n1, r0, r1, r2⟩ := Op.range_right hr
  have eo : o.range.1 = o.off := by rcases hr.2 with ⟨e, _⟩ | ⟨e, _⟩; rw [Op.range2 e]; rw [Op.range1 e]
  rw [eo] at r0 r2
  have hm := hx.vals rfl
  refine spec_go mixed Try.func41 rfl Try.results41 (n := Try.f41.ntmps) (by kernel_rfl) (by simp) ?_
  generalize hH : h.push (.cells [.int .i64 o.kind, .int .i64 o.off, .int .i64 o.len, .slice a2 o.data.length c2] .rw) = H
  obtain ⟨gH, lH, qH⟩ := AHeap.quiet.box (h := h) (k := H) (by rw [hH]; exact .refl _)
  obtain ⟨u1, k1, e1, l1, f1, _⟩ := (Lst.nil rW (h.next + 1) (fun _ => False) H).app (ys := xs) 1 rfl (bytes := 8) (n := xs.length) (nat_all2 (fun n hn => hm n hn)) rfl (by simp; omega) (by simp; omega) (by omega)
  rw [nat_flat, List.nil_append] at *
  have q1 : H.quiet k1 := f1.quiet (fun j _ e => by cases e)
  have gk1 := (q1.2 _ lH).trans gH
  simp only [go_sem, simprocAttr, hH, (hx.quiet qH).acellsN, e1, gk1]
  refine cl_spec (rRange_ok (hod.quiet (qH.trans q1))) (fun _ _ _ hc => absurd hc (by decide +kernel)) ?_
  rintro u k2 ⟨rfl, q2⟩
  have gk2 := (q2.2 _ (by have := q1.1; omega)).trans gk1
  simp only [go_sem, simprocAttr]
  refine go_loop (fun z ρ k => ∃ (i : Nat) (u : Value), (i : Int) ≤ o.range.2 ∧ z = o.range.2.toNat - i ∧ k2.next ≤ k.next ∧ h.quiet k ∧ Lst rW (h.next + 1) (fun _ => False) k (paint o.off.toNat (o.off.toNat + i) o.val xs) u ∧ k.get h.next = .cells [.int .i64 o.kind, .int .i64 o.off, .int .i64 o.len, .slice a2 o.data.length c2] .rw ∧
    ρ 3 = .pointer (some ⟨h.next, 0, none⟩) ∧ ρ 5 = u ∧ ρ 6 = .int .i64 o.range.1 ∧ ρ 7 = .int .i64 o.range.2 ∧ ρ 8 = .int .i64 i) o.range.2.toNat
    ⟨0, u1, by omega, by omega, Nat.le_refl _, (qH.trans q1).trans q2, by rw [paint_nil _ _ (by omega)]; exact l1.quiet q2, gk2, by simp only [go_sem, simprocAttr]⟩ ?_
  rintro z ρ k ⟨i, u, hi, rfl, nk, qk, hlu, gk, r3, r5, r6, r7, r8⟩
  simp only [go_sem, simprocAttr, r3, r5, r6, r7, r8]
  refine cnd_decide (fun hx' => ?_) (fun hx' => ?_)
  · obtain ⟨au, cu, rfl, _⟩ := hlu.len
    have hpl := paint_len o.off.toNat (o.off.toNat + i) o.val xs
    rw [hpl] at hlu r5
    obtain ⟨ob, cc, x, rfl, hob, hob2, hg, hc, hcl, hxi, hmx, hset⟩ := hlu.setN (i := o.off.toNat + i) (by omega)
    have e2 : IntKind.i64.wrap (o.range.1 + i) = ((o.off.toNat + i : Nat) : Int) := by rw [eo, wi64] <;> omega
    have e9 : IntKind.i64.wrap ((i : Int) + 1) = ((i + 1 : Nat) : Int) := by rw [wi64] <;> omega
    have b1 : o.off.toNat + i < xs.length := by omega
    have b2 : o.off.toNat + i + 1 ≤ xs.length := by omega
    have gset : ∀ o', (k.set ob o').get h.next = _ := fun o' => (AHeap.get_set_ne _ _ (by omega)).trans gk
    by_cases hk : o.kind = 1
    · have ev : o.val (o.off.toNat + i) = o.data.getD i 0 := by unfold Op.val; rw [if_pos hk, Nat.add_sub_cancel_left]
      have hx2 := hx'
      rw [Op.range1 hk] at hx2
      have hdi : i < o.data.length := by simp only at hx2; omega
      obtain ⟨b0, off0, sp0, cd, md0, y, rfl, hSb, hgd, hyi, hmy, hcd⟩ := (hod.quiet qk).atN hdi
      have ey : o.data.getD i 0 = y := by rw [List.getD_eq_getElem?_getD, hyi]; rfl
      have gset2 : ∀ o', (k.set ob o').get b0 = _ := fun o' => (AHeap.get_set_ne _ _ (by have := hSb.2; omega)).trans hgd
      rw [hk] at gset
      simp only [go_sem, simprocAttr, r3, r5, r6, r7, r8, e2, b1, b2, hg, hcl, gset, gset2, hk, hdi, hcd, AHeap.get_set_self _ _ hob2, List.length_set, AHeap.set_set, List.set_set, e9]
      have hp := hset y hmy
      rw [← ey, ← ev, paint_set _ _ (by omega) (by omega)] at hp
      refine Hold.mk ⟨o.range.2.toNat - (i + 1), by omega, i + 1, .slice (some ⟨ob, 0, some 1⟩) xs.length cu, by omega, rfl, by simpa using nk, qk.set' (by omega) _, ?_, gset _, by simp only [go_sem, simprocAttr, r3, r5, r6, r7]⟩
      rw [← ey, ← ev]; exact hp
    · have ev : o.val (o.off.toNat + i) = 0 := by unfold Op.val; rw [if_neg hk]
      simp only [go_sem, simprocAttr, r3, r5, r6, r7, r8, e2, b1, b2, hg, hcl, gset, hk, decide_false, e9]
      have hp := hset 0 (by rw [u64_max]; omega)
      have hpt := paint_set (a := o.off.toNat) (b := o.off.toNat + i) o.val xs (by omega) (by omega)
      rw [ev] at hpt
      rw [hpt] at hp
      refine Hold.mk ⟨o.range.2.toNat - (i + 1), by omega, i + 1, .slice (some ⟨ob, 0, some 1⟩) xs.length cu, by omega, rfl, by simpa using nk, qk.set' (by omega) _, ?_, gset _, by simp only [go_sem, simprocAttr, r3, r5, r6, r7]⟩
      exact hp
  · have : o.range.2.toNat = i := by omega
    unfold Op.app
    rw [this]
    simp only [go_sem, simprocAttr, r5]
    exact ⟨qk, hlu⟩

/-- A volume behind ops. -/
def applyV (xs : List Nat) (os : List Op) : List Nat × Int :=
  if xs.length ≤ 1024 then (if ∀ o ∈ os, o.right xs.length then (os.foldl (fun xs o => o.app xs) xs, 0) else ([], 1)) else ([], 6)
theorem app_len (o : Op) (xs : List Nat) : (o.app xs).length = xs.length := paint_len _ _ _ _
theorem foldl_app_len (os : List Op) : ∀ (xs : List Nat), (os.foldl (fun xs o => o.app xs) xs).length = xs.length := by
  induction os with
  | nil => intro xs; rfl
  | cons o os ih => intro xs; rw [List.foldl_cons, ih, app_len]

theorem rApply_ok {xs : List Nat} {os : List Op} {v w : Value} (hx : Words S h xs v) (hos : IsSl rOp S' h os w) : Does Try.prog 13 #[v, w] h
      (fun u h' => h.quiet h' ∧ ∃ x, u = .tuple #[x, .int .i64 (applyV xs os).2] ∧ Lst rW h.next (fun _ => False) h' (applyV xs os).1 x) := by
  obtain ⟨a, c, rfl⟩ := hx.shape
  obtain ⟨a2, c2, rfl⟩ := hos.shape
  have hl := hx.len
  have hlo := hos.len
  have hm := hx.vals rfl
  refine spec_go mixed Try.func13 rfl Try.results13 (n := Try.f13.ntmps) (by kernel_rfl) (by simp) ?_
  simp only [go_sem, simprocAttr]
  refine cl_spec many_ok (fun _ _ _ hc => absurd hc (by decide +kernel)) ?_
  rintro u k ⟨rfl, rfl⟩
  unfold applyV
  by_cases h1 : xs.length ≤ 1024
  · rw [if_pos h1]
    have h1' : (xs.length : Int) ≤ 1024 := by omega
    simp only [go_sem, simprocAttr, decide_eq_true h1']
    refine go_loop (fun z ρ k2 => ∃ i : Nat, i ≤ os.length ∧ z = os.length - i ∧ k.quiet k2 ∧ (∀ o ∈ os.take i, o.right xs.length) ∧ ρ 0 = .slice a xs.length c ∧ ρ 1 = .slice a2 os.length c2 ∧ ρ 6 = .int .i64 i) os.length
      ⟨0, by omega, by omega, .refl _, by simp, by simp only [go_sem, simprocAttr]⟩ ?_
    rintro z ρ k2 ⟨i, hi, rfl, qk, hri, r0, r1, r6⟩
    simp only [go_sem, simprocAttr, r0, r1, r6]
    refine cnd_decide (fun hx' => ?_) (fun hx' => ?_)
    · have h1 : i < os.length := by omega
      obtain ⟨b, off, sp, cc, md, o, d, rfl, _, hg, hoi, hoo, hod, hle, hdt, f0, f1, f2, f3⟩ := (hos.quiet qk).atOp h1
      have e9 : IntKind.i64.wrap ((i : Int) + 1) = ((i + 1 : Nat) : Int) := by rw [wi64] <;> omega
      simp only [opC] at hdt
      simp only [go_sem, simprocAttr, r0, r1, r6, h1, hg, hle, hdt]
      refine cl_spec (rRight_ok (o := o) hod) (fun _ _ _ hc => absurd hc (by decide +kernel)) ?_
      rintro u k3 ⟨rfl, q3⟩
      by_cases hr : o.right xs.length
      · simp only [go_sem, simprocAttr, r0, r1, r6, decide_eq_true hr, e9]
        refine Hold.mk ⟨os.length - (i + 1), by omega, i + 1, by omega, rfl, qk.trans q3, ?_, by simp only [go_sem, simprocAttr, r0, r1]⟩
        rw [List.take_add_one, hoi]
        intro o' ho'
        rcases List.mem_append.1 ho' with ho' | ho'
        · exact hri o' ho'
        · simp at ho'; subst ho'; exact hr
      · simp only [go_sem, simprocAttr, decide_eq_false hr]
        rw [if_neg (fun e => hr (e o (List.mem_of_getElem? hoi)))]
        exact ⟨qk.trans q3, _, rfl, .nil _ _ _ _⟩
    · have : i = os.length := by omega
      subst this
      rw [List.take_length] at hri
      rw [if_pos hri]
      obtain ⟨u4, k4, e4, hl4, hf4, _⟩ := (Lst.nil rW k.next (fun _ => False) k2).app (ys := xs) 1 rfl (bytes := 8) (n := xs.length) (nat_all2 (fun n hn => hm n hn)) rfl (by simp; omega) (by simp; omega) qk.1
      rw [nat_flat, List.nil_append] at *
      have q4 : k.quiet k4 := Fw.behind qk hf4 (fun j e => by cases e)
      simp only [go_sem, simprocAttr, r0, r1, (hx.quiet qk).acellsN, e4]
      refine go_loop (fun z ρ k3 => ∃ (i : Nat) (u : Value), i ≤ os.length ∧ z = os.length - i ∧ k.quiet k3 ∧ Lst rW k.next (fun _ => False) k3 ((os.take i).foldl (fun xs o => o.app xs) xs) u ∧ ρ 1 = .slice a2 os.length c2 ∧ ρ 7 = u ∧ ρ 8 = .int .i64 i) os.length
        ⟨0, u4, by omega, by omega, q4, hl4, by simp only [go_sem, simprocAttr, r1]⟩ ?_
      rintro z ρ k3 ⟨i, u, hi, rfl, qk3, hlu, r1, r7, r8⟩
      simp only [go_sem, simprocAttr, r1, r7, r8]
      refine cnd_decide (fun hx' => ?_) (fun hx' => ?_)
      · have h1 : i < os.length := by omega
        obtain ⟨b, off, sp, cc, md, o, d, rfl, _, hg, hoi, hoo, hod, hle, hdt, f0, f1, f2, f3⟩ := (hos.quiet qk3).atOp h1
        have e9 : IntKind.i64.wrap ((i : Int) + 1) = ((i + 1 : Nat) : Int) := by rw [wi64] <;> omega
        have hr := hri o (List.mem_of_getElem? hoi)
        simp only [opC] at hdt
        simp only [go_sem, simprocAttr, r1, r7, r8, h1, hg, hle, hdt]
        refine cl_spec (rone_ok (o := o) (S := fun _ => True) (hlu.isSl (fun _ _ _ => trivial) (fun _ _ => trivial)) hod (by rw [foldl_app_len]; exact hr)) (fun _ _ _ hc => absurd hc (by decide +kernel)) ?_
        rintro u5 k5 ⟨q5, hl5⟩
        simp only [go_sem, simprocAttr, r1, r8, e9]
        refine Hold.mk ⟨os.length - (i + 1), by omega, i + 1, u5, by omega, rfl, qk3.trans q5, ?_, by simp only [go_sem, simprocAttr, r1]⟩
        rw [List.take_add_one, hoi, List.foldl_append]
        exact hl5.mono (by have := qk3.1; omega) (Nat.le_refl _) (fun _ e _ _ => e.elim) (fun _ _ _ => rfl)
      · have : i = os.length := by omega
        subst this
        rw [List.take_length] at hlu
        simp only [go_sem, simprocAttr, r7]
        exact ⟨qk3, u, rfl, hlu⟩
  · rw [if_neg h1]
    have h1' : ¬ ((xs.length : Int) ≤ 1024) := by omega
    simp only [go_sem, simprocAttr, decide_eq_false h1']
    exact ⟨_, rfl, .nil _ _ _ _⟩
end
end Go.Proofs.Ytohgnkjemfkeoaa
