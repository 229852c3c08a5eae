/- net: what was turned is not opened. -/
import Derived.Test.YtolnacokdjognaaNeI
set_option linter.unusedSimpArgs false
set_option linter.unusedVariables false
set_option linter.unnecessarySimpa false
set_option maxRecDepth 100000
namespace Go.Proofs.Ytolnacokdjognaa
open Go.AM

theorem sum_set : ∀ {l : List Nat} {i c : Nat} (c' : Nat), l[i]? = some c → (l.set i c').sum + c = l.sum + c'
  | [], i, c, c', h => by simp at h
  | x :: l, 0, c, c', h => by
    obtain rfl : x = c := by simpa using h
    simp only [List.set_cons_zero, List.sum_cons]; omega
  | x :: l, i + 1, c, c', h => by
    have := sum_set (l := l) (i := i) c' (by simpa using h)
    simp only [List.set_cons_succ, List.sum_cons]; omega
theorem sumP_fst : ∀ (bs : List Nat) (p : Nat × Nat), p.1 < 65521 → (sumP p bs).1 = (p.1 + bs.sum) % 65521
  | [], p, h => by simp only [sumP, List.foldl_nil, List.sum_nil, Nat.add_zero]; omega
  | x :: bs, p, h => by
    have := sumP_fst bs (sstep p x) (Nat.mod_lt _ (by decide))
    have e : sumP p (x :: bs) = sumP (sstep p x) bs := rfl
    rw [e, this]
    simp only [sstep, List.sum_cons]; omega
theorem sumN1_fst (bs : List Nat) : sumN 1 bs % 65536 = (1 + bs.sum) % 65521 := by
  have h := sumP_lt bs (1, 0) (by decide) (by decide)
  have e : sumN 1 bs = (sumP (1, 0) bs).2 * 65536 + (sumP (1, 0) bs).1 := rfl
  have f := sumP_fst bs (1, 0) (by decide)
  rw [e]
  simp only at f
  omega
theorem sumB_inj {s t : Nat} (hs : s < 4294967296) (ht : t < 4294967296) (h : sumB s = sumB t) : s = t := by
  simp only [sumB, List.cons.injEq, and_true] at h
  omega
theorem xor_ne {a y : Nat} (hy : y ≠ 0) : a ^^^ y ≠ a := fun e => by
  have : a ^^^ (a ^^^ y) = a ^^^ a := by rw [e]
  rw [← Nat.xor_assoc, Nat.xor_self, Nat.zero_xor] at this
  exact hy this
theorem xor_le {a y : Nat} (ha : a ≤ 255) (hy : y ≤ 255) : a ^^^ y ≤ 255 := (xor8 ha hy).2
theorem turn_open {x : List Nat} (hx : ∀ b ∈ x, b ≤ 255) {k y : Nat} (hk : k < (sealN x).length) (hy : y ≠ 0) (hy8 : y ≤ 255) : openN ((sealN x).set k (((sealN x)[k]?.getD 0) ^^^ y)) = none := by
  rw [sealN_len] at hk
  cases ho : openN ((sealN x).set k (((sealN x)[k]?.getD 0) ^^^ y)) with
  | none => rfl
  | some x' =>
    exfalso
    obtain ⟨e, hl⟩ := openN_some ho
    rw [List.length_set, sealN_len] at hl
    have hl : x'.length = x.length := by omega
    by_cases hkx : k < x.length
    · have hg : (sealN x)[k]? = some x[k] := by unfold sealN; rw [List.getElem?_append_left hkx, List.getElem?_eq_getElem hkx]
      have hc := hx _ (List.getElem_mem hkx)
      have hxk : x[k]? = some x[k] := List.getElem?_eq_getElem hkx
      generalize x[k] = c at hg hc hxk
      rw [hg] at e
      simp only [Option.getD_some] at e
      have h1 := xor_ne (a := c) hy
      have h2 := xor_le hc hy8
      generalize c ^^^ y = c' at e h1 h2
      unfold sealN at e
      rw [List.set_append_left _ _ hkx] at e
      obtain ⟨e1, e2⟩ := List.append_inj e (by simp [hl])
      have e3 := sumB_inj (sumN_lt _ _) (sumN_lt _ _) e2
      have f1 := sumN1_fst x
      have f2 := sumN1_fst x'
      have f3 := sum_set c' hxk
      rw [e1] at f3
      rw [e3] at f1
      omega
    · have hj : k - x.length < (sumB (sumN 1 x)).length := by rw [sumB_len]; omega
      have hg : (sealN x)[k]? = some ((sumB (sumN 1 x))[k - x.length]) := by unfold sealN; rw [List.getElem?_append_right (by omega), List.getElem?_eq_getElem hj]
      rw [hg] at e
      simp only [Option.getD_some] at e
      unfold sealN at e
      rw [List.set_append_right _ _ (by omega)] at e
      obtain ⟨e1, e2⟩ := List.append_inj e (by simp [hl])
      rw [← e1] at e2
      have e3 := congrArg (fun l : List Nat => l[k - x.length]?) e2
      rw [List.getElem?_set_self hj, List.getElem?_eq_getElem hj] at e3
      exact xor_ne hy (Option.some.inj e3)
end Go.Proofs.Ytolnacokdjognaa
