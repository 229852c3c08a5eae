/- shard: the plain law: Since makes one volume of the other. -/
import Derived.Test.YtjkganmkfhciiaaShO
set_option linter.unusedSimpArgs false
set_option linter.unusedVariables false
set_option linter.unnecessarySimpa false
set_option maxRecDepth 100000
namespace Go.Proofs.Ytjkganmkfhciiaa
open Go.AM

/-- So far the new one, then the old one. -/
def blend (ws bs : List Nat) (i : Nat) : List Nat := (List.range bs.length).map fun j => if j < i then bs.getD j 0 else ws.getD j 0
theorem blend_get (ws bs : List Nat) (i j : Nat) : (blend ws bs i)[j]? = if j < bs.length then some (if j < i then bs.getD j 0 else ws.getD j 0) else none := by
  unfold blend
  rw [List.getElem?_map]
  by_cases h : j < bs.length
  · rw [if_pos h, List.getElem?_range h]; rfl
  · rw [if_neg h, List.getElem?_eq_none (by simpa using h)]; rfl
theorem blend_zero {ws bs : List Nat} (h : ws.length = bs.length) : blend ws bs 0 = ws := by
  apply List.ext_getElem?
  intro j
  rw [blend_get]
  by_cases hj : j < bs.length
  · rw [if_pos hj, if_neg (by omega), List.getD, List.getElem?_eq_getElem (show j < ws.length by omega)]; rfl
  · rw [if_neg hj, List.getElem?_eq_none (by omega)]
theorem blend_all {ws bs : List Nat} {i : Nat} (h : bs.length ≤ i) : blend ws bs i = bs := by
  apply List.ext_getElem?
  intro j
  rw [blend_get]
  by_cases hj : j < bs.length
  · rw [if_pos hj, if_pos (by omega), List.getD, List.getElem?_eq_getElem hj]; rfl
  · rw [if_neg hj, List.getElem?_eq_none (by omega)]
theorem blend_len (ws bs : List Nat) (i : Nat) : (blend ws bs i).length = bs.length := by simp [blend]
theorem app_blend {ws bs : List Nat} {o : Bop} {a b : Nat} (h1 : o.off.toNat = a) (h2 : o.rng.2.toNat = b - a) (h3 : a ≤ b) (hv : ∀ j, a ≤ j → j < b → o.val j = bs.getD j 0) : o.app (blend ws bs a) = blend ws bs b := by
  apply List.ext_getElem?
  intro j
  unfold Bop.app
  rw [paint_get, blend_get, blend_get, h1, h2]
  by_cases hj : j < bs.length
  · rw [if_pos hj, if_pos hj]
    simp only [Option.map_some, Option.some.injEq]
    by_cases c : a ≤ j ∧ j < b
    · rw [if_pos (by omega), if_pos c.2]; exact hv j c.1 c.2
    · rw [if_neg (by omega)]
      by_cases c2 : j < a
      · rw [if_pos c2, if_pos (by omega)]
      · rw [if_neg c2, if_neg (by omega)]
  · rw [if_neg hj, if_neg hj]; rfl
theorem runE_zr {ws bs : List Nat} {z : Bool} : ∀ (f k j : Nat), k ≤ j → j < runE ws bs z f k → zr bs j = z
  | 0, k, j, h1, h2 => by unfold runE at h2; omega
  | f + 1, k, j, h1, h2 => by
    unfold runE at h2
    split at h2
    · rename_i hc
      by_cases e : j = k
      · rw [e]; exact hc.2.2
      · exact runE_zr f (k + 1) j (by omega) h2
    · omega
theorem chunk_app {ws bs : List Nat} {E : Nat} (hE : E ≤ bs.length) (hN : bs.length ≤ 1024) : ∀ (f j : Nat), E - j ≤ f → ((chunkF bs f j E).foldl (fun xs o => o.app xs) (blend ws bs (min j E)) = blend ws bs E ∧ ∀ o ∈ chunkF bs f j E, o.fits bs.length)
  | 0, j, h => by
    refine ⟨?_, fun o ho => by cases ho⟩
    show blend ws bs (min j E) = _
    rw [Nat.min_eq_right (by omega)]
  | f + 1, j, h => by
    unfold chunkF
    by_cases c : j < E
    · rw [if_pos c]
      obtain ⟨h1, h2⟩ := chunk_app (ws := ws) hE hN f (j + 64) (by omega)
      have hl : ((bs.drop j).take (min E (j + 64) - j)).length = min E (j + 64) - j := by rw [List.length_take, List.length_drop]; omega
      have er : (⟨1, j, 0, (bs.drop j).take (min E (j + 64) - j)⟩ : Bop).rng = ((j : Int), ((min E (j + 64) - j : Nat) : Int)) := by
        unfold Bop.rng
        rw [if_pos rfl]
        dsimp only
        rw [hl]
      refine ⟨?_, fun o ho => ?_⟩
      · rw [List.foldl_cons, Nat.min_eq_left (Nat.le_of_lt c), app_blend (a := j) (b := min (j + 64) E) (by simp) (by rw [er]; simp only [Int.toNat_natCast]; omega) (by omega) fun i i1 i2 => ?_]
        · exact h1
        · show Bop.val _ i = _
          unfold Bop.val
          rw [if_pos rfl]
          dsimp only
          rw [List.getD, List.getD, List.getElem?_take, Int.toNat_natCast, if_pos (by omega), List.getElem?_drop]
          congr 2; omega
      · rcases List.mem_cons.1 ho with rfl | ho
        · unfold Bop.fits
          rw [er]
          dsimp only
          exact ⟨by omega, .inr ⟨rfl, rfl, by omega⟩⟩
        · exact h2 o ho
    · rw [if_neg c]
      refine ⟨?_, fun o ho => by cases ho⟩
      show blend ws bs (min j E) = _
      rw [Nat.min_eq_right (by omega)]
theorem short_app {ws bs : List Nat} (hl : ws.length = bs.length) (hN : bs.length ≤ 1024) : ∀ (f i : Nat), bs.length - i ≤ f → i ≤ bs.length → ((shortF ws bs f i).foldl (fun xs o => o.app xs) (blend ws bs i) = bs ∧ ∀ o ∈ shortF ws bs f i, o.fits bs.length)
  | 0, i, h, hi => ⟨blend_all (by omega), fun o ho => by cases ho⟩
  | f + 1, i, h, hi => by
    unfold shortF
    by_cases c : i < bs.length
    · rw [if_pos c]
      cases ht : tch ws bs i with
      | false =>
        rw [if_neg Bool.false_ne_true]
        have e : blend ws bs i = blend ws bs (i + 1) := by
          apply List.ext_getElem?
          intro j
          rw [blend_get, blend_get]
          by_cases hj : j < bs.length
          · rw [if_pos hj, if_pos hj]
            congr 1
            by_cases c1 : j < i
            · rw [if_pos c1, if_pos (by omega)]
            · rw [if_neg c1]
              by_cases c2 : j = i
              · subst c2
                rw [if_pos (by omega)]
                unfold tch at ht
                exact Decidable.not_not.1 (of_decide_eq_false ht)
              · rw [if_neg (by omega)]
          · rw [if_neg hj, if_neg hj]
        rw [e]
        exact short_app hl hN f (i + 1) (by omega) (by omega)
      | true =>
        rw [if_pos rfl]
        have hE := runE_le (ws := ws) (bs := bs) (z := zr bs i) bs.length (i + 1) (by omega)
        have hz := runE_zr (ws := ws) (bs := bs) (z := zr bs i) bs.length (i + 1)
        generalize runE ws bs (zr bs i) bs.length (i + 1) = E at hE hz
        obtain ⟨r1, r2⟩ := short_app hl hN f E (by omega) hE.2
        have part : ∀ l : List Bop, (l.foldl (fun xs o => o.app xs) (blend ws bs i) = blend ws bs E ∧ ∀ o ∈ l, o.fits bs.length) → ((l ++ shortF ws bs f E).foldl (fun xs o => o.app xs) (blend ws bs i) = bs ∧ ∀ o ∈ l ++ shortF ws bs f E, o.fits bs.length) := by
          rintro l ⟨l1, l2⟩
          refine ⟨by rw [List.foldl_append, l1]; exact r1, fun o ho => ?_⟩
          rcases List.mem_append.1 ho with ho | ho
          · exact l2 o ho
          · exact r2 o ho
        apply part
        cases hzi : zr bs i with
        | true =>
          rw [if_pos rfl]
          have er : (⟨2, i, (E : Int) - i, []⟩ : Bop).rng = ((i : Int), (E : Int) - i) := by
            unfold Bop.rng
            rw [if_neg (show ¬ (2 : Int) = 1 by decide), if_pos rfl]
          refine ⟨?_, fun o ho => ?_⟩
          · refine app_blend (a := i) (b := E) (by simp) (by rw [er]; dsimp only; omega) (by omega) fun j j1 j2 => ?_
            unfold Bop.val
            rw [if_neg (show ¬ (2 : Int) = 1 by decide)]
            have : zr bs j = true := by
              by_cases e : j = i
              · rw [e]; exact hzi
              · rw [hz j (by omega) j2]; exact hzi
            exact (of_decide_eq_true this).symm
          · obtain rfl : o = _ := by simpa using ho
            unfold Bop.fits
            rw [er]
            dsimp only
            exact ⟨by omega, .inl ⟨rfl, rfl⟩⟩
        | false =>
          rw [if_neg Bool.false_ne_true]
          have := chunk_app (ws := ws) hE.2 hN bs.length i (by omega)
          rwa [Nat.min_eq_left (by omega)] at this
    · rw [if_neg c]
      exact ⟨blend_all (by omega), fun o ho => by cases ho⟩
theorem since_apply {ws bs : List Nat} (hl : ws.length = bs.length) (hN : bs.length ≤ 1024) : applyV ws (shortF ws bs bs.length 0) = (bs, 0) := by
  obtain ⟨h1, h2⟩ := short_app hl hN bs.length 0 (by omega) (by omega)
  rw [blend_zero hl] at h1
  unfold applyV
  rw [if_pos (by omega), if_pos (by rw [hl]; exact h2), h1]
end Go.Proofs.Ytjkganmkfhciiaa
