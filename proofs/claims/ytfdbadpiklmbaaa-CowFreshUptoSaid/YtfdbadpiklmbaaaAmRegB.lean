/- AM: regions that draw their order: what the order of the text foresees comes in every order. -/
import Derived.Test.YtfdbadpiklmbaaaAmRegA
set_option linter.unusedSimpArgs false
set_option linter.unusedVariables false
set_option linter.unnecessarySimpa false
set_option maxRecDepth 100000
namespace Go.AM
section
variable {P : Program}

/-- The closure of 'stands ahead of'. -/
theorem before_spec (ops : Array Oper) : ∀ k j, ((Region.before ops).getD k 0).testBit j = true → ∃ o, ops[k]? = some o ∧ ∃ e ∈ o.after, Region.binds .any e = true ∧ (e.on = j ∨ (e.on < k ∧ ((Region.before ops).getD e.on 0).testBit j = true)) := by
  -- one element: what is folded in
  have fold : ∀ (acc : Array Nat) (l : List Edge) (s j : Nat), (l.foldl (fun s e => if Region.binds .any e then s ||| 2 ^ e.on ||| acc.getD e.on 0 else s) s).testBit j = true →
      s.testBit j = true ∨ ∃ e ∈ l, Region.binds .any e = true ∧ (e.on = j ∨ (e.on < acc.size ∧ (acc.getD e.on 0).testBit j = true)) := by
    intro acc l
    induction l with
    | nil => intro s j h; exact .inl h
    | cons e l ih =>
      intro s j h
      simp only [List.foldl_cons] at h
      rcases ih _ j h with h1 | ⟨e', h1, h2⟩
      · split at h1
        · rename_i hb
          simp only [Nat.testBit_or, Bool.or_eq_true] at h1
          rcases h1 with (h1 | h1) | h1
          · exact .inl h1
          · refine .inr ⟨e, by simp, hb, .inl ?_⟩
            rw [Nat.testBit_two_pow] at h1
            simpa using h1
          · refine .inr ⟨e, by simp, hb, .inr ⟨?_, h1⟩⟩
            rcases Nat.lt_or_ge e.on acc.size with h2 | h2
            · exact h2
            · simp [Array.getD, Nat.not_lt.2 h2] at h1
        · exact .inl h1
      · exact .inr ⟨e', by simp [h1], h2⟩
  have main : ∀ (l : List Oper) (pre : List Oper) (acc : Array Nat), acc.size = pre.length →
      (∀ k j, k < acc.size → (acc.getD k 0).testBit j = true → ∃ o, pre[k]? = some o ∧ ∃ e ∈ o.after, Region.binds .any e = true ∧ (e.on = j ∨ (e.on < k ∧ (acc.getD e.on 0).testBit j = true))) →
      ∀ res, l.foldl (fun acc o => acc.push (o.after.foldl (fun s e => if Region.binds .any e then s ||| 2 ^ e.on ||| acc.getD e.on 0 else s) 0)) acc = res →
      ∀ k j, (res.getD k 0).testBit j = true → ∃ o, (pre ++ l)[k]? = some o ∧ ∃ e ∈ o.after, Region.binds .any e = true ∧ (e.on = j ∨ (e.on < k ∧ (res.getD e.on 0).testBit j = true)) := by
    intro l
    induction l with
    | nil =>
      intro pre acc hs hinv res hres k j hb
      simp only [List.foldl_nil] at hres
      subst hres
      have hk : k < acc.size := by
        rcases Nat.lt_or_ge k acc.size with h1 | h1
        · exact h1
        · simp [Array.getD, Nat.not_lt.2 h1] at hb
      simpa using hinv k j hk hb
    | cons o l ih =>
      intro pre acc hs hinv res hres k j hb
      simp only [List.foldl_cons] at hres
      have := ih (pre ++ [o]) _ (by simp [hs]) ?_ res hres k j hb
      · simpa using this
      · intro k j hk hb'
        have getlt : ∀ i, i < acc.size → ∀ x, (acc.push x).getD i 0 = acc.getD i 0 := fun i hi x => by
          simp [Array.getD_eq_getD_getElem?, Array.getElem?_push, Nat.ne_of_lt hi]
        rcases Nat.lt_or_ge k acc.size with h1 | h1
        · rw [getlt k h1] at hb'
          obtain ⟨o', g1, e, g2, g3, g4⟩ := hinv k j h1 hb'
          refine ⟨o', by rw [List.getElem?_append_left (by omega)]; exact g1, e, g2, g3, ?_⟩
          rcases g4 with g4 | ⟨g4, g5⟩
          · exact .inl g4
          · exact .inr ⟨g4, by rw [getlt _ (by omega)]; exact g5⟩
        · have hk' : k = acc.size := by simp at hk; omega
          subst hk'
          have hv : ∀ x : Nat, (acc.push x).getD acc.size 0 = x := fun x => by simp [Array.getD_eq_getD_getElem?]
          rw [hv, ← Array.foldl_toList] at hb'
          rcases fold acc o.after.toList 0 j hb' with h2 | ⟨e, h2, h3, h4⟩
          · simp at h2
          · refine ⟨o, by rw [hs]; simp, e, by simpa using h2, h3, ?_⟩
            rcases h4 with h4 | ⟨h4, h5⟩
            · exact .inl h4
            · exact .inr ⟨h4, by rw [getlt _ h4]; exact h5⟩
  intro k j hb
  have := main ops.toList [] #[] rfl (fun k j hk => absurd hk (by simp)) (Region.before ops) (by simp only [Region.before, Array.foldl_toList]) k j hb
  simpa using this

/-- What stands ahead of one that is listed is listed, if all that one waits for is. -/
theorem listed_before {ops : Array Oper} {listed : Array Bool} (hc : ∀ j oj, ops[j]? = some oj → listed.getD j false = true → ∀ e ∈ oj.after, Region.binds .any e = true → listed.getD e.on false = true) :
    ∀ n k, k < n → ∀ o, ops[k]? = some o → (∀ e ∈ o.after, Region.binds .any e = true → listed.getD e.on false = true) → ∀ j, ((Region.before ops).getD k 0).testBit j = true → listed.getD j false = true := by
  intro n
  induction n with
  | zero => intro k hk; omega
  | succ n ih =>
    intro k hk o ho hall j hb
    obtain ⟨o', h1, e, h2, h3, h4⟩ := before_spec ops k j hb
    rw [ho] at h1
    cases h1
    rcases h4 with h4 | ⟨h4, h5⟩
    · rw [← h4]; exact hall e h2 h3
    · have he := hall e h2 h3
      cases hoe : ops[e.on]? with
      | none =>
        obtain ⟨o'', h6, _⟩ := before_spec ops e.on j h5
        rw [hoe] at h6; cases h6
      | some oe => exact ih e.on (by omega) oe hoe (hc e.on oe hoe he) j h5

end
end Go.AM
