/- AM: what the kinds of operations say of the heap. -/
import Derived.Test.YtfdbadpiklmbaaaAmDefs
set_option linter.unusedSimpArgs false
set_option linter.unusedVariables false
set_option linter.unnecessarySimpa false
set_option maxRecDepth 100000
namespace Go.AM
section
variable {P : Program}

/-- Operations of the slots alone. -/
theorem aop_pure {ρ : Operand → Value} {h h' : AHeap} {o : Op} {v : Value} (hk : kindOf o = .pure) (ha : aop P ρ h o = some (v, h')) : h' = h ∧ ∀ h₂, aop P ρ h₂ o = some (v, h₂) := by
  have m : ∀ {x : Option Value}, x.map (·, h) = some (v, h') → h' = h ∧ ∀ h₂ : AHeap, x.map (·, h₂) = some (v, h₂) := by
    intro x hx
    cases x with
    | none => cases hx
    | some u => simp at hx; obtain ⟨rfl, rfl⟩ := hx; exact ⟨rfl, fun _ => rfl⟩
  cases o <;> simp only [kindOf] at hk <;> (try cases hk) <;> simp only [aop] at ha ⊢
  case convert => split at hk <;> cases hk
  case move x => cases ha; exact ⟨rfl, fun _ => rfl⟩
  case assign x => cases ha; exact ⟨rfl, fun _ => rfl⟩
  case pick c a b =>
    split at ha
    · cases ha; exact ⟨rfl, fun _ => rfl⟩
    · cases ha
  case build => exact m ha
  case nilCheck x =>
    split at ha
    · cases ha; exact ⟨rfl, fun _ => rfl⟩
    · cases ha
  case fieldAddr => exact m ha
  case field => exact m ha
  case indexAddr => exact m ha
  case index => exact m ha
  case slice => exact m ha
  case unOp => exact m ha
  case makeInterface t x =>
    split at ha
    · cases ha
    · cases ha; exact ⟨rfl, fun _ => rfl⟩
    · cases ha
  case makeFunc fn first cap =>
    split at ha
    · cases ha; exact ⟨rfl, fun _ => rfl⟩
    · cases ha
  case extract x i =>
    split at ha
    · exact m ha
    · cases ha
  case binOp op t x y t' =>
    have hne : op ≠ .eql ∧ op ≠ .neq := by constructor <;> (rintro rfl; cases hk)
    have same : ∀ h₂, abin P h₂ op t (ρ x) (ρ y) = abin P h op t (ρ x) (ρ y) := by
      intro h₂
      unfold abin
      split
      · rfl
      · rfl
      · split
        · exact absurd rfl hne.1
        · exact absurd rfl hne.2
        · rfl
    obtain ⟨h1, h2⟩ := m ha
    exact ⟨h1, fun h₂ => by rw [same]; exact h2 h₂⟩
  case call c =>
    split at ha
    · rename_i b hb
      rw [hb] at hk
      unfold abuiltin at ha
      split at ha
      · simp at hk
      · rename_i x hx
        obtain ⟨h1, h2⟩ := m ha
        refine ⟨h1, fun h₂ => ?_⟩
        unfold abuiltin; simp only [hx]; exact h2 h₂
      · simp only at hk; split at hk <;> cases hk
      · simp at hk
      · simp at hk
      · simp at hk
      · obtain ⟨h1, h2⟩ := m ha
        exact ⟨h1, fun h₂ => by unfold abuiltin; exact h2 h₂⟩
      · obtain ⟨h1, h2⟩ := m ha
        exact ⟨h1, fun h₂ => by unfold abuiltin; exact h2 h₂⟩
      · cases ha
    · cases ha

theorem append_nil_quiet {h h' : AHeap} {ats : Array TypeId} {x v : Value} (ha : aappendB P h ats (.slice none 0 0) x = some (v, h')) : h.quiet h' := by
  unfold aappendB at ha
  repeat' (split at ha)
  all_goals (first | (cases ha; done) | (cases ha; first | exact .refl _ | exact .push _ _) | skip)
  rw [show ∀ sz bytes n news, aappend h sz bytes (.slice none 0 0) n news = if n = 0 then some (.slice none 0 0, h) else if n * bytes ≤ 140737488355328 ∧ n ≤ 4611686018427387904 then some (.slice (some ⟨h.next, 0, some sz⟩) n n, h.push (.cells news (.tail sz))) else none from fun _ _ _ _ => rfl] at ha
  repeat' (split at ha)
  all_goals (first | (cases ha; done) | (cases ha; first | exact .refl _ | exact .push _ _))

/-- Operations that do not write leave what is there. -/
theorem aop_quiet {ρ : Operand → Value} (hc : ∀ v, ρ (.const v) = v) {h h' : AHeap} {o : Op} {v : Value} (hk : kindOf o = .read) (ha : aop P ρ h o = some (v, h')) : h.quiet h' := by
  have m : ∀ {x : Option Value}, x.map (·, h) = some (v, h') → h.quiet h' := by
    intro x hx
    cases x with
    | none => cases hx
    | some u => simp at hx; obtain ⟨rfl, rfl⟩ := hx; exact .refl _
  cases o <;> simp only [kindOf] at hk <;> (try cases hk) <;> simp only [aop] at ha
  case alloc t =>
    split at ha
    · split at ha
      · cases ha; exact .push _ _
      · cases ha
    · cases ha
  case box => cases ha; exact .push _ _
  case buildSlice t len parts =>
    unfold abuildSlice at ha
    repeat' (split at ha)
    all_goals (first | (cases ha; done) | skip)
    rename_i c _
    generalize afill _ _ _ = q at ha
    cases q with
    | none => cases ha
    | some c => simp only [Option.map_some, Option.some.injEq, Prod.mk.injEq] at ha; obtain ⟨rfl, rfl⟩ := ha; exact .push _ _
  case load t x =>
    split at ha
    · exact m ha
    · cases ha
  case binOp => exact m ha
  case convert s d x =>
    have hsd : ¬ s = d := by intro e; simp [e] at hk
    unfold aconv at ha
    repeat' (split at ha)
    all_goals (first | (cases ha; done) | (exact absurd (And.left ‹_›) hsd) | (cases ha; first | exact .refl _ | exact .push _ _) | skip)
    rename_i cs _
    generalize bytesOfCells cs _ = q at ha
    cases q with
    | none => cases ha
    | some c => simp only [Option.map_some, Option.some.injEq, Prod.mk.injEq] at ha; obtain ⟨rfl, rfl⟩ := ha; exact .refl _
  case makeMap t r =>
    split at ha
    · split at ha
      · cases ha; exact .push _ _
      · cases ha
    · cases ha
  case makeSlice t l c =>
    unfold amake at ha
    repeat' (split at ha)
    all_goals (first | (cases ha; done) | (cases ha; exact .push _ _))
  case lookup => exact m ha
  case call c =>
    split at ha
    · rename_i b hb
      rw [hb] at hk
      unfold abuiltin at ha
      split at ha
      · exact m ha
      · simp at hk
      · rename_i s x hx
        simp only at hk
        split at hk
        · rename_i hn
          have hs : s = .slice none 0 0 := by
            unfold appNil at hn
            split at hn
            · rename_i ho
              have h0 : (c.args.map ρ).toList[0]? = some s := by rw [hx]; rfl
              rw [Array.getElem?_toList, Array.getElem?_map, ho, Option.map_some, hc] at h0
              exact (Option.some.inj h0).symm
            · cases hn
          subst hs
          exact append_nil_quiet ha
        · cases hk
      all_goals (first | (simp at hk; done) | cases ha)
    · cases ha

theorem append_next {h h' : AHeap} {ats : Array TypeId} {s x v : Value} (ha : aappendB P h ats s x = some (v, h')) : h.next ≤ h'.next := by
  unfold aappendB at ha
  repeat' (split at ha)
  all_goals (first | (cases ha; done) | (cases ha; simp; done) | skip)
  unfold aappend at ha
  repeat' (split at ha)
  all_goals (first | (cases ha; done) | (cases ha; simp))
def isApp : Op → Bool
  | .call c => match c.callee with | .builtin .append => true | _ => false
  | _ => false
theorem app_next {ρ : Operand → Value} {h h' : AHeap} {o : Op} {v : Value} (hi : isApp o = true) (ha : aop P ρ h o = some (v, h')) : h.next ≤ h'.next := by
  unfold isApp at hi
  split at hi
  · rename_i c
    split at hi
    · rename_i hb
      simp only [aop, hb] at ha
      unfold abuiltin at ha
      split at ha
      all_goals first | contradiction | exact append_next ha | cases ha
    · cases hi
  · cases hi
theorem read_next {ρ : Operand → Value} {h h' : AHeap} {o : Op} {v : Value} (hi : isApp o = false) (hk : kindOf o = .read) (ha : aop P ρ h o = some (v, h')) : h.next ≤ h'.next := by
  -- no constant stands in it that counts
  have key : ∀ ρ' : Operand → Value, (∀ x, ρ' x = ρ x) → aop P ρ' h o = some (v, h') := fun ρ' he => by rw [show ρ' = ρ from funext he]; exact ha
  have m : ∀ {x : Option Value}, x.map (·, h) = some (v, h') → h.next ≤ h'.next := by
    intro x hx
    cases x with
    | none => cases hx
    | some u => simp at hx; obtain ⟨rfl, rfl⟩ := hx; exact Nat.le_refl _
  cases o <;> simp only [kindOf] at hk <;> (try cases hk) <;> simp only [aop] at ha
  case alloc t =>
    split at ha
    · split at ha
      · cases ha; simp
      · cases ha
    · cases ha
  case box => cases ha; simp
  case buildSlice t len parts =>
    unfold abuildSlice at ha
    repeat' (split at ha)
    all_goals (first | (cases ha; done) | skip)
    rename_i c _
    generalize afill _ _ _ = q at ha
    cases q with
    | none => cases ha
    | some c => simp only [Option.map_some, Option.some.injEq, Prod.mk.injEq] at ha; obtain ⟨rfl, rfl⟩ := ha; simp
  case load t x =>
    split at ha
    · exact m ha
    · cases ha
  case binOp => exact m ha
  case convert s d x =>
    have hsd : ¬ s = d := by intro e; simp [e] at hk
    unfold aconv at ha
    repeat' (split at ha)
    all_goals (first | (cases ha; done) | (exact absurd (And.left ‹_›) hsd) | (cases ha; first | exact Nat.le_refl _ | (simp; done)) | skip)
    rename_i cs _
    generalize bytesOfCells cs _ = q at ha
    cases q with
    | none => cases ha
    | some c => simp only [Option.map_some, Option.some.injEq, Prod.mk.injEq] at ha; obtain ⟨rfl, rfl⟩ := ha; exact Nat.le_refl _
  case makeMap t r =>
    split at ha
    · split at ha
      · cases ha; simp
      · cases ha
    · cases ha
  case makeSlice t l c =>
    unfold amake at ha
    repeat' (split at ha)
    all_goals (first | (cases ha; done) | (cases ha; simp))
  case lookup => exact m ha
  case call c =>
    split at ha
    · rename_i b hb
      rw [hb] at hk
      unfold abuiltin at ha
      split at ha
      · exact m ha
      · simp at hk
      · simp [isApp, hb] at hi
      all_goals (first | (simp at hk; done) | cases ha)
    · cases ha

theorem aop_next {ρ : Operand → Value} {h h' : AHeap} {o : Op} {v : Value} (ha : aop P ρ h o = some (v, h')) : h.next ≤ h'.next := by
  cases hi : isApp o with
  | true => exact app_next hi ha
  | false =>
  cases hk : kindOf o with
  | pure => rw [(aop_pure hk ha).1]; exact Nat.le_refl _
  | read => exact read_next hi hk ha
  | call =>
    cases o <;> simp only [kindOf] at hk <;> (try cases hk) <;> simp only [aop] at ha
    case binOp op _ _ _ _ => cases op <;> simp at hk
    case convert s d x => split at hk <;> cases hk
    case call c =>
      split at ha
      · rename_i b hb; rw [hb] at hk; cases b <;> simp at hk; split at hk <;> cases hk
      · cases ha
  | write =>
    cases o <;> simp only [kindOf] at hk <;> (try (cases hk; done)) <;> simp only [aop] at ha <;> (try (cases ha; done))
    case store t x y =>
      split at ha
      · unfold astore at ha
        repeat' (split at ha)
        all_goals (first | (cases ha; done) | (cases ha; simp))
      · cases ha
    case mapUpdate t m k x =>
      unfold amapUpdateK amapUpdate amapUpdateP at ha
      repeat' (split at ha)
      all_goals (first | (cases ha; done) | (cases ha; simp))
    case binOp op _ _ _ _ => cases op <;> simp at hk
    case convert s d x =>
      unfold aconv at ha
      repeat' (split at ha)
      all_goals (first | (cases ha; done) | (cases ha; simp; done) | skip)
      rename_i cs _
      generalize bytesOfCells cs _ = q at ha
      cases q with
      | none => cases ha
      | some c => simp only [Option.map_some, Option.some.injEq, Prod.mk.injEq] at ha; obtain ⟨rfl, rfl⟩ := ha; exact Nat.le_refl _
    case call c =>
      split at ha
      · unfold abuiltin at ha
        split at ha
        · rename_i hb; rw [hb] at hk; simp at hk
        · rename_i hb; rw [hb] at hk; simp at hk
        · unfold aappendB at ha
          repeat' (split at ha)
          all_goals (first | (cases ha; done) | (cases ha; simp; done) | skip)
          unfold aappend at ha
          repeat' (split at ha)
          all_goals (first | (cases ha; done) | (cases ha; simp))
        · unfold acopy at ha
          repeat' (split at ha)
          all_goals (first | (cases ha; done) | (cases ha; simp))
        · unfold aclear at ha
          repeat' (split at ha)
          all_goals (first | (cases ha; done) | (cases ha; simp))
        · unfold adelete at ha
          repeat' (split at ha)
          all_goals (first | (cases ha; done) | (cases ha; simp))
        · rename_i hb; rw [hb] at hk; simp at hk
        · rename_i hb; rw [hb] at hk; simp at hk
        · cases ha
      · cases ha

end
end Go.AM
