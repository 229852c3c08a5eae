/- AM: a region that draws its order: the theorem. -/
import Derived.Test.YtohgnkjemfkeoaaAmRegC
set_option linter.unusedSimpArgs false
set_option linter.unusedVariables false
set_option linter.unnecessarySimpa false
namespace Go.AM

/-- The value of a slot when those listed are done: what the last of them has written. -/
def sv (ops : Array Oper) (V : Nat → Value) (L : Nat → Bool) (a0 : Act) (t : Nat) : Nat → Value
  | 0 => a0.tmps.getD t undef
  | k + 1 => if L k = true ∧ (ops[k]?).bind (·.dst) = some t ∧ t < a0.tmps.size then V k else sv ops V L a0 t k

/-- Does it act as one that writes? -/
def wr (ops : Array Oper) (b : Array Nat) (k : Nat) : Bool := opKind ops k == .write || (opKind ops k == .call && !chkOf ops b k)

/-- The first that writes and is not done. -/
def firstW (ops : Array Oper) (b : Array Nat) (L : Nat → Bool) : Nat → Nat → Nat
  | 0, k => k
  | f + 1, k => if wr ops b k = true ∧ L k = false then k else firstW ops b L f (k + 1)

theorem firstW_ge (ops : Array Oper) (b : Array Nat) (L : Nat → Bool) : ∀ f k, k ≤ firstW ops b L f k
  | 0, k => Nat.le_refl _
  | f + 1, k => by
    unfold firstW; split
    · exact Nat.le_refl _
    · exact Nat.le_trans (Nat.le_succ k) (firstW_ge ops b L f (k + 1))
theorem firstW_le (ops : Array Oper) (b : Array Nat) (L : Nat → Bool) : ∀ f k, firstW ops b L f k ≤ k + f
  | 0, k => Nat.le_refl _
  | f + 1, k => by
    unfold firstW; split
    · omega
    · have := firstW_le ops b L f (k + 1); omega
theorem firstW_done (ops : Array Oper) (b : Array Nat) (L : Nat → Bool) : ∀ f k j, k ≤ j → j < firstW ops b L f k → wr ops b j = true → L j = true
  | 0, k, j, h1, h2, _ => by simp only [firstW] at h2; omega
  | f + 1, k, j, h1, h2, h3 => by
    unfold firstW at h2
    split at h2
    · omega
    · rename_i hn
      rcases Nat.eq_or_lt_of_le h1 with e | e
      · subst e
        cases hL : L k
        · exact absurd ⟨h3, hL⟩ hn
        · rfl
      · exact firstW_done ops b L f (k + 1) j e h2 h3
theorem firstW_at (ops : Array Oper) (b : Array Nat) (L : Nat → Bool) : ∀ f k, firstW ops b L f k < k + f → wr ops b (firstW ops b L f k) = true ∧ L (firstW ops b L f k) = false
  | 0, k, h => by simp only [firstW] at h; omega
  | f + 1, k, h => by
    unfold firstW at h ⊢
    split at h
    · rename_i hc; rw [if_pos hc]; exact hc
    · rename_i hc; rw [if_neg hc]; exact firstW_at ops b L f (k + 1) (by omega)

section
variable {P : Program} {ops : Array Oper} {A : Nat → Act} {H : Nat → AHeap} {V : Nat → Value}

theorem sv_eq (hA : ∀ k o, ops[k]? = some o → A (k + 1) = (A k).put o.dst (V k)) (hsz : ∀ k, k ≤ ops.size → (A k).tmps.size = (A 0).tmps.size) {L : Nat → Bool} {t : Nat} {i : Nat} (hi : i ≤ ops.size)
    (h1 : ∀ k, k < i → (ops[k]?).bind (·.dst) = some t → L k = true) (h2 : ∀ k, i ≤ k → k < ops.size → (ops[k]?).bind (·.dst) = some t → L k = false) :
    sv ops V L (A 0) t ops.size = (A i).tmps.getD t undef := by
  have low : ∀ k, k ≤ i → sv ops V L (A 0) t k = (A k).tmps.getD t undef := by
    intro k
    induction k with
    | zero => intro _; rfl
    | succ k ih =>
      intro hk
      have hlt : k < ops.size := by omega
      have ho : ops[k]? = some ops[k] := Array.getElem?_eq_getElem hlt
      have hput := hA k _ ho
      have hs := hsz k (by omega)
      unfold sv
      split
      · rename_i hc
        obtain ⟨_, hd, ht⟩ := hc
        rw [ho, Option.bind_some] at hd
        rw [hput]
        simp only [Act.put, hd]
        simp [Array.getD_eq_getD_getElem?, hs, ht]
      · rename_i hc
        rw [ih (by omega), hput]
        cases hd : ops[k].dst with
        | none => rfl
        | some d =>
          simp only [Act.put]
          by_cases hdt : d = t
          · subst hdt
            have hL := h1 k (by omega) (by rw [ho]; exact hd)
            have hnt : (A 0).tmps.size ≤ d := Nat.le_of_not_lt fun h => hc ⟨hL, by rw [ho]; exact hd, h⟩
            rw [Array.getD_eq_getD_getElem?, Array.getD_eq_getD_getElem?, Array.getElem?_eq_none (by omega), Array.getElem?_eq_none (by simp; omega)]
          · rw [Array.getD_eq_getD_getElem?, Array.getD_eq_getD_getElem?, Array.getElem?_setIfInBounds_ne hdt]
  have high : ∀ d, i + d ≤ ops.size → sv ops V L (A 0) t (i + d) = (A i).tmps.getD t undef := by
    intro d
    induction d with
    | zero => intro _; exact low i (Nat.le_refl _)
    | succ d ih =>
      intro hd
      rw [← Nat.add_assoc]
      unfold sv
      rw [if_neg]
      · exact ih (by omega)
      · rintro ⟨g1, g2, _⟩
        have := h2 (i + d) (by omega) (by omega) g2
        rw [g1] at this; cases this
  have := high (ops.size - i) (by omega)
  rwa [show i + (ops.size - i) = ops.size by omega] at this

theorem sv_set {L L' : Nat → Bool} {a0 : Act} {t i : Nat} (hL : ∀ k, k ≠ i → L' k = L k) (hLi : L i = false) (hLi' : L' i = true) (hin : i < ops.size)
    (hlate : (ops[i]?).bind (·.dst) = some t → ∀ k, i < k → k < ops.size → (ops[k]?).bind (·.dst) = some t → L k = false) :
    sv ops V L' a0 t ops.size = if (ops[i]?).bind (·.dst) = some t ∧ t < a0.tmps.size then V i else sv ops V L a0 t ops.size := by
  have low : ∀ k, k ≤ i → sv ops V L' a0 t k = sv ops V L a0 t k := by
    intro k
    induction k with
    | zero => intro _; rfl
    | succ k ih => intro hk; unfold sv; rw [hL k (by omega), ih (by omega)]
  by_cases hd : (ops[i]?).bind (·.dst) = some t ∧ t < a0.tmps.size
  · rw [if_pos hd]
    have high : ∀ d, i + 1 + d ≤ ops.size → sv ops V L' a0 t (i + 1 + d) = V i := by
      intro d
      induction d with
      | zero => intro _; show sv ops V L' a0 t (i + 1) = V i; unfold sv; rw [if_pos ⟨hLi', hd⟩]
      | succ d ih =>
        intro hle
        rw [← Nat.add_assoc]
        unfold sv
        rw [if_neg]
        · exact ih (by omega)
        · rintro ⟨g1, g2, _⟩
          have := hlate hd.1 (i + 1 + d) (by omega) (by omega) g2
          rw [hL _ (by omega), this] at g1; cases g1
    have := high (ops.size - (i + 1)) (by omega)
    rwa [show i + 1 + (ops.size - (i + 1)) = ops.size by omega] at this
  · rw [if_neg hd]
    have all : ∀ k, sv ops V L' a0 t k = sv ops V L a0 t k := by
      intro k
      induction k with
      | zero => rfl
      | succ k ih =>
        unfold sv
        by_cases hk : k = i
        · subst hk
          rw [if_neg (fun h => hd h.2), if_neg (fun h => hd h.2), ih]
        · rw [hL k hk, ih]
    exact all _

/-- The chain of heaps, and which of its steps leave what is there. -/
structure Trace (P : Program) (C : CallRel) (ops : Array Oper) (A : Nat → Act) (H : Nat → AHeap) (V : Nat → Value) : Prop where
  step : ∀ k, StepAt P C ops (chkOf ops (Region.before ops)) A H V k

section
variable {P : Program} {ops : Array Oper} {C : CallRel} {A : Nat → Act} {H : Nat → AHeap} {V : Nat → Value}

theorem acall_kind {ρ : Operand → Value} {o : Op} {q : Option (FuncId × Array Value)} (h : acall? ρ o = some q) : kindOf o = .call := by
  unfold acall? at h
  split at h
  · rename_i c
    split at h
    · rename_i f hc; simp [kindOf, hc]
    · rename_i r m hc; simp [kindOf, hc]
    · cases h
  · cases h

theorem opKind_eq {k : Nat} {o : Oper} (ho : ops[k]? = some o) : opKind ops k = kindOf o.op := by simp [opKind, ho]

/-- A step that does not act as one that writes leaves what is there. -/
theorem Trace.quiet (hT : Trace P C ops A H V) {k : Nat} (hk : k < ops.size) (hw : wr ops (Region.before ops) k = false) : (H k).quiet (H (k + 1)) := by
  have ho : ops[k]? = some ops[k] := Array.getElem?_eq_getElem hk
  obtain ⟨_, h2⟩ := hT.step k _ ho
  have hkind := opKind_eq ho
  split at h2
  · cases hc : acall? (A k).eval ops[k].op with
    | none =>
      simp only [hc] at h2
      cases hkk : kindOf ops[k].op with
      | pure => rw [(aop_pure hkk h2).1]; exact .refl _
      | read => exact aop_quiet hkk h2
      | write => simp [wr, hkind, hkk] at hw
      | call =>
        -- a call that is no call of a Go function is a builtin
        exfalso
        clear h2 hkind
        generalize ops[k].op = op at hc hkk
        cases op with
        | call c =>
          obtain ⟨cal, args, ats⟩ := c
          cases cal with
          | value f => simp only [acall?] at hc; split at hc <;> cases hc
          | invoke => simp [acall?] at hc
          | builtin b => cases b <;> simp [kindOf] at hkk
        | binOp op => cases op <;> simp [kindOf] at hkk
        | convert s d x => simp only [kindOf] at hkk; split at hkk <;> cases hkk
        | _ => simp [kindOf] at hkk
    | some q =>
      have hcall := acall_kind hc
      cases q with
      | none => simp [hc] at h2
      | some q =>
        obtain ⟨g, args⟩ := q
        simp only [hc] at h2
        refine h2.2 ?_
        simp only [wr, hkind, hcall] at hw
        cases hch : chkOf ops (Region.before ops) k
        · simp [hch] at hw
        · rfl
  · rw [h2.2]; exact .refl _

theorem Trace.quiets (hT : Trace P C ops A H V) {i : Nat} : ∀ d, i + d ≤ ops.size → (∀ k, i ≤ k → k < i + d → wr ops (Region.before ops) k = false) → (H i).quiet (H (i + d))
  | 0, _, _ => .refl _
  | d + 1, hd, hw => (Trace.quiets hT d (by omega) (fun k h1 h2 => hw k h1 (by omega))).trans (hT.quiet (by omega) (hw _ (by omega) (by omega)))

theorem Trace.next (hT : Trace P C ops A H V) (hC : ∀ g args h v h', C g args h v h' → h.next ≤ h'.next) (hA : ∀ ρ (h : AHeap) (o : Op) v h', aop P ρ h o = some (v, h') → h.next ≤ h'.next) {k : Nat} (hk : k < ops.size) : (H k).next ≤ (H (k + 1)).next := by
  have ho : ops[k]? = some ops[k] := Array.getElem?_eq_getElem hk
  obtain ⟨_, h2⟩ := hT.step k _ ho
  split at h2
  · cases hc : acall? (A k).eval ops[k].op with
    | none => simp only [hc] at h2; exact hA _ _ _ _ _ h2
    | some q =>
      cases q with
      | none => simp [hc] at h2
      | some q => simp only [hc] at h2; exact hC _ _ _ _ _ h2.1
  · rw [h2.2]; exact Nat.le_refl _

end
end
end Go.AM
