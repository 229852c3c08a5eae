/- AM: a region that draws its order: the theorem. -/
import Derived.Test.YtfdbadpiklmbaaaAmRegC
set_option linter.unusedSimpArgs false
set_option linter.unusedVariables false
set_option linter.unnecessarySimpa false
set_option maxRecDepth 100000
namespace Go.AM

/-- The value of a slot when those listed are done: what the last of them has written. -/
def sv (ops : Array Oper) (V : Nat → Value) (L : Nat → Bool) (a0 : Act) (t : Nat) : Nat → Value
  | 0 => a0.tmps.getD t undef
  | k + 1 => if L k = true ∧ (ops[k]?).bind (·.dst) = some t ∧ t < a0.tmps.size then V k else sv ops V L a0 t k

open Classical in
/-- Does it act as one that writes? -/
noncomputable def Wr (ops : Array Oper) (H : Nat → AHeap) (k : Nat) : Bool := opKind ops k == .write || (opKind ops k == .call && (!chkOf ops (Region.before ops) k || !decide ((H k).quiet (H (k + 1)))))

/-- The first that writes and is not done. -/
def firstW (W : Nat → Bool) (L : Nat → Bool) : Nat → Nat → Nat
  | 0, k => k
  | f + 1, k => if W k = true ∧ L k = false then k else firstW W L f (k + 1)

theorem firstW_ge (W : Nat → Bool) (L : Nat → Bool) : ∀ f k, k ≤ firstW W L f k
  | 0, k => Nat.le_refl _
  | f + 1, k => by
    unfold firstW; split
    · exact Nat.le_refl _
    · exact Nat.le_trans (Nat.le_succ k) (firstW_ge W L f (k + 1))
theorem firstW_le (W : Nat → Bool) (L : Nat → Bool) : ∀ f k, firstW W L f k ≤ k + f
  | 0, k => Nat.le_refl _
  | f + 1, k => by
    unfold firstW; split
    · omega
    · have := firstW_le W L f (k + 1); omega
theorem firstW_done (W : Nat → Bool) (L : Nat → Bool) : ∀ f k j, k ≤ j → j < firstW W L f k → W j = true → L j = true
  | 0, k, j, h1, h2, _ => by simp only [firstW] at h2; omega
  | f + 1, k, j, h1, h2, h3 => by
    unfold firstW at h2
    split at h2
    · omega
    · rename_i hn
      rcases Nat.eq_or_lt_of_le h1 with e | e
      · subst e
        cases hL : L k
        · exact absurd ⟨h3, hL⟩ hn
        · rfl
      · exact firstW_done W L f (k + 1) j e h2 h3
theorem firstW_at (W : Nat → Bool) (L : Nat → Bool) : ∀ f k, firstW W L f k < k + f → W (firstW W L f k) = true ∧ L (firstW W L f k) = false
  | 0, k, h => by simp only [firstW] at h; omega
  | f + 1, k, h => by
    unfold firstW at h ⊢
    split at h
    · rename_i hc; rw [if_pos hc]; exact hc
    · rename_i hc; rw [if_neg hc]; exact firstW_at W L f (k + 1) (by omega)

section
variable {P : Program} {ops : Array Oper} {A : Nat → Act} {H : Nat → AHeap} {V : Nat → Value}

theorem sv_eq (hA : ∀ k o, ops[k]? = some o → A (k + 1) = (A k).put o.dst (V k)) (hsz : ∀ k, k ≤ ops.size → (A k).tmps.size = (A 0).tmps.size) {L : Nat → Bool} {t : Nat} {i : Nat} (hi : i ≤ ops.size)
    (h1 : ∀ k, k < i → (ops[k]?).bind (·.dst) = some t → L k = true) (h2 : ∀ k, i ≤ k → k < ops.size → (ops[k]?).bind (·.dst) = some t → L k = false) :
    sv ops V L (A 0) t ops.size = (A i).tmps.getD t undef := by
  have low : ∀ k, k ≤ i → sv ops V L (A 0) t k = (A k).tmps.getD t undef := by
    intro k
    induction k with
    | zero => intro _; rfl
    | succ k ih =>
      intro hk
      have hlt : k < ops.size := by omega
      have ho : ops[k]? = some ops[k] := Array.getElem?_eq_getElem hlt
      have hput := hA k _ ho
      have hs := hsz k (by omega)
      unfold sv
      split
      · rename_i hc
        obtain ⟨_, hd, ht⟩ := hc
        rw [ho, Option.bind_some] at hd
        rw [hput]
        simp only [Act.put, hd]
        simp [Array.getD_eq_getD_getElem?, hs, ht]
      · rename_i hc
        rw [ih (by omega), hput]
        cases hd : ops[k].dst with
        | none => rfl
        | some d =>
          simp only [Act.put]
          by_cases hdt : d = t
          · subst hdt
            have hL := h1 k (by omega) (by rw [ho]; exact hd)
            have hnt : (A 0).tmps.size ≤ d := Nat.le_of_not_lt fun h => hc ⟨hL, by rw [ho]; exact hd, h⟩
            rw [Array.getD_eq_getD_getElem?, Array.getD_eq_getD_getElem?, Array.getElem?_eq_none (by omega), Array.getElem?_eq_none (by simp; omega)]
          · rw [Array.getD_eq_getD_getElem?, Array.getD_eq_getD_getElem?, Array.getElem?_setIfInBounds_ne hdt]
  have high : ∀ d, i + d ≤ ops.size → sv ops V L (A 0) t (i + d) = (A i).tmps.getD t undef := by
    intro d
    induction d with
    | zero => intro _; exact low i (Nat.le_refl _)
    | succ d ih =>
      intro hd
      rw [← Nat.add_assoc]
      unfold sv
      rw [if_neg]
      · exact ih (by omega)
      · rintro ⟨g1, g2, _⟩
        have := h2 (i + d) (by omega) (by omega) g2
        rw [g1] at this; cases this
  have := high (ops.size - i) (by omega)
  rwa [show i + (ops.size - i) = ops.size by omega] at this

theorem sv_set {L L' : Nat → Bool} {a0 : Act} {t i : Nat} (hL : ∀ k, k ≠ i → L' k = L k) (hLi : L i = false) (hLi' : L' i = true) (hin : i < ops.size)
    (hlate : (ops[i]?).bind (·.dst) = some t → ∀ k, i < k → k < ops.size → (ops[k]?).bind (·.dst) = some t → L k = false) :
    sv ops V L' a0 t ops.size = if (ops[i]?).bind (·.dst) = some t ∧ t < a0.tmps.size then V i else sv ops V L a0 t ops.size := by
  have low : ∀ k, k ≤ i → sv ops V L' a0 t k = sv ops V L a0 t k := by
    intro k
    induction k with
    | zero => intro _; rfl
    | succ k ih => intro hk; unfold sv; rw [hL k (by omega), ih (by omega)]
  by_cases hd : (ops[i]?).bind (·.dst) = some t ∧ t < a0.tmps.size
  · rw [if_pos hd]
    have high : ∀ d, i + 1 + d ≤ ops.size → sv ops V L' a0 t (i + 1 + d) = V i := by
      intro d
      induction d with
      | zero => intro _; show sv ops V L' a0 t (i + 1) = V i; unfold sv; rw [if_pos ⟨hLi', hd⟩]
      | succ d ih =>
        intro hle
        rw [← Nat.add_assoc]
        unfold sv
        rw [if_neg]
        · exact ih (by omega)
        · rintro ⟨g1, g2, _⟩
          have := hlate hd.1 (i + 1 + d) (by omega) (by omega) g2
          rw [hL _ (by omega), this] at g1; cases g1
    have := high (ops.size - (i + 1)) (by omega)
    rwa [show i + 1 + (ops.size - (i + 1)) = ops.size by omega] at this
  · rw [if_neg hd]
    have all : ∀ k, sv ops V L' a0 t k = sv ops V L a0 t k := by
      intro k
      induction k with
      | zero => rfl
      | succ k ih =>
        unfold sv
        by_cases hk : k = i
        · subst hk
          rw [if_neg (fun h => hd h.2), if_neg (fun h => hd h.2), ih]
        · rw [hL k hk, ih]
    exact all _

/-- The chain of heaps, and which of its steps leave what is there. -/
structure Trace (P : Program) (C : CallRel) (ops : Array Oper) (A : Nat → Act) (H : Nat → AHeap) (V : Nat → Value) : Prop where
  step : ∀ k, StepAt P C ops (chkOf ops (Region.before ops)) A H V k

section
variable {P : Program} {ops : Array Oper} {C : CallRel} {A : Nat → Act} {H : Nat → AHeap} {V : Nat → Value}

theorem acall_kind {ρ : Operand → Value} {o : Op} {q : Option (FuncId × Array Value)} (h : acall? ρ o = some q) : kindOf o = .call := by
  unfold acall? at h
  split at h
  · rename_i c
    split at h
    · rename_i f hc; simp [kindOf, hc]
    · rename_i r m hc; simp [kindOf, hc]
    · cases h
  · cases h

theorem opKind_eq {k : Nat} {o : Oper} (ho : ops[k]? = some o) : opKind ops k = kindOf o.op := by simp [opKind, ho]

/-- A step that does not act as one that writes leaves what is there. -/
theorem Trace.quiet (hT : Trace P C ops A H V) {k : Nat} (hk : k < ops.size) (hw : Wr ops H k = false) : (H k).quiet (H (k + 1)) := by
  have ho : ops[k]? = some ops[k] := Array.getElem?_eq_getElem hk
  obtain ⟨_, h2⟩ := hT.step k _ ho
  have hkind := opKind_eq ho
  split at h2
  · cases hc : acall? (A k).eval ops[k].op with
    | none =>
      simp only [hc] at h2
      cases hkk : kindOf ops[k].op with
      | pure => rw [(aop_pure hkk h2).1]; exact .refl _
      | read => exact aop_quiet (fun _ => rfl) hkk h2
      | write => simp [Wr, hkind, hkk] at hw
      | call =>
        -- a call that is no call of a Go function is a builtin
        exfalso
        clear h2 hkind
        generalize ops[k].op = op at hc hkk
        cases op with
        | call c =>
          obtain ⟨cal, args, ats⟩ := c
          cases cal with
          | value f => simp only [acall?] at hc; split at hc <;> first | (cases hc; done) | (split at hc <;> cases hc)
          | invoke => simp [acall?] at hc
          | builtin b => cases b <;> simp only [kindOf] at hkk <;> first | (cases hkk; done) | (split at hkk <;> cases hkk)
        | binOp op => cases op <;> simp [kindOf] at hkk
        | convert s d x => simp only [kindOf] at hkk; split at hkk <;> cases hkk
        | _ => simp [kindOf] at hkk
    | some q =>
      have hcall := acall_kind hc
      cases q with
      | none => simp [hc] at h2
      | some q =>
        obtain ⟨g, args⟩ := q
        simp only [hc] at h2
        simp only [Wr, hkind, hcall, Bool.or_eq_false_iff, Bool.and_eq_false_iff, Bool.not_eq_false', decide_eq_true_eq] at hw
        rcases hw.2 with e | e
        · simp at e
        · exact e.2
  · rw [h2.2]; exact .refl _

theorem Trace.quiets (hT : Trace P C ops A H V) {i : Nat} : ∀ d, i + d ≤ ops.size → (∀ k, i ≤ k → k < i + d → Wr ops H k = false) → (H i).quiet (H (i + d))
  | 0, _, _ => .refl _
  | d + 1, hd, hw => (Trace.quiets hT d (by omega) (fun k h1 h2 => hw k h1 (by omega))).trans (hT.quiet (by omega) (hw _ (by omega) (by omega)))

/-- A slot that the region does not write. -/
theorem never_written (hA : ∀ k o, ops[k]? = some o → A (k + 1) = (A k).put o.dst (V k)) {t : Tmp} (hd : defs ops t = []) : ∀ k, k ≤ ops.size → (A k).tmps.getD t undef = (A 0).tmps.getD t undef := by
  intro k
  induction k with
  | zero => intro _; rfl
  | succ k ih =>
    intro hk
    have ho : ops[k]? = some ops[k] := Array.getElem?_eq_getElem (show k < ops.size by omega)
    rw [hA k _ ho, ← ih (by omega)]
    cases hdst : ops[k].dst with
    | none => rfl
    | some d =>
      have hne : d ≠ t := by
        rintro rfl
        have : k ∈ defs ops d := by
          unfold defs
          rw [List.mem_filter]
          refine ⟨List.mem_range.2 (by omega), ?_⟩
          rw [ho, Option.bind_some, hdst]
          exact beq_self_eq_true _
        rw [hd] at this; cases this
      simp only [Act.put, Array.getD_eq_getD_getElem?]
      rw [Array.getElem?_setIfInBounds_ne hne]

/-- A slot that is written once: behind it, what was written. -/
theorem once_written (hA : ∀ k o, ops[k]? = some o → A (k + 1) = (A k).put o.dst (V k)) {t : Tmp} {d : Nat} (hd : defs ops t = [d]) : ∀ k, d < k → k ≤ ops.size → (A k).tmps.getD t undef = V d ∨ (A k).tmps.getD t undef = undef := by
  have hmem : d ∈ defs ops t := by rw [hd]; simp
  unfold defs at hmem
  rw [List.mem_filter] at hmem
  have hdl := List.mem_range.1 hmem.1
  have hod : ops[d]? = some ops[d] := Array.getElem?_eq_getElem hdl
  have hdst : ops[d].dst = some t := by have := hmem.2; rw [hod, Option.bind_some] at this; exact eq_of_beq this
  intro k
  induction k with
  | zero => intro h1; omega
  | succ k ih =>
    intro h1 h2
    have ho : ops[k]? = some ops[k] := Array.getElem?_eq_getElem (show k < ops.size by omega)
    by_cases hkd : k = d
    · subst hkd
      rw [hA k _ hod, hdst]
      simp only [Act.put, Array.getD_eq_getD_getElem?]
      rcases Nat.lt_or_ge t (A k).tmps.size with h3 | h3
      · left; simp [h3]
      · right; rw [Array.getElem?_eq_none (by simpa using h3)]; rfl
    · rw [hA k _ ho]
      cases hdst' : ops[k].dst with
      | none => exact ih (by omega) (by omega)
      | some e =>
        have hne : e ≠ t := by
          rintro rfl
          have : k ∈ defs ops e := by
            unfold defs
            rw [List.mem_filter]
            refine ⟨List.mem_range.2 (by omega), ?_⟩
            rw [ho, Option.bind_some, hdst']
            exact beq_self_eq_true _
          rw [hd] at this; simp at this; exact hkd this
        simp only [Act.put, Array.getD_eq_getD_getElem?]
        rw [Array.getElem?_setIfInBounds_ne hne]
        simpa [Array.getD_eq_getD_getElem?] using ih (by omega) (by omega)

theorem vblk_field {s : TypeId} {v : Value} {f : Nat} {u : Value} (h : afieldAddr P s v f = some u) {x : Nat} (hx : vblk u = some x) : vblk v = some x := by
  unfold afieldAddr at h
  repeat' (split at h)
  all_goals first | (cases h; done) | (cases h; simpa [vblk] using hx) | skip

theorem root_spec (hT : Trace P C ops A H V) : ∀ (n r : Nat) (t b : Tmp), rootOf ops n r t = some b → r ≤ ops.size → defs ops b = [] ∧ ∀ x, vblk ((A r).tmps.getD t undef) = some x → vblk ((A 0).tmps.getD b undef) = some x := by
  have hA : ∀ k o, ops[k]? = some o → A (k + 1) = (A k).put o.dst (V k) := fun k o ho => (hT.step k o ho).1
  intro n
  induction n with
  | zero => intro r t b h; cases h
  | succ n ih =>
    intro r t b h hr
    unfold rootOf at h
    split at h
    · rename_i hd
      cases h
      exact ⟨hd, fun x hx => by rw [never_written hA hd r hr] at hx; exact hx⟩
    · rename_i d hd
      split at h
      · rename_i hdr
        have hod : ops[d]? = some ops[d] := Array.getElem?_eq_getElem (show d < ops.size by omega)
        rw [hod] at h
        simp only at h
        -- what stands in the slot comes from the other one
        have via : ∀ (u : Tmp), rootOf ops n d u = some b → (∀ (v' : Value) (h' : AHeap), aop P (A d).eval (H d) ops[d].op = some (v', h') → ∀ x, vblk v' = some x → vblk ((A d).tmps.getD u undef) = some x) → acall? (A d).eval ops[d].op = none →
            defs ops b = [] ∧ ∀ x, vblk ((A r).tmps.getD t undef) = some x → vblk ((A 0).tmps.getD b undef) = some x := by
          intro u hu hval hnc
          obtain ⟨h1, h2⟩ := ih d u b hu (by omega)
          refine ⟨h1, fun x hx => h2 x ?_⟩
          rcases once_written hA hd r hdr hr with e | e
          · rw [e] at hx
            obtain ⟨_, hs⟩ := hT.step d _ hod
            split at hs
            · simp only [hnc] at hs; exact hval _ _ hs x hx
            · rw [hs.1] at hx; simp [vblk, undef] at hx
          · rw [e] at hx; simp [vblk, undef] at hx
        split at h
        · rename_i s u f hop
          refine via u h ?_ (by rw [hop]; rfl)
          intro v' h' ha x hx
          rw [hop] at ha
          simp only [aop, Option.map_eq_some_iff] at ha
          obtain ⟨w, hw, e⟩ := ha
          cases e
          exact vblk_field hw hx
        · rename_i u hop
          refine via u h ?_ (by rw [hop]; rfl)
          intro v' h' ha x hx
          rw [hop] at ha
          simp only [aop] at ha
          cases ha; exact hx
        · rename_i u hop
          refine via u h ?_ (by rw [hop]; rfl)
          intro v' h' ha x hx
          rw [hop] at ha
          simp only [aop] at ha
          split at ha
          · rename_i ad he
            cases ha
            have : (A d).tmps.getD u undef = .pointer (some ad) := he
            rw [this]; exact hx
          · cases ha
        · cases h
      · cases h
    · cases h

/-- A load by such an address: what it yields at another heap that has the same there. -/
theorem look_at (hT : Trace P C ops A H V) {i : Nat} {o : Oper} {b : Tmp} (ho : ops[i]? = some o) (hl : lookBase ops i = some b) (hw : Region.wanted o (yielded ops (A i).tmps) = true) :
    kindOf o.op = .read ∧ acall? (A i).eval o.op = none ∧ H (i + 1) = H i ∧ defs ops b = [] ∧ ∃ x, vblk ((A 0).tmps.getD b undef) = some x ∧ x < (H i).next ∧ ∀ h, h.get x = (H i).get x → aop P (A i).eval h o.op = some (V i, h) := by
  have hi : i < ops.size := (Array.getElem?_eq_some_iff.1 ho).1
  obtain ⟨_, hs⟩ := hT.step i o ho
  rw [if_pos hw] at hs
  unfold lookBase at hl
  rw [ho] at hl
  simp only at hl
  split at hl
  · rename_i ty t hop
    have hnc : acall? (A i).eval o.op = none := by rw [hop]; rfl
    simp only [hnc] at hs
    obtain ⟨h1, h2⟩ := root_spec hT 4 i t b hl (by omega)
    rw [hop] at hs ⊢
    simp only [aop] at hs
    split at hs
    · rename_i id off he
      have he' : (A i).tmps.getD t undef = .pointer (some ⟨id, off, none⟩) := he
      rw [Option.map_eq_some_iff] at hs
      obtain ⟨v, hv, e⟩ := hs
      simp only [Prod.mk.injEq] at e
      obtain ⟨e1, e2⟩ := e
      have halive : (H i).get id ≠ .dead := by
        intro hdead
        unfold aload at hv
        rw [hdead] at hv; cases hv
      refine ⟨rfl, rfl, e2.symm, h1, id, h2 id (by rw [he']; rfl), AHeap.lt_of_alive _ halive, fun h hg => ?_⟩
      simp only [aop, he, Option.map_eq_some_iff]
      refine ⟨v, ?_, by rw [e1]⟩
      unfold aload at hv ⊢
      rw [hg]; exact hv
    · cases hs
  · cases hl

theorem Trace.next (hT : Trace P C ops A H V) (hC : ∀ g args h v h', C g args h v h' → h.next ≤ h'.next) (hA : ∀ ρ (h : AHeap) (o : Op) v h', aop P ρ h o = some (v, h') → h.next ≤ h'.next) {k : Nat} (hk : k < ops.size) : (H k).next ≤ (H (k + 1)).next := by
  have ho : ops[k]? = some ops[k] := Array.getElem?_eq_getElem hk
  obtain ⟨_, h2⟩ := hT.step k _ ho
  split at h2
  · cases hc : acall? (A k).eval ops[k].op with
    | none => simp only [hc] at h2; exact hA _ _ _ _ _ h2
    | some q =>
      cases q with
      | none => simp [hc] at h2
      | some q => simp only [hc] at h2; exact hC _ _ _ _ _ h2.1
  · rw [h2.2]; exact Nat.le_refl _

end
end
end Go.AM
