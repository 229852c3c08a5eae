/- AM: the draw itself. -/
import Derived.Test.YtfdbadpiklmbaaaAmRegB
set_option linter.unusedSimpArgs false
set_option linter.unusedVariables false
set_option linter.unnecessarySimpa false
set_option maxRecDepth 100000
namespace Go.AM
section
variable {P : Program}

/-- What the order of the text comes to at operation k. -/
def StepAt (P : Program) (C : CallRel) (ops : Array Oper) (chk : Nat → Bool) (A : Nat → Act) (H : Nat → AHeap) (V : Nat → Value) (k : Nat) : Prop :=
  ∀ o, ops[k]? = some o → A (k + 1) = (A k).put o.dst (V k) ∧
    if Region.wanted o (yielded ops (A k).tmps) = true then
      (match acall? (A k).eval o.op with
       | some (some (g, args)) => C g args (H k) (V k) (H (k + 1)) ∧ (chk k = true → (H k).quiet (H (k + 1)) ∨ (hardOf ops (Region.before ops) k = true ∧ keepsA ops (fun t => (A k).tmps.getD t undef) (H k) (H (k + 1))))
       | some none => False
       | none => aop P (A k).eval (H k) o.op = some (V k, H (k + 1)))
    else V k = undef ∧ H (k + 1) = H k

theorem wpA_trace {C : CallRel} {ops : Array Oper} {chk : Nat → Bool} {K : Act → AHeap → Prop} : ∀ (l : List Oper) (i : Nat) (a : Act) (h : AHeap), ops.toList.drop i = l → wpA P C ops chk K i l a h →
    ∃ (A : Nat → Act) (H : Nat → AHeap) (V : Nat → Value), A i = a ∧ H i = h ∧ K (A (i + l.length)) (H (i + l.length)) ∧ ∀ k, i ≤ k → StepAt P C ops chk A H V k
  | [], i, a, h, hl, hw => by
    refine ⟨fun _ => a, fun _ => h, fun _ => undef, rfl, rfl, hw, fun k hk o ho => ?_⟩
    have : ops.toList[k]? = some o := by simpa using ho
    have h1 := List.drop_eq_nil_iff.1 hl
    rw [List.getElem?_eq_none (by omega)] at this
    cases this
  | o :: rest, i, a, h, hl, hw => by
    have hoi : ops[i]? = some o := by
      have := congrArg (fun l : List Oper => l[0]?) hl
      simp only [List.getElem?_drop] at this
      simpa using this
    have hl' : ops.toList.drop (i + 1) = rest := by
      have := congrArg List.tail hl
      simpa [List.tail_drop] using this
    -- the first step, then the others
    have glue : ∀ {v : Value} {h' : AHeap}, wpA P C ops chk K (i + 1) rest (a.put o.dst v) h' →
        (if Region.wanted o (yielded ops a.tmps) = true then
          (match acall? a.eval o.op with
           | some (some (g, args)) => C g args h v h' ∧ (chk i = true → h.quiet h' ∨ (hardOf ops (Region.before ops) i = true ∧ keepsA ops (fun t => a.tmps.getD t undef) h h'))
           | some none => False
           | none => aop P a.eval h o.op = some (v, h'))
         else v = undef ∧ h' = h) →
        ∃ (A : Nat → Act) (H : Nat → AHeap) (V : Nat → Value), A i = a ∧ H i = h ∧ K (A (i + (o :: rest).length)) (H (i + (o :: rest).length)) ∧ ∀ k, i ≤ k → StepAt P C ops chk A H V k := by
      intro v h' h1 h2
      obtain ⟨A, H, V, e1, e2, hK, hs⟩ := wpA_trace rest (i + 1) _ h' hl' h1
      refine ⟨fun k => if k = i then a else A k, fun k => if k = i then h else H k, fun k => if k = i then v else V k, by simp, by simp, ?_, ?_⟩
      · have hne : i + (o :: rest).length ≠ i := by simp
        simp only [hne, if_false]
        have : i + (o :: rest).length = i + 1 + rest.length := by simp; omega
        rw [this]; exact hK
      · intro k hk
        by_cases hki : k = i
        · subst hki
          intro o' ho'
          rw [hoi] at ho'
          cases ho'
          have hne : k + 1 ≠ k := by omega
          simp only [hne, if_false, if_true, e1, e2]
          exact ⟨trivial, h2⟩
        · have hne : k + 1 ≠ i := by omega
          intro o' ho'
          have := hs k (by omega) o' ho'
          simpa only [hki, hne, if_false] using this
    unfold wpA at hw
    split at hw
    · rename_i hwant
      cases hc : acall? a.eval o.op with
      | none =>
        simp only [hc] at hw
        cases hop : aop P a.eval h o.op with
        | none => simp [hop] at hw
        | some p =>
          obtain ⟨v, h'⟩ := p
          simp only [hop] at hw
          exact glue hw (by rw [if_pos hwant]; simp only [hc]; exact hop)
      | some q =>
        cases q with
        | none => simp [hc] at hw
        | some q =>
          obtain ⟨g, args⟩ := q
          simp only [hc] at hw
          obtain ⟨v, h', h1, h2, h3⟩ := hw
          exact glue h3 (by rw [if_pos hwant]; simp only [hc]; exact ⟨h1, h2⟩)
    · rename_i hwant
      exact glue hw (by rw [if_neg hwant]; exact ⟨rfl, rfl⟩)

theorem HR.sub {ι : PMap} {h₁ h₂ : AHeap} {w : World} (hr : HR ι h₁ w) (hs : ∀ id pl, ι id = some pl → h₂.get id = h₁.get id ∨ h₂.get id = .dead) : HR ι h₂ w where
  obj := fun id pl hi => by
    rcases hs id pl hi with e | e
    · rw [e]; exact hr.obj id pl hi
    · rw [e]; trivial
  ex := fun id pl id' pl' h1 h2 hne ho ha => by
    rcases hs id pl h1 with e | e
    · rcases hs id' pl' h2 with e' | e'
      · rw [e] at ho; rw [e'] at ha; exact hr.ex id pl id' pl' h1 h2 hne ho ha
      · rw [e'] at ha; cases ha
    · rw [e] at ho; cases ho
  lt := fun id pl h1 ha => by
    rcases hs id pl h1 with e | e
    · rw [e] at ha; exact hr.lt id pl h1 ha
    · rw [e] at ha; cases ha
  lay := hr.lay.next (fun _ _ _ => rfl) fun k _ ⟨id, pl, h1, h2, h3⟩ => by
    rcases hs id pl h1 with e | e
    · rw [e] at h2; exact ⟨id, pl, h1, h2, h3⟩
    · rw [e] at h2; cases h2

theorem Step.quietTo {ι ι' : PMap} {h h₁ h₂ : AHeap} {w w' : World} (s : Step ι h w ι' h₁ w') (hq : h₁.quiet h₂) (hd : ∀ id pl, ι' id = some pl → id < h₁.next ∨ h₂.next ≤ id) : Step ι h w ι' h₂ w' := by
  have same : ∀ id pl, ι' id = some pl → h₂.get id = h₁.get id := fun id pl hi => by
    rcases hd id pl hi with h1 | h1
    · exact hq.2 id h1
    · rw [AHeap.get_ge _ h1, AHeap.get_ge _ (Nat.le_trans hq.1 h1)]
  exact {
    ext := s.ext
    dom := fun id pl hi => by
      rcases s.dom id pl hi with h1 | h1
      · exact .inl h1
      · exact .inr ⟨h1.1, Nat.lt_of_lt_of_le h1.2 hq.1⟩
    next := Nat.le_trans s.next hq.1
    os := s.os
    tape := s.tape
    output := s.output
    size := s.size
    keep := s.keep
    newb := fun id pl h1 h2 h3 => s.newb id pl h1 h2 (by rw [← same id pl h1]; exact h3)
    old := fun id pl h1 h2 => s.old id pl h1 (by rw [← same id pl (s.ext _ _ h1)]; exact h2)
    dead := fun id pl h1 h2 => by rw [same id pl (s.ext _ _ h1)]; exact s.dead id pl h1 h2
    hr := s.hr.sub fun id pl hi => .inl (same id pl hi) }

/-- A step that was foreseen at an earlier heap, the heap at hand being what the order of the text has later. -/
theorem Step.beside {ι₀ ι ι' : PMap} {h₀ hi hi' hq : AHeap} {w₀ w w' : World} (s₀ : Step ι₀ h₀ w₀ ι hq w) (s : Step ι hi w ι' hi' w') (q1 : hi.quiet hi') (q2 : hi'.quiet hq) (hle : h₀.next ≤ hi.next) :
    Step ι₀ h₀ w₀ ι' hq w' := by
  have hr := s₀.hr
  have qq : ∀ id, id < hi.next → hq.get id = hi.get id := fun id h => (q2.2 id (Nat.lt_of_lt_of_le h q1.1)).trans (q1.2 id h)
  have ownq : ∀ k, Own ι hi k → Own ι hq k := by
    rintro k ⟨id, pl, h1, h2, h3⟩
    have hl : id < hi.next := AHeap.lt_of_alive _ (fun e => by rw [e] at h2; cases h2)
    exact ⟨id, pl, h1, by rw [qq id hl]; exact h2, h3⟩
  -- an object that is older than the step's own, or younger than what it made
  have low : ∀ id, id < hi'.next → hq.get id = hi'.get id := fun id h => q2.2 id h
  have oldOf : ∀ id pl, ι' id = some pl → hi'.next ≤ id → ι id = some pl := by
    intro id pl h1 h2
    rcases s.dom id pl h1 with h3 | h3
    · exact h3
    · omega
  have keepb : ∀ id pl, ι id = some pl → hi'.next ≤ id → (hq.get id).alive = true → w'.heap[pl.b]? = w.heap[pl.b]? := by
    intro id pl h1 h2 h3
    refine s.keep _ (hr.lt id pl h1 h3) ?_
    rintro ⟨id0, pl0, g1, g2, g3⟩
    have hl : id0 < hi.next := AHeap.lt_of_alive _ (fun e => by rw [e] at g2; cases g2)
    have hl' : id0 < hi'.next := Nat.lt_of_lt_of_le hl q1.1
    exact hr.ex id0 pl0 id pl g1 h1 (by omega) (by rw [qq id0 hl]; exact g2) h3 g3
  -- a block of a new object is none of an older one that lies beside
  have apart : ∀ id pl id' pl', ι' id = some pl → ι id = none → (hi'.get id).alive = true → ι id' = some pl' → hi'.next ≤ id' → (hq.get id').alive = true → pl.b ≠ pl'.b := by
    intro id pl id' pl' h1 h2 h3 h4 h5 h6 e
    have hlt := hr.lt id' pl' h4 h6
    rcases s.newb id pl h1 h2 h3 with h7 | ⟨id0, pl0, g1, g2, g3⟩
    · omega
    · have hl : id0 < hi.next := AHeap.lt_of_alive _ (fun e => by rw [e] at g2; cases g2)
      have hl' : id0 < hi'.next := Nat.lt_of_lt_of_le hl q1.1
      exact hr.ex id0 pl0 id' pl' g1 h4 (by omega) (by rw [qq id0 hl]; exact g2) h6 (g3.trans e)
  have hr' : HR ι' hq w' := {
    obj := fun id pl h1 => by
      rcases Nat.lt_or_ge id hi'.next with h2 | h2
      · rw [low id h2]; exact s.hr.obj id pl h1
      · have h3 := oldOf id pl h1 h2
        exact (hr.obj id pl h3).mono s.ext fun ha => keepb id pl h3 h2 ha
    ex := fun id pl id' pl' h1 h2 hne ho ha => by
      rcases Nat.lt_or_ge id hi'.next with h3 | h3
      · rw [low id h3] at ho
        rcases Nat.lt_or_ge id' hi'.next with h4 | h4
        · rw [low id' h4] at ha
          exact s.hr.ex id pl id' pl' h1 h2 hne ho ha
        · have h5 := oldOf id' pl' h2 h4
          cases h6 : ι id with
          | none => exact apart id pl id' pl' h1 h6 (own_alive ho) h5 h4 ha
          | some p =>
            have := s.ext _ _ h6
            rw [h1] at this
            cases this
            exact hr.ex id pl id' pl' h6 h5 hne (by rw [low id h3]; exact ho) ha
      · have h5 := oldOf id pl h1 h3
        rcases Nat.lt_or_ge id' hi'.next with h4 | h4
        · rw [low id' h4] at ha
          cases h6 : ι id' with
          | none => exact Ne.symm (apart id' pl' id pl h2 h6 ha h5 h3 (own_alive ho))
          | some p =>
            have := s.ext _ _ h6
            rw [h2] at this
            cases this
            exact hr.ex id pl id' pl' h5 h6 hne ho (by rw [low id' h4]; exact ha)
        · exact hr.ex id pl id' pl' h5 (oldOf id' pl' h2 h4) hne ho ha
    lt := fun id pl h1 ha => by
      rcases Nat.lt_or_ge id hi'.next with h2 | h2
      · rw [low id h2] at ha; exact s.hr.lt id pl h1 ha
      · exact Nat.lt_of_lt_of_le (hr.lt id pl (oldOf id pl h1 h2) ha) s.size
    lay := hr.lay.next (fun k hk hno => s.keep k hk fun e => hno (ownq k e)) fun k hk ⟨id, pl, h1, h2, h3⟩ => by
      rcases Nat.lt_or_ge id hi'.next with h4 | h4
      · rw [low id h4] at h2; exact ownq k (s.own hk ⟨id, pl, h1, h2, h3⟩)
      · exact ⟨id, pl, oldOf id pl h1 h4, h2, h3⟩ }
  have ownBack : ∀ k, k < w₀.heap.size → Own ι hi k → Own ι₀ h₀ k := fun k hk ho => s₀.own hk (ownq k ho)
  exact {
    ext := fun id pl h => s.ext _ _ (s₀.ext _ _ h)
    dom := fun id pl h => by
      rcases s.dom id pl h with h1 | ⟨h1, h2⟩
      · exact s₀.dom id pl h1
      · exact .inr ⟨by omega, Nat.lt_of_lt_of_le h2 q2.1⟩
    next := s₀.next
    os := s.os.trans s₀.os
    tape := s.tape.trans s₀.tape
    output := s.output.trans s₀.output
    size := Nat.le_trans s₀.size s.size
    keep := fun k hk hno => (s.keep k (Nat.lt_of_lt_of_le hk s₀.size) (fun h => hno (ownBack k hk h))).trans (s₀.keep k hk hno)
    newb := fun id pl h1 h2 h3 => by
      cases h4 : ι id with
      | some p =>
        have := s.ext _ _ h4
        rw [h1] at this
        cases this
        exact s₀.newb id pl h4 h2 h3
      | none =>
        have hlt : id < hi'.next := by
          rcases s.dom id pl h1 with h5 | h5
          · rw [h4] at h5; cases h5
          · exact h5.2
        rw [low id hlt] at h3
        rcases s.newb id pl h1 h4 h3 with h5 | h5
        · left; have := s₀.size; omega
        · rcases Nat.lt_or_ge pl.b w₀.heap.size with h6 | h6
          · exact .inr (ownBack _ h6 h5)
          · exact .inl h6
    old := s₀.old
    dead := s₀.dead
    hr := hr' }

end
end Go.AM
