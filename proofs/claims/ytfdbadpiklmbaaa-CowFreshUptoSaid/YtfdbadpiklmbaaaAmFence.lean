/- AM: what is walked in a round of a range over a function, and behind such a loop, where a mark stands among the deferred calls. -/
import Derived.Test.YtfdbadpiklmbaaaAmRegE
import Derived.RangeFuncNested
import Derived.LoopNIn
import Derived.OrdersIn
import Derived.TacticsIn
set_option linter.unusedSimpArgs false
set_option linter.unusedVariables false
set_option linter.unnecessarySimpa false
set_option maxRecDepth 100000
namespace Go.AM
section
variable {P : Program}

/-- The fence that lets all in; a round's frame, or a plain one. -/
abbrev FR (r : Option Nat) : Fence := { Fence.wide with round := r }
def dfr (D : List Deferred) (a : Act) : Act := { a with defers := a.defers ++ D }
theorem dfr_put (D : List Deferred) (a : Act) (d : Option Tmp) (v : Value) : (dfr D a).put d v = dfr D (a.put d v) := by cases d <;> rfl

theorem calls_fr {r : Option Nat} {n : Nat} {f : FuncId} {args : Array Value} {w : World} {R : Ending → World → Prop} (h : Calls P f args w R) : CallsIn (FR r) n P f args w R :=
  (callsIn_wide (n := n)).2 h
theorem rows_fr {r : Option Nat} {n : Nat} {row : String} {args : Array Value} {w : World} {R : Value → World → Prop} (h : Rows P row args w R) : RowsIn (FR r) n P row args w R :=
  fun c cs _ => let ⟨v, w', h1, h2⟩ := h c cs; ⟨v, w', h1, (stepsIn_wide (P := P)).2 h2⟩

section
variable {r : Option Nat} {n : Nat} {D : List Deferred} {Q Q' : Exit → Act → World → Prop} {K K' : Act → World → Prop} {a : Act} {w : World} {ops : Array Oper}
theorem semAt_fr {o : Oper} (hnd : notDefer o = true) : o.semAt (FR r).round (dfr D a).eval = execOp a.eval o := by
  cases r with
  | none => exact Oper.semAt_none _ _
  | some l => exact Oper.semAt_some _ _ _ (fun c e => by rw [notDefer, e] at hnd; cases hnd)
theorem oper_fr {o : Oper} (hnd : notDefer o = true) (hK : ∀ a w, K a w → K' (dfr D a) w) (hQ : ∀ e a w, Q e a w → Q' e (dfr D a) w) (h : o.wp P a w K Q) : o.wpIn (FR r) n P (dfr D a) w K' Q' := by
  have hl : LetsOut Q → LetsOut Q' := fun ⟨a, w, q⟩ => ⟨_, _, hQ _ _ _ q⟩
  refine ⟨fun _ _ => trivial, ?_⟩
  rw [semAt_fr hnd]
  unfold Oper.wp at h
  revert h
  generalize (execOp a.eval o).run P w = res
  intro h
  cases res with
  | ok nx w' =>
    cases nx with
    | value v => show K' _ _; rw [dfr_put]; exact hK _ _ h
    | skip => show K' _ _; rw [dfr_put]; exact hK _ _ h
    | defer d => show K' _ _; have := hK _ _ h; rw [← dfr_put] at this; exact this
    | enter f args =>
      refine ⟨fun e => (by cases e), ?_⟩
      refine (calls_fr h).mono fun e w' he => ?_
      cases e with
      | returned v => show K' _ _; rw [dfr_put]; exact hK _ _ he
      | panicked c => exact hQ _ _ _ he
      | outgrown => exact hl he
    | row row args =>
      refine ⟨fun e => (by cases e), ?_⟩
      refine (rows_fr h).mono fun v w' he => ?_
      show K' _ _; rw [dfr_put]; exact hK _ _ he
    | _ => exact h.elim
  | halt s w' =>
    cases s with
    | panic v => exact hQ _ _ _ h
    | _ => exact h.elim
theorem list_fr (hlo : ¬ LetsOut Q) (hQ : ∀ e a w, Q e a w → Q' e (dfr D a) w) : ∀ (l : List Oper) (a : Act) (w : World), l.all notDefer = true → wpList P ops Q l a w → wpListIn (FR r) n P ops Q' l (dfr D a) w
  | [], a, w, _, h => hQ _ _ _ h
  | o :: rest, a, w, hnd, h => by
    simp only [List.all_cons, Bool.and_eq_true] at hnd
    unfold wpList at h
    unfold wpListIn
    show if Region.wanted o (yielded ops a.tmps) then _ else _
    split
    · rename_i hw
      rw [if_pos hw] at h
      rcases h with h | ⟨_, h⟩
      · exact oper_fr hnd.1 (fun a w hk => list_fr hlo hQ rest a w hnd.2 hk) hQ h
      · exact absurd h hlo
    · rename_i hw
      rw [if_neg hw] at h
      refine ⟨fun _ _ => trivial, ?_⟩
      rw [dfr_put]
      exact list_fr hlo hQ rest _ w hnd.2 h
theorem any_fr (hlo : ¬ LetsOut Q) (hQ : ∀ e a w, Q e a w → Q' e (dfr D a) w) (hnd : ops.toList.all notDefer = true) : ∀ (fuel : Nat) (listed : Array Bool) (a : Act) (w : World), wpAny P .any ops Q fuel listed a w → wpAnyIn (FR r) n P .any ops Q' fuel listed (dfr D a) w
  | 0, listed, a, w, h => ⟨h.1, hQ _ _ _ h.2⟩
  | fuel + 1, listed, a, w, h => by
    refine ⟨fun e => hQ _ _ _ (h.1 e), fun i hi => ?_⟩
    have h2 := h.2 i hi
    unfold wpOp at h2
    unfold wpOpIn
    cases ho : ops[i]? with
    | none => simp only [ho] at h2 ⊢; exact any_fr hlo hQ hnd fuel _ a w h2
    | some o =>
      have hno : notDefer o = true := List.all_eq_true.1 hnd o (by simp; exact Array.mem_of_getElem? ho)
      simp only [ho] at h2 ⊢
      show if Region.wanted o (yielded ops a.tmps) then _ else _
      split
      · rename_i hw
        rw [if_pos hw] at h2
        rcases h2 with h2 | ⟨_, h2⟩
        · exact oper_fr hno (fun a w hk => any_fr hlo hQ hnd fuel _ a w hk) hQ h2
        · exact absurd h2 hlo
      · rename_i hw
        rw [if_neg hw] at h2
        refine ⟨fun _ _ => trivial, ?_⟩
        rw [dfr_put]
        exact any_fr hlo hQ hnd fuel _ _ w h2
end

section
variable {ι ι' ι₁ ι₂ : PMap} {h h' h₁ h₂ : AHeap} {w w' w₁ w₃ : World} {k l B : Nat} {o o' : Obj}
/-- A block that is no object's. -/
structure Aside (ι : PMap) (h : AHeap) (w : World) (k : Nat) (o : Obj) : Prop where
  here : w.heap[k]? = some o
  no : ∀ id pl, ι id = some pl → (h.get id).alive = true → pl.b ≠ k
theorem Aside.lt (a : Aside ι h w k o) : k < w.heap.size := (Array.getElem?_eq_some_iff.1 a.here).1
theorem Aside.noOwn (a : Aside ι h w k o) : ¬ Own ι h k := fun ⟨id, pl, h1, h2, h3⟩ => a.no id pl h1 (own_alive h2) h3
theorem Aside.step (a : Aside ι h w k o) (s : Step ι h w ι' h' w') : Aside ι' h' w' k o := by
  refine ⟨(s.keep k a.lt a.noOwn).trans a.here, fun id pl h1 h2 e => ?_⟩
  cases hi : ι id with
  | none =>
    rcases s.newb id pl h1 hi h2 with g | g
    · have := a.lt; omega
    · exact a.noOwn (e ▸ g)
  | some pl' =>
    have h3 := s.ext _ _ hi
    rw [h1] at h3; cases h3
    by_cases ha : (h.get id).alive = true
    · exact a.no id pl hi ha e
    · have hd : h.get id = .dead := by cases hg : h.get id <;> simp_all [AObj.alive]
      rw [s.dead id pl hi hd] at h2; cases h2
theorem _root_.Go.AM.HR.putObj (hr : HR ι h w) (no : ∀ id pl, ι id = some pl → (h.get id).alive = true → pl.b ≠ k) (hl : ∀ p ∈ lays, p.1 ≠ k) (o : Obj) : HR ι h (w.putObj k o) where
  obj := fun id pl h1 => (hr.obj id pl h1).mono (fun _ _ e => e) fun ha => World.putObj_heap_other (no id pl h1 ha)
  ex := hr.ex
  lt := fun id pl h1 ha => by rw [World.putObj_size]; exact hr.lt id pl h1 ha
  lay := fun p hp => ⟨by rw [cell?_same (World.putObj_heap_other (hl p hp))]; exact (hr.lay p hp).1, (hr.lay p hp).2⟩
theorem heap_allocX (w : World) (o : Obj) {k : Nat} (hk : k < w.heap.size) : (w.alloc o).heap[k]? = w.heap[k]? := by
  show (w.heap.push o)[k]? = _
  rw [Array.getElem?_push]; split
  · omega
  · rfl
theorem _root_.Go.AM.HR.aside (hr : HR ι h w) (o : Obj) : HR ι h (w.alloc o) where
  obj := fun id pl h1 => (hr.obj id pl h1).mono (fun _ _ e => e) fun ha => heap_allocX w o (hr.lt id pl h1 ha)
  ex := hr.ex
  lt := fun id pl h1 ha => by have := hr.lt id pl h1 ha; simp; omega
  lay := hr.lay.same fun k hk _ => heap_allocX w o hk
theorem Step.aside (s : Step ι h w ι' h' w') (o : Obj) : Step ι h w ι' h' (w'.alloc o) where
  ext := s.ext
  dom := s.dom
  next := s.next
  os := s.os
  tape := s.tape
  output := s.output
  size := by have := s.size; simp; omega
  keep := fun k hk hno => (heap_allocX w' o (Nat.lt_of_lt_of_le hk s.size)).trans (s.keep k hk hno)
  newb := s.newb
  old := s.old
  dead := s.dead
  hr := s.hr.aside o
/-- A block that is no object's, laid since, turns. -/
theorem Step.putObj (s : Step ι h w ι' h' w') (hB : w.heap.size ≤ k) (no : ∀ id pl, ι' id = some pl → (h'.get id).alive = true → pl.b ≠ k) (hl : ∀ p ∈ lays, p.1 ≠ k) (o : Obj) : Step ι h w ι' h' (w'.putObj k o) where
  ext := s.ext
  dom := s.dom
  next := s.next
  os := s.os
  tape := s.tape
  output := s.output
  size := by rw [World.putObj_size]; exact s.size
  keep := fun j hj hno => (World.putObj_heap_other (by omega)).trans (s.keep j hj hno)
  newb := s.newb
  old := s.old
  dead := s.dead
  hr := s.hr.putObj no hl o
/-- A block that is no object's turns, and turns back. -/
theorem Step.between (t : Step ι₁ h₁ (w₁.putObj l o') ι₂ h₂ w₃) (a : Aside ι₁ h₁ w₁ l o) (hl : ∀ p ∈ lays, p.1 ≠ l) : Step ι₁ h₁ w₁ ι₂ h₂ (w₃.putObj l o) := by
  have hs : (w₁.putObj l o').heap.size = w₁.heap.size := World.putObj_size
  have a' : Aside ι₁ h₁ (w₁.putObj l o') l o' := ⟨World.putObj_heap_same a.lt, a.no⟩
  have a3 := a'.step t
  exact {
    ext := t.ext
    dom := t.dom
    next := t.next
    os := t.os
    tape := t.tape
    output := t.output
    size := by have := t.size; rw [hs] at this; rw [World.putObj_size]; exact this
    keep := fun k hk hno => by
      by_cases e : k = l
      · subst e; exact (World.putObj_heap_same a3.lt).trans a.here.symm
      · exact (World.putObj_heap_other e).trans ((t.keep k (by rw [hs]; exact hk) hno).trans (World.putObj_heap_other e))
    newb := fun id pl h1 h2 h3 => by have := t.newb id pl h1 h2 h3; rw [hs] at this; exact this
    old := t.old
    dead := t.dead
    hr := t.hr.putObj a3.no hl o }

/-- The mark of a loop. -/
def mark (b : Nat) : Deferred := { target := .collected b, args := #[] }
/-- The marks of an activation. -/
def Marks (B : Nat) (ι : PMap) (h : AHeap) (w : World) (Ds : List Deferred) : Prop :=
  ∃ bs : List Nat, Ds = bs.map mark ∧ bs.Nodup ∧ ∀ b ∈ bs, B ≤ b ∧ Aside ι h w b (.deferred (some []))
theorem Marks.nil : Marks B ι h w [] := ⟨[], rfl, .nil, fun _ e => by cases e⟩
theorem Marks.step {Ds : List Deferred} (m : Marks B ι h w Ds) (s : Step ι h w ι' h' w') : Marks B ι' h' w' Ds := by
  obtain ⟨bs, e, hn, ha⟩ := m
  exact ⟨bs, e, hn, fun b hb => ⟨(ha b hb).1, (ha b hb).2.step s⟩⟩
/-- The way out past the marks. -/
theorem leaves_marks {F : Fence} {n : Nat} {fn : Func} {tmps : Array Value} {R : Ending → World → Prop} {w0 : World} {ι0 : PMap} {h0 : AHeap}
    (hR : ∀ w', Step ι0 h0 w0 ι' h' w' → ∃ v, (results fn tmps).run P w' = .ok v w' ∧ R (.returned v) w') : ∀ (bs : List Nat) (w : World), bs.Nodup → (∀ b ∈ bs, w0.heap.size ≤ b ∧ Aside ι' h' w b (.deferred (some []))) → Step ι0 h0 w0 ι' h' w → LeavesInM F n P fn tmps R (bs.map mark) .returning w
  | [], w, _, _, s => hR w s
  | b :: bs, w, hn, ha, s => by
    have hb := ha b (List.mem_cons_self ..)
    rw [List.nodup_cons] at hn
    refine ⟨by simp, .inl ⟨b, _, rfl, run_takeDeferred hb.2.here, ?_⟩⟩
    refine leaves_marks hR bs _ hn.2 (fun b' hb' => ?_) (s.putObj hb.1 hb.2.no (s.hr.notLaid hb.2.here fun _ _ _ e => by cases e) _)
    have h2 := ha b' (List.mem_cons_of_mem _ hb')
    exact ⟨h2.1, (World.putObj_heap_other (by rintro rfl; exact hn.1 hb')).trans h2.2.here, h2.2.no⟩
end

/-- WHAT A RANGE OVER A FUNCTION COMES TO: from this frame and this heap, this heap. -/
def Rng (P : Program) (a : Act) (g : Operand) (ps : Array Tmp) (as bd : Code) (h h2 : AHeap) : Prop := h.next ≤ h2.next ∧ ∀ ι w a' n Ds, HR ι h w → (∀ id, h.next ≤ id → id < h2.next → ι id = none) → ER ι a a' →
  (Code.rangeFunc g ps as bd).wpIn (FR none) n P (fun e a1 W => e = .normal ∧ ∃ ι', a1 = dfr (mark w.heap.size :: Ds) a' ∧ Step ι h w ι' h2 W ∧ Aside ι' h2 W w.heap.size (.deferred (some []))) (dfr Ds a') w

end
end Go.AM
