/- AM: frames; calls; the regions that are done in the order of the text. -/
import Derived.Test.YtfdbadpiklmbaaaAmOpsE
import Derived.Test.YtfdbadpiklmbaaaAmKinds
import Derived.Tactics
set_option linter.unusedSimpArgs false
set_option linter.unusedVariables false
set_option linter.unnecessarySimpa false
set_option maxRecDepth 100000
namespace Go.AM
section
variable {P : Program}

structure ER (ι : PMap) (a a' : Act) : Prop where
  tmps : VRA ι a.tmps a'.tmps
  d : a.defers = []
  d' : a'.defers = []

theorem ER.mono {ι ι' : PMap} (hm : ι.le ι') {a a' : Act} (h : ER ι a a') : ER ι' a a' := ⟨h.tmps.mono hm, h.d, h.d'⟩

theorem ER.slot {ι : PMap} {a a' : Act} (h : ER ι a a') (t : Nat) : VR ι (a.tmps.getD t undef) (a'.tmps.getD t undef) := by
  rcases Nat.lt_or_ge t a.tmps.size with hl | hl
  · have hl' : t < a'.tmps.size := by rw [← h.tmps.1]; exact hl
    simp only [Array.getD, hl, hl', dif_pos]
    exact h.tmps.2 t hl hl'
  · have hl' : ¬ t < a'.tmps.size := by rw [← h.tmps.1]; omega
    simp only [Array.getD, Nat.not_lt.2 hl, hl', dif_neg, not_false_eq_true]
    exact .undef

theorem eval_rel {ι : PMap} {a a' : Act} (h : ∀ t, VR ι (a.tmps.getD t undef) (a'.tmps.getD t undef)) {x : Operand} (hx : okOpd x = true) : VR ι (a.eval x) (a'.eval x) := by
  cases x with
  | tmp t => exact h t
  | const v => exact VR.refl_plain ι 3 v hx
  | func f => exact .func _ _ _ _ _ rfl rfl (fun i h1 => absurd h1 (by simp)) (fun i h1 => absurd h1 (by simp))
  | global g => cases hx

theorem ER.eval {ι : PMap} {a a' : Act} (h : ER ι a a') {x : Operand} (hx : okOpd x = true) : VR ι (a.eval x) (a'.eval x) := eval_rel h.slot hx

theorem ER.put {ι : PMap} {a a' : Act} (h : ER ι a a') {v v' : Value} (hv : VR ι v v') (d : Option Tmp) : ER ι (a.put d v) (a'.put d v') := by
  cases d with
  | none => exact h
  | some t =>
    refine ⟨?_, h.d, h.d'⟩
    show VRA ι (a.tmps.setIfInBounds t v) (a'.tmps.setIfInBounds t v')
    rw [VRA_iff, Array.toList_setIfInBounds, Array.toList_setIfInBounds]
    exact (VRA_iff.1 h.tmps).set hv t

theorem yielded_rel {ι : PMap} {a a' : Act} (hs : a.tmps.size = a'.tmps.size) (h : ∀ t, VR ι (a.tmps.getD t undef) (a'.tmps.getD t undef)) (ops : Array Oper) (j : Nat) : yielded ops a'.tmps j = yielded ops a.tmps j := by
  unfold yielded
  cases (ops[j]?).bind (·.dst) with
  | none => rfl
  | some t =>
    simp only [Option.bind_some]
    rcases Nat.lt_or_ge t a.tmps.size with hl | hl
    · have hl' : t < a'.tmps.size := by rw [← hs]; exact hl
      have := h t
      obtain ⟨u, hu⟩ : ∃ u, a.tmps[t]? = some u := ⟨_, Array.getElem?_eq_getElem hl⟩
      obtain ⟨u', hu'⟩ : ∃ u, a'.tmps[t]? = some u := ⟨_, Array.getElem?_eq_getElem hl'⟩
      rw [Array.getD_eq_getD_getElem?, Array.getD_eq_getD_getElem?, hu, hu', Option.getD_some, Option.getD_some] at this
      rw [hu, hu']
      cases this <;> rfl
    · rw [Array.getElem?_eq_none hl, Array.getElem?_eq_none (by rw [← hs]; exact hl)]

theorem wanted_rel {ι : PMap} {a a' : Act} (hs : a.tmps.size = a'.tmps.size) (h : ∀ t, VR ι (a.tmps.getD t undef) (a'.tmps.getD t undef)) (ops : Array Oper) (o : Oper) :
    Region.wanted o (yielded ops a'.tmps) = Region.wanted o (yielded ops a.tmps) := by
  unfold Region.wanted
  cases o.guard with
  | none => rfl
  | some g => simp only [yielded_rel hs h]

/-- A Go function that a call enters. -/
def enters (P : Program) (g : FuncId) : Prop := ∃ fn, P.funcs[g]? = some fn ∧ (fn.name == "runtime.NumGoroutine") = false ∧ fn.body.isNone = false ∧ g < 18446744073709551616

/-- What calls are said to come to, they come to. -/
def SimC (P : Program) (C : CallRel) : Prop := ∀ g args h v h', C g args h v h' → enters P g ∧ h.next ≤ h'.next ∧ ∀ ι w args', HR ι h w → VRA ι args args' → (∀ id, h.next ≤ id → id < h'.next → ι id = none) →
  Calls P g args' w fun e w' => ∃ ι' v', e = .returned v' ∧ Step ι h w ι' h' w' ∧ VR ι' v v'

theorem run_call {ρ' : Operand → Value} {o : Oper} {c : Call} {f : Operand} (ho : o.op = .call c) (hc : c.callee = .value f) {g : FuncId} {fi cp : Array Value} (hf : ρ' f = .func (.func g) fi cp) (he : enters P g) (w : World) :
    (execOp ρ' o).run P w = .ok (.enter g (fi ++ c.args.map ρ' ++ cp)) w := by
  obtain ⟨fn, h1, h2, h3, _⟩ := he
  obtain ⟨dst, op, ty, pos, after, guard⟩ := o
  simp only at ho
  subst ho
  simp only [execOp, resolve, hc, hf, Deferred.ofValue, Sem.run_bind, Sem.run_pure, Result.andThen_ok, invoke, callFunc, run_program, h1, h2, h3, Bool.false_eq_true, if_false]

/-- What an abstract call resolves to, the model's does. -/
theorem acall_inv {ρ ρ' : Operand → Value} {ι : PMap} {o : Oper} {g : FuncId} {args : Array Value} (h : acall? ρ o.op = some (some (g, args))) (hρ : ∀ x ∈ o.op.operands, VR ι (ρ x) (ρ' x)) (he : enters P g) :
    ∃ args', VRA ι args args' ∧ ∀ w, (execOp ρ' o).run P w = .ok (.enter g args') w := by
  unfold acall? at h
  split at h
  · rename_i c hop
    split at h
    · rename_i f hcal
      split at h
      · rename_i g' fi cp hfn
        split at h
        case isFalse => cases h
        simp only [Option.some.injEq, Prod.mk.injEq] at h
        obtain ⟨rfl, rfl⟩ := h
        have hops : ∀ x, (x = f ∨ x ∈ c.args) → VR ι (ρ x) (ρ' x) := fun x hx => hρ x (by
          rw [hop]; simp only [Op.operands, Call.operands, hcal]
          rcases hx with rfl | hx <;> simp [*])
        have hf := hops f (.inl rfl)
        rw [hfn] at hf
        obtain ⟨fi', cp', e, h1, h2⟩ := hf.func_inv
        exact ⟨fi' ++ c.args.map ρ' ++ cp', (h1.append (.map fun x hx => hops x (.inr hx))).append h2, fun w => run_call hop hcal e he w⟩
      · simp only [Option.some.injEq, Prod.mk.injEq] at h
        obtain ⟨_, _, _, _, hlt⟩ := he
        rw [← h.1] at hlt; exact (yid_lt hlt).elim
      · cases h
    · cases h
    · cases h
  · cases h

/-- .. what a call of a loop's body resolves to. -/
theorem acall_yinv {ρ ρ' : Operand → Value} {ι : PMap} {o : Oper} {l : Nat} {args : Array Value} (h : acall? ρ o.op = some (some (yid l, args))) (hρ : ∀ x ∈ o.op.operands, VR ι (ρ x) (ρ' x)) :
    ∃ args', VRA ι args args' ∧ ∀ w, (execOp ρ' o).run P w = (Instr.yield l args').run P w := by
  unfold acall? at h
  split at h
  · rename_i c hop
    split at h
    · rename_i f hcal
      split at h
      · split at h
        · rename_i hlt
          simp only [Option.some.injEq, Prod.mk.injEq] at h
          rw [h.1] at hlt; exact (yid_lt hlt).elim
        · cases h
      · rename_i l' fi cp hfn
        simp only [Option.some.injEq, Prod.mk.injEq] at h
        obtain ⟨hl, rfl⟩ := h
        have : l' = l := yid_inj hl
        subst this
        have hops : ∀ x, (x = f ∨ x ∈ c.args) → VR ι (ρ x) (ρ' x) := fun x hx => hρ x (by
          rw [hop]; simp only [Op.operands, Call.operands, hcal]
          rcases hx with rfl | hx <;> simp [*])
        have hf := hops f (.inl rfl)
        rw [hfn] at hf
        obtain ⟨fi', cp', e, h1, h2⟩ := hf.func_inv
        refine ⟨fi' ++ c.args.map ρ', h1.append (.map fun x hx => hops x (.inr hx)), fun w => ?_⟩
        obtain ⟨dst, op, ty, pos, after, guard⟩ := o
        simp only at hop
        subst hop
        simp only [execOp, resolve, hcal, e, Deferred.ofValue, Sem.run_bind, Sem.run_pure, Result.andThen_ok, invoke]
      · cases h
    · cases h
    · cases h
  · cases h

theorem okOps_mem {ops : Array Oper} (h : okOps ops = true) {i : Nat} {o : Oper} (ho : ops[i]? = some o) : ∀ x ∈ o.op.operands, okOpd x = true := by
  intro x hx
  have h1 := List.all_eq_true.1 h o (by simp; exact Array.mem_of_getElem? ho)
  exact List.all_eq_true.1 h1 x (by simpa using hx)

/-- One operation, or a call: what is abstractly foreseen comes. -/
theorem sim_one {C : CallRel} (hC : SimC P C) {ι : PMap} {h h' : AHeap} {w : World} {ρ : Operand → Value} {b : Act} {o : Oper} {v : Value} (hr : HR ι h w) (hρ : ∀ x ∈ o.op.operands, VR ι (ρ x) (b.eval x))
    (hf : ∀ id, h.next ≤ id → id < h'.next → ι id = none)
    (hs : match acall? ρ o.op with | some (some (g, args)) => C g args h v h' | some none => False | none => aop P ρ h o.op = some (v, h'))
    {K : Act → World → Prop} {Q : Exit → Act → World → Prop} (hK : ∀ ι' w' v', Step ι h w ι' h' w' → VR ι' v v' → K (b.put o.dst v') w') : o.wp P b w K Q := by
  unfold Oper.wp
  cases hc : acall? ρ o.op with
  | none =>
    simp only [hc] at hs
    obtain ⟨ι', w', v', h1, h2, h3⟩ := sim_op hr hs hρ hf
    rcases h1 with h1 | ⟨h1, rfl⟩
    · rw [h1]; exact hK ι' w' v' h2 h3
    · rw [h1]; exact hK ι' w' undef h2 h3
  | some q =>
    cases q with
    | none => simp [hc] at hs
    | some q =>
      obtain ⟨g, args⟩ := q
      simp only [hc] at hs
      obtain ⟨he, _, hcalls⟩ := hC g args h v h' hs
      obtain ⟨args', h1, h2⟩ := acall_inv hc hρ he
      rw [h2]
      refine (hcalls ι w args' hr h1 hf).mono ?_
      rintro e w' ⟨ι', v', rfl, h3, h4⟩
      exact hK ι' w' v' h3 h4

/-- No place is given that is yet to be made, up to number N. -/
def Bd (N : Nat) (ι : PMap) (h : AHeap) : Prop := ∀ id, h.next ≤ id → id < N → ι id = none

theorem Bd.step {N : Nat} {ι ι' : PMap} {h h' : AHeap} {w w' : World} (hb : Bd N ι h) (s : Step ι h w ι' h' w') : Bd N ι' h' := by
  intro id hid hN
  cases hi : ι' id with
  | none => rfl
  | some pl =>
    rcases s.dom id pl hi with h1 | h1
    · rw [hb id (Nat.le_trans s.next hid) hN] at h1; cases h1
    · omega

def NextC (C : CallRel) : Prop := ∀ g args (h : AHeap) v (h' : AHeap), C g args h v h' → h.next ≤ h'.next
theorem SimC.nx {C : CallRel} (hC : SimC P C) : NextC C := fun g args h v h' hc => (hC g args h v h' hc).2.1
theorem wpA_next {C : CallRel} (hC : NextC C) {ops : Array Oper} {chk : Nat → Bool} {K : Act → AHeap → Prop} {N : Nat} (hK : ∀ a h, K a h → h.next ≤ N) : ∀ (l : List Oper) (i : Nat) (a : Act) (h : AHeap), wpA P C ops chk K i l a h → h.next ≤ N
  | [], _, a, h, hw => hK a h hw
  | o :: rest, i, a, h, hw => by
    unfold wpA at hw
    split at hw
    · cases hc : acall? a.eval o.op with
      | none =>
        simp only [hc] at hw
        cases hop : aop P a.eval h o.op with
        | none => simp [hop] at hw
        | some p =>
          obtain ⟨v, h'⟩ := p
          simp only [hop] at hw
          exact Nat.le_trans (aop_next hop) (wpA_next hC hK rest _ _ _ hw)
      | some q =>
        cases q with
        | none => simp [hc] at hw
        | some q =>
          obtain ⟨g, args⟩ := q
          simp only [hc] at hw
          obtain ⟨v, h', h1, _, h3⟩ := hw
          exact Nat.le_trans (hC _ _ _ _ _ h1) (wpA_next hC hK rest _ _ _ h3)
    · exact wpA_next hC hK rest _ _ _ hw

/-- A region that is done in the order of the text. -/
theorem sim_list {C : CallRel} (hC : SimC P C) {ops : Array Oper} {chk : Nat → Bool} {K : Act → AHeap → Prop} {N : Nat} (hKN : ∀ a h, K a h → h.next ≤ N) {Q : Exit → Act → World → Prop} : ∀ (l : List Oper) (i : Nat) (a : Act) (h : AHeap) (ι : PMap) (w : World) (a' : Act),
    wpA P C ops chk K i l a h → (l.all fun o => o.op.operands.toList.all okOpd) = true → HR ι h w → Bd N ι h → ER ι a a' →
    (∀ ι' h' w' a₁ a₁', Step ι h w ι' h' w' → Bd N ι' h' → ER ι' a₁ a₁' → K a₁ h' → Q .normal a₁' w') → wpList P ops Q l a' w
  | [], i, a, h, ι, w, a', hw, _, hr, hb, he, hK => hK ι h w a a' (.refl hr) hb he hw
  | o :: rest, i, a, h, ι, w, a', hw, hok, hr, hb, he, hK => by
    simp only [List.all_cons, Bool.and_eq_true] at hok
    unfold wpA at hw
    unfold wpList
    rw [wanted_rel he.tmps.1 he.slot]
    split
    · rename_i hwant
      rw [if_pos hwant] at hw
      left
      have hρ : ∀ x ∈ o.op.operands, VR ι (a.eval x) (a'.eval x) := fun x hx => he.eval (List.all_eq_true.1 hok.1 x (by simpa using hx))
      have next : ∀ {v : Value} {h' : AHeap}, wpA P C ops chk K (i + 1) rest (a.put o.dst v) h' → ∀ ι' w' v', Step ι h w ι' h' w' → VR ι' v v' → wpList P ops Q rest (a'.put o.dst v') w' := by
        intro v h' h1 ι' w' v' hs hv
        refine sim_list hC hKN rest (i + 1) _ h' ι' w' _ h1 hok.2 hs.hr (hb.step hs) ((he.mono hs.ext).put hv o.dst) ?_
        intro ι'' h'' w'' a₁ a₁' hs' hb' he' hk
        exact hK ι'' h'' w'' a₁ a₁' (hs.trans hs') hb' he' hk
      cases hc : acall? a.eval o.op with
      | none =>
        simp only [hc] at hw
        cases hop : aop P a.eval h o.op with
        | none => simp [hop] at hw
        | some p =>
          obtain ⟨v, h'⟩ := p
          simp only [hop] at hw
          have hn := wpA_next hC.nx hKN rest _ _ _ hw
          exact sim_one hC hr hρ (fun id h1 h2 => hb id h1 (by omega)) (by simp only [hc]; exact hop) (next hw)
      | some q =>
        cases q with
        | none => simp [hc] at hw
        | some q =>
          obtain ⟨g, args⟩ := q
          simp only [hc] at hw
          obtain ⟨v, h', h1, _, h3⟩ := hw
          have hn := wpA_next hC.nx hKN rest _ _ _ h3
          exact sim_one hC hr hρ (fun id g1 g2 => hb id g1 (by omega)) (by simp only [hc]; exact h1) (next h3)
    · rename_i hwant
      rw [if_neg hwant] at hw
      exact sim_list hC hKN rest (i + 1) _ h ι w _ hw hok.2 hr hb (he.put .undef o.dst) hK

end
end Go.AM
