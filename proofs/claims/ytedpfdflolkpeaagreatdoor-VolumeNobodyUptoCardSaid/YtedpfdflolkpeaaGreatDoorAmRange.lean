/- AM: a range over a function: the iterator's calls of the loop's body, the rounds, the loop. -/
import Derived.Test.YtedpfdflolkpeaaGreatDoorAmWalk
set_option linter.unusedSimpArgs false
set_option linter.unusedVariables false
set_option linter.unnecessarySimpa false
set_option maxRecDepth 100000
namespace Go.AM
section
variable {P : Program}

/-- What calls of a loop's body are said to come to, they come to. -/
def SimY (P : Program) (Y : CallRel) (Inv : PMap → AHeap → World → Prop) : Prop := ∀ g args h v h', Y g args h v h' → h.next ≤ h'.next ∧ ∃ l, g = yid l ∧ ∀ ι w args' m, HR ι h w → Inv ι h w → VRA ι args args' → (∀ id, h.next ≤ id → id < h'.next → ι id = none) →
  YieldAt (FR none) m P l args' w fun e w' => ∃ ι' v', e = .returned v' ∧ Step ι h w ι' h' w' ∧ VR ι' v v'

theorem next_ry {Y : CallRel} {Inv : PMap → AHeap → World → Prop} (hY : SimY P Y Inv) : NextC (RY P Y) := fun _ _ _ _ _ hc => hc.elim (fun h => h.2.1) (fun h => (hY _ _ _ _ _ h).1)

theorem oper_yield {Y : CallRel} {Inv : PMap → AHeap → World → Prop} (hY : SimY P Y Inv) {ι : PMap} {h h' : AHeap} {w : World} {ρ : Operand → Value} {b : Act} {o : Oper} {g : FuncId} {args : Array Value} {v : Value} (hr : HR ι h w) (hi : Inv ι h w) (hρ : ∀ x ∈ o.op.operands, VR ι (ρ x) (b.eval x))
    (hf : ∀ id, h.next ≤ id → id < h'.next → ι id = none) (hc : acall? ρ o.op = some (some (g, args))) (hy : Y g args h v h') {n : Nat}
    {K : Act → World → Prop} {Q : Exit → Act → World → Prop} (hK : ∀ ι' w' v', Step ι h w ι' h' w' → VR ι' v v' → K (b.put o.dst v') w') : o.wpIn (FR none) n P b w K Q := by
  obtain ⟨_, l, rfl, hs⟩ := hY _ _ _ _ _ hy
  obtain ⟨args', h1, h2⟩ := acall_yinv (P := P) hc hρ
  obtain ⟨fn, tmps, as, bd, hrun, hround⟩ := hs ι w args' (n - 1) hr hi h1 hf
  refine ⟨fun _ _ => trivial, ?_⟩
  have e : o.semAt (FR none).round b.eval = execOp b.eval o := Oper.semAt_none _ _
  rw [e, h2, hrun, Oper.uponIn_round]
  refine ⟨fun e => (by cases e), hround.mono ?_⟩
  rintro e w' ⟨ι', v', rfl, h3, h4⟩
  exact hK ι' w' v' h3 h4

theorem sim_listY {Y : CallRel} {Inv : PMap → AHeap → World → Prop} (hY : SimY P Y Inv) (hInv : ∀ {ι h w ι' h' w'}, Step ι h w ι' h' w' → Inv ι h w → Inv ι' h' w') {ops : Array Oper} {chk : Nat → Bool} {K : Act → AHeap → Prop} {N n : Nat} {Ds : List Deferred} (hKN : ∀ a h, K a h → h.next ≤ N) {Q : Exit → Act → World → Prop} :
    ∀ (l : List Oper) (i : Nat) (a : Act) (h : AHeap) (ι : PMap) (w : World) (a' : Act), wpA P (RY P Y) ops chk K i l a h → l.all notDefer = true → (l.all fun o => o.op.operands.toList.all okOpd) = true → HR ι h w → Inv ι h w → Bd N ι h → ER ι a a' →
    (∀ ι' h' w' a₁ a₁', Step ι h w ι' h' w' → Bd N ι' h' → ER ι' a₁ a₁' → K a₁ h' → Q .normal (dfr Ds a₁') w') → wpListIn (FR none) n P ops Q l (dfr Ds a') w
  | [], i, a, h, ι, w, a', hw, _, _, hr, hi, hb, he, hK => hK ι h w a a' (.refl hr) hb he hw
  | o :: rest, i, a, h, ι, w, a', hw, hnd, hok, hr, hi, hb, he, hK => by
    simp only [List.all_cons, Bool.and_eq_true] at hok hnd
    have hev : ∀ x, (dfr Ds a').eval x = a'.eval x := fun x => by cases x <;> rfl
    unfold wpA at hw
    unfold wpListIn
    show if Region.wanted o (yielded ops a'.tmps) then _ else _
    rw [wanted_rel he.tmps.1 he.slot]
    split
    · rename_i hwant
      rw [if_pos hwant] at hw
      have hρ : ∀ x ∈ o.op.operands, VR ι (a.eval x) (a'.eval x) := fun x hx => he.eval (List.all_eq_true.1 hok.1 x (by simpa using hx))
      have next : ∀ {v : Value} {h' : AHeap}, wpA P (RY P Y) ops chk K (i + 1) rest (a.put o.dst v) h' → ∀ ι' w' v', Step ι h w ι' h' w' → VR ι' v v' → wpListIn (FR none) n P ops Q rest (dfr Ds (a'.put o.dst v')) w' := by
        intro v h' h1 ι' w' v' hs hv
        refine sim_listY hY hInv hKN rest (i + 1) _ h' ι' w' _ h1 hnd.2 hok.2 hs.hr (hInv hs hi) (hb.step hs) ((he.mono hs.ext).put hv o.dst) ?_
        intro ι'' h'' w'' a₁ a₁' hs' hb' he' hk
        exact hK ι'' h'' w'' a₁ a₁' (hs.trans hs') hb' he' hk
      cases hc : acall? a.eval o.op with
      | none =>
        simp only [hc] at hw
        cases hop : aop P a.eval h o.op with
        | none => simp [hop] at hw
        | some p =>
          obtain ⟨v, h'⟩ := p
          simp only [hop] at hw
          have hn := wpA_next (next_ry hY) hKN rest _ _ _ hw
          refine oper_fr (Q := fun _ _ _ => False) hnd.1 (fun b w' hk => hk) (fun _ _ _ hf => hf.elim) (sim_one (C := Runs P) (K := fun b w' => wpListIn (FR none) n P ops Q rest (dfr Ds b) w') simC_runs hr hρ (fun id h1 h2 => hb id h1 (by omega)) (by simp only [hc]; exact hop) (next hw))
      | some q =>
        cases q with
        | none => simp [hc] at hw
        | some q =>
          obtain ⟨g, args⟩ := q
          simp only [hc] at hw
          obtain ⟨v, h', h1, _, h3⟩ := hw
          have hn := wpA_next (next_ry hY) hKN rest _ _ _ h3
          rcases h1 with h1 | h1
          · exact oper_fr (Q := fun _ _ _ => False) hnd.1 (fun b w' hk => hk) (fun _ _ _ hf => hf.elim) (sim_one (C := Runs P) (K := fun b w' => wpListIn (FR none) n P ops Q rest (dfr Ds b) w') simC_runs hr hρ (fun id g1 g2 => hb id g1 (by omega)) (by simp only [hc]; exact h1) (next h3))
          · refine oper_yield hY hr hi (fun x hx => by rw [hev]; exact hρ x hx) (fun id g1 g2 => hb id g1 (by omega)) hc h1 ?_
            intro ι' w' v' hs hv
            rw [dfr_put]
            exact next h3 ι' w' v' hs hv
    · rename_i hwant
      rw [if_neg hwant] at hw
      refine ⟨fun _ _ => trivial, ?_⟩
      rw [dfr_put]
      exact sim_listY hY hInv hKN rest (i + 1) _ h ι w _ hw hnd.2 hok.2 hr hi hb (he.put .undef o.dst) hK

/-- Regions of an iterator: none of them is drawn. -/
theorem simR_yield {Y : CallRel} {Inv : PMap → AHeap → World → Prop} (hY : SimY P Y Inv) (hInv : ∀ {ι h w ι' h' w'}, Step ι h w ι' h' w' → Inv ι h w → Inv ι' h' w') : SimR P (RY P Y) Inv (fun _ draw => !draw) none := by
  intro id os draw B N n Q a h ι w a' Ds hRg hnd hok hN hw hr hi hb he hmk
  have hd : draw = false := by simpa using hRg
  subst hd
  unfold wpC at hw
  simp only [Bool.false_eq_true, if_false] at hw
  refine wpIn_region_list (sim_listY hY hInv (fun a h => hN _ a h) os.toList 0 a h ι w a' hw hnd hok hr hi hb he ?_)
  intro ι' h' w' a₁ a₁' h1 h2 h3 h4
  exact .mk (x := .normal) h1 h2 h3 (hmk.step h1) h4

/-- The slots in which a round begins. -/
def roundT (ps : Array Tmp) (args tmps : Array Value) : Array Value := (ps.zip args).foldl (fun t (p, v) => t.setIfInBounds p v) tmps
def setsE (ps : List Tmp) (args : List Value) (ρ : Env) : Env := (ps.zip args).foldl (fun ρ q => ρ.set q.1 q.2) ρ

theorem roundT_list (ps : Array Tmp) (args tmps : Array Value) : roundT ps args tmps = (ps.toList.zip args.toList).foldl (fun t q => t.setIfInBounds q.1 q.2) tmps := by
  unfold roundT
  rw [← Array.foldl_toList, Array.toList_zip]
theorem roundT_size : ∀ (ps : List Tmp) (args : List Value) (tmps : Array Value), ((ps.zip args).foldl (fun t q => t.setIfInBounds q.1 q.2) tmps).size = tmps.size
  | [], _, _ => rfl
  | _ :: _, [], _ => rfl
  | p :: ps, v :: args, tmps => by rw [List.zip_cons_cons, List.foldl_cons, roundT_size ps args]; simp
theorem roundT_rel {ι : PMap} : ∀ (ps : List Tmp) (args args' : List Value) (tmps tmps' : Array Value), VRL ι args args' → VRA ι tmps tmps' → VRA ι ((ps.zip args).foldl (fun t q => t.setIfInBounds q.1 q.2) tmps) ((ps.zip args').foldl (fun t q => t.setIfInBounds q.1 q.2) tmps')
  | [], _, _, _, _, _, h => h
  | _ :: _, [], _, _, _, ha, h => by rw [ha.nil_inv]; exact h
  | p :: ps, v :: args, _, tmps, tmps', ha, h => by
    obtain ⟨v', args', rfl, hv, ha'⟩ := ha.cons_inv
    rw [List.zip_cons_cons, List.zip_cons_cons, List.foldl_cons, List.foldl_cons]
    refine roundT_rel ps args args' _ _ ha' ?_
    rw [VRA_iff, Array.toList_setIfInBounds, Array.toList_setIfInBounds]
    exact (VRA_iff.1 h).set hv p
theorem roundT_env : ∀ (ps : List Tmp) (args : List Value) (a : Act), (ps.all fun p => decide (p < a.tmps.size)) = true → envOf { tmps := (ps.zip args).foldl (fun t q => t.setIfInBounds q.1 q.2) a.tmps, defers := [] } = setsE ps args (envOf a)
  | [], _, a, _ => rfl
  | _ :: _, [], a, _ => rfl
  | p :: ps, v :: args, a, hp => by
    simp only [List.all_cons, Bool.and_eq_true, decide_eq_true_eq] at hp
    have h1 := roundT_env ps args (a.put (some p) v) (by rw [size_put]; exact hp.2)
    rw [envOf_put (by rintro x ⟨⟩; exact hp.1)] at h1
    exact h1

/-- A call of this loop's body comes to this heap. -/
def YE (P : Program) (hs : List Nat) (ρ : Env) (ps : Array Tmp) (as bd : Code) (l : Nat) : CallRel := fun g args h v h' => g = yid l ∧ args.size = ps.size ∧ v = .bool true ∧
  go ⟨P, [], fun _ _ => False, hs, noY⟩ as [.seq bd, .jo fun _ k => k = h'] (setsE ps.toList args.toList ρ) h

theorem ye_code {hs : List Nat} {a : Act} {ps : Array Tmp} {as bd : Code} {l : Nat} (ha : okSlots hs a.tmps.size as = true) (hb : okSlots hs a.tmps.size bd = true) (hp : (ps.toList.all fun p => decide (p < a.tmps.size)) = true)
    {g : FuncId} {args : Array Value} {h : AHeap} {v : Value} {h' : AHeap} (hy : YE P hs (envOf a) ps as bd l g args h v h') :
    wpC P (RY P noY) as (fun x a₁ h₁ => x = .normal ∧ wpC P (RY P noY) bd (fun x _ k => x = .normal ∧ k = h') a₁ h₁) { tmps := roundT ps args a.tmps, defers := [] } h := by
  obtain ⟨_, _, _, hw⟩ := hy
  have hsz : (roundT ps args a.tmps).size = a.tmps.size := by rw [roundT_list]; exact roundT_size ..
  rw [← roundT_env _ _ a hp, ← roundT_list] at hw
  refine wpC_mono as ?_ (wpE_sound (n := a.tmps.size) as ha hsz hw)
  rintro x a₁ h₁ ⟨h1, h2⟩
  cases x with
  | normal =>
    refine ⟨rfl, wpC_mono bd ?_ (wpE_sound (n := a.tmps.size) bd hb h1 h2)⟩
    rintro y b k ⟨_, h3⟩
    cases y with
    | normal => exact ⟨rfl, h3⟩
    | exit id => exact h3.elim
    | ret => simp [kE, fin, resEL] at h3
  | exit id => exact h2.elim
  | ret => simp [kE, fin, resEL] at h2

/-- The record of a loop. -/
abbrev lrec (fn : FuncId) (tmps : Array Value) (ps : Array Tmp) (as bd : Code) (d : Nat) : Loop := { state := .ready, pending := none, fn, tmps, params := ps, assign := as, body := bd, defers := d }

/-- A round comes to what its walk comes to. -/
theorem simY_loop (hm : P.follows .mixedOrders = true) {hs : List Nat} {a a' : Act} {ps : Array Tmp} {as bd : Code} {l : Nat} (hoa : regs false (fun _ _ => true) as = true) (hob : regs false (fun _ _ => true) bd = true)
    (ha : okSlots hs a.tmps.size as = true) (hb : okSlots hs a.tmps.size bd = true) (hp : (ps.toList.all fun p => decide (p < a.tmps.size)) = true) {ι0 : PMap} (he : ER ι0 a a') {fn : FuncId} {d : Nat} :
    SimY P (YE P hs (envOf a) ps as bd l) (fun ι h w => ι0.le ι ∧ Aside ι h w l (.loop (lrec fn a'.tmps ps as bd d))) := by
  intro g args h v h' hy
  have hc := ye_code ha hb hp hy
  have hnx : ∀ (x : AExit) (a : Act) (k : AHeap), (x = .normal ∧ wpC P (RY P noY) bd (fun x _ k => x = .normal ∧ k = h') a k) → k.next ≤ h'.next :=
    fun x a k hq => wpC_next simC_ry.nx bd (fun y b k hy => by rw [hy.2]; exact Nat.le_refl _) hq.2
  refine ⟨wpC_next simC_ry.nx as hnx hc, l, hy.1, fun ι w args' m hr hi hargs hf => ?_⟩
  obtain ⟨hle, hi⟩ := hi
  obtain ⟨_, hsz, rfl, _⟩ := hy
  refine ⟨_, _, _, _, run_yield hi.here (by rw [← hargs.1]; exact hsz), roundIn_of_wpIn trivial ?_⟩
  have hrel : ER ι { tmps := roundT ps args a.tmps, defers := [] } { tmps := roundT ps args' a'.tmps, defers := [] } :=
    ⟨by rw [roundT_list, roundT_list]; exact roundT_rel _ _ _ _ _ (VRA_iff.1 hargs) (he.tmps.mono hle), rfl, rfl⟩
  refine wpIn_mono (sim_code (Inv := fun _ _ _ => True) simC_ry.nx (fun _ _ => trivial) (simR_plain simC_ry hm (r := some l)) (rng := false) (fun e => by cases e) (B := w.heap.size) (Ds := []) as hnx hc hoa hr trivial hf (Nat.le_refl _) hrel .nil) ?_
  rintro e a₁' w₁ ⟨x, ι₁, a₁, h₁, a₀, Ds, rfl, rfl, hs₁, hb₁, he₁, hm₁, rfl, hq⟩
  have ha₁ := hi.step hs₁
  refine ⟨_, run_beginRound ha₁.here rfl, ?_⟩
  have hsize : w.heap.size ≤ (w₁.putObj l (.loop { lrec fn a'.tmps ps as bd d with state := .busy })).heap.size := by rw [World.putObj_size]; exact hs₁.size
  have hm₂ : Marks w.heap.size ι₁ h₁ (w₁.putObj l (.loop { lrec fn a'.tmps ps as bd d with state := .busy })) Ds := by
    obtain ⟨bs, rfl, hnd, hbs⟩ := hm₁
    refine ⟨bs, rfl, hnd, fun b hb => ⟨(hbs b hb).1, (World.putObj_heap_other ?_).trans (hbs b hb).2.here, (hbs b hb).2.no⟩⟩
    have := (hbs b hb).1; have := hi.lt; omega
  refine wpIn_mono (sim_code (Inv := fun _ _ _ => True) simC_ry.nx (fun _ _ => trivial) (simR_plain simC_ry hm (r := some l)) (rng := false) (fun e => by cases e) (B := w.heap.size) bd (fun x a k hk => by rw [hk.2]; exact Nat.le_refl _) hq hob (hs₁.hr.putObj ha₁.no (hs₁.hr.notLaid ha₁.here fun _ _ _ e => by cases e) _) trivial hb₁ hsize he₁ hm₂) ?_
  rintro e a₂' w₂ ⟨x, ι₂, a₂, h₂, a₀', Ds₂, rfl, rfl, hs₂, _, _, _, rfl, rfl⟩
  have ha₂ : Aside ι₁ h₁ (w₁.putObj l (.loop { lrec fn a'.tmps ps as bd d with state := .busy })) l (.loop { lrec fn a'.tmps ps as bd d with state := .busy }) := ⟨World.putObj_heap_same ha₁.lt, ha₁.no⟩
  exact ⟨_, _, run_endRound none (ha₂.step hs₂).here, ι₂, _, rfl, hs₁.trans (hs₂.between ha₁ (hs₁.hr.notLaid ha₁.here fun _ _ _ e => by cases e)), .bool _⟩

/-- A RANGE OVER A FUNCTION, by the iterator's walk. -/
theorem rng_of (hm : P.follows .mixedOrders = true) {hs : List Nat} {ρ : Env} {g : Operand} {ps : Array Tmp} {as bd : Code} {gf : FuncId} {lb : Array Value} (hg : ρ.ev g = .func (.func gf) #[] lb) (hgo : okOpd g = true) (hoa : regs false (fun _ _ => true) as = true) (hob : regs false (fun _ _ => true) bd = true)
    {fn : Func} {ci : Code} {rsi : Array ResultVar} {n : Nat} (hf : P.funcs[gf]? = some fn) (hbd : fn.body = some ci) (hrs : fn.results = rsi) (hok : okE P [] gf n = true) (hnd : regs true (fun _ draw => !draw) ci = true) (hsz : lb.size + 1 ≤ n)
    {h h2 : AHeap} (hw : ∀ l, go ⟨P, rsi.toList, fun _ k => k = h2, [], YE P hs ρ ps as bd l⟩ ci [] (env0 (.func (.yield l) #[] #[] :: lb.toList)) h) : RngE P hs ρ g ps as bd h h2 := by
  intro a hρ hsa hsb hps
  subst hρ
  unfold okE at hok
  simp only [hf, hbd, Bool.and_eq_true, Bool.not_eq_true', beq_iff_eq, decide_eq_true_eq] at hok
  obtain ⟨⟨⟨h0, h1⟩, h2'⟩, h3, h4⟩ := hok
  -- the walk of the iterator
  have hwl : ∀ l, ∃ x a₁ v, (x = .normal ∨ x = .ret) ∧ aresults P fn h2 a₁ = some v ∧ wpC P (RY P (YE P hs (envOf a) ps as bd l)) ci (fun y b k => y = x ∧ b = a₁ ∧ k = h2) (frame0 fn (#[.func (.yield l) #[] #[]] ++ lb)) h := by
    intro l
    have hsize : (frame0 fn (#[.func (.yield l) #[] #[]] ++ lb)).tmps.size = n := by simp [frame0]; omega
    have he : envOf (frame0 fn (#[.func (.yield l) #[] #[]] ++ lb)) = env0 (.func (.yield l) #[] #[] :: lb.toList) := by rw [envOf_frame0]; simp
    have hwl := hw l
    unfold go at hwl
    rw [← he] at hwl
    obtain ⟨x, a₁, h₁, ⟨_, hq⟩, hx⟩ := wpC_one ci (wpE_sound (n := n) ci h4 hsize hwl)
    have list : ∀ (rs : List ResultVar) (k : AHeap), aresultList P k a₁ rs = resEL P (envOf a₁) k rs := by
      intro rs k
      induction rs with
      | nil => rfl
      | cons r rs ih =>
        unfold aresultList resEL
        rw [ih]
        have : aresult P k a₁ r = resE P (envOf a₁) k r := by cases r <;> rfl
        rw [this]
        cases resE P (envOf a₁) k r <;> cases resEL P (envOf a₁) k rs <;> rfl
    have conv : fin P rsi.toList (fun _ k => k = h2) (envOf a₁) h₁ → h₁ = h2 ∧ ∃ v, aresults P fn h₁ a₁ = some v := by
      intro hf
      unfold fin at hf
      unfold aresults
      rw [list, hrs]
      split at hf
      · rename_i v hv; rw [hv]; exact ⟨hf, v, rfl⟩
      · rename_i vs hne hv; rw [hv]; refine ⟨hf, .tuple vs.toArray, ?_⟩; split <;> rename_i e <;> cases e <;> first | rfl | exact (hne _ rfl).elim
      · exact hf.elim
    cases x with
    | normal => obtain ⟨rfl, v, hv⟩ := conv hq; exact ⟨_, a₁, v, .inl rfl, hv, hx⟩
    | ret => obtain ⟨rfl, v, hv⟩ := conv hq; exact ⟨_, a₁, v, .inr rfl, hv, hx⟩
    | exit id => exact hq.elim
  have hY : ∀ {ι0 : PMap} {a' : Act} (l fn' d : Nat), ER ι0 a a' → SimY P (YE P hs (envOf a) ps as bd l) (fun ι h w => ι0.le ι ∧ Aside ι h w l (.loop (lrec fn' a'.tmps ps as bd d))) :=
    fun l fn' d he => simY_loop hm hoa hob hsa hsb hps he
  refine ⟨?_, fun ι w a' n' Ds hr hfr he => ?_⟩
  · obtain ⟨x, a₁, v, _, _, hx⟩ := hwl 0
    have hn : NextC (RY P (YE P hs (envOf a) ps as bd 0)) := by
      intro g args k v k' hc
      refine hc.elim (fun h => h.2.1) fun hy => ?_
      exact wpC_next simC_ry.nx as (fun x a k hq => wpC_next simC_ry.nx bd (fun y b k hy => by rw [hy.2]; exact Nat.le_refl _) hq.2) (ye_code hsa hsb hps hy)
    exact wpC_next hn ci (fun y b k hy => by rw [hy.2.2]; exact Nat.le_refl _) hx
  have hgv := he.eval hgo
  rw [eval_env, hg] at hgv
  obtain ⟨fi', cp', hge, hfi, hcp⟩ := hgv.func_inv
  have hfi0 : fi' = #[] := Array.eq_empty_of_size_eq_zero hfi.1.symm
  subst hfi0
  have eg : ∀ args w, (callFunc gf args).run P w = .ok (.enter gf args) w := by
    intro args w
    have hbn : fn.body.isNone = false := by rw [hbd]; rfl
    simp only [callFunc, Sem.run_bind, run_program, Result.andThen_ok, hf, h1, hbn, Bool.false_eq_true, if_false, Sem.run_pure]
  refine wpIn_rangeFunc ?_
  intro fn' _
  obtain ⟨W1, hW1⟩ : ∃ W1, (w.alloc (.deferred (some []))).alloc (.loop (lrec fn' a'.tmps ps as bd w.heap.size)) = W1 := ⟨_, rfl⟩
  have hz1 : W1.heap.size = w.heap.size + 2 := by rw [← hW1]; simp
  have hr1 : HR ι h W1 := by rw [← hW1]; exact (hr.aside _).aside _
  have hL : Aside ι h W1 (w.heap.size + 1) (.loop (lrec fn' a'.tmps ps as bd w.heap.size)) := by
    refine ⟨?_, fun id pl h1 h2 => by have := hr.lt id pl h1 h2; omega⟩
    rw [← hW1]; have := World.alloc_heap_new (w.alloc (.deferred (some []))) (.loop (lrec fn' a'.tmps ps as bd w.heap.size)); rwa [World.size_alloc] at this
  have hD : Aside ι h W1 w.heap.size (.deferred (some [])) := by
    refine ⟨?_, fun id pl h1 h2 => by have := hr.lt id pl h1 h2; omega⟩
    rw [← hW1]; exact (heap_allocX _ _ (by simp)).trans (World.alloc_heap_new w _)
  have hs1 : Step ι h w ι h W1 := by rw [← hW1]; exact ((Step.refl hr).aside _).aside _
  refine ⟨w.heap.size + 1, [mark w.heap.size], W1, { target := .fn (.func gf) cp', args := #[.func (.yield (w.heap.size + 1)) #[] #[]] }, W1, gf,
    #[.func (.yield (w.heap.size + 1)) #[] #[]] ++ cp', W1, ?_, ?_, fun _ _ => trivial, ?_, fun e => (by cases e), ?_⟩
  · rw [← hW1]; exact run_enterLoop_outer _ _ _ _ _
  · have hge' : (dfr Ds a').eval g = .func (.func gf) #[] cp' := by rw [← hge]; cases g <;> rfl
    simp only [resolve, hge']
    simp [go_sem]
  · simp [invoke, go_sem, eg]
  · obtain ⟨x, a₁, v, hx, hv, hwx⟩ := hwl (w.heap.size + 1)
    have hyy := hY (w.heap.size + 1) fn' w.heap.size he
    have hInv : ∀ {ι₁ k₁ w₁ ι₂ k₂ w₂}, Step ι₁ k₁ w₁ ι₂ k₂ w₂ → (ι.le ι₁ ∧ Aside ι₁ k₁ w₁ (w.heap.size + 1) (.loop (lrec fn' a'.tmps ps as bd w.heap.size))) → (ι.le ι₂ ∧ Aside ι₂ k₂ w₂ (w.heap.size + 1) (.loop (lrec fn' a'.tmps ps as bd w.heap.size))) :=
      fun s hi => ⟨fun _ _ e => s.ext _ _ (hi.1 _ _ e), hi.2.step s⟩
    have hargs : VRA ι (#[.func (.yield (w.heap.size + 1)) #[] #[]] ++ lb) (#[.func (.yield (w.heap.size + 1)) #[] #[]] ++ cp') := by
      refine VRA.append ?_ hcp
      exact VRA_iff.2 (.cons (.func _ _ _ _ _ rfl rfl (fun i h1 => absurd h1 (by simp)) (fun i h1 => absurd h1 (by simp))) (.nil _))
    refine (calls_of_body (next_ry hyy) hInv (simR_yield hyy hInv) hf hbd hnd hx hv hwx hr1 ⟨fun _ _ e => e, hL⟩ hargs hfr).mono ?_
    rintro e w₃ ⟨ι', v', rfl, hs₂, _⟩
    have hL2 := hL.step hs₂
    have hD2 := hD.step hs₂
    refine ⟨none, _, run_endLoop hL2.here (by simp), rfl, ι', ?_, (hs1.trans hs₂).putObj (by omega) hL2.no (hs₂.hr.notLaid hL2.here fun _ _ _ e => by cases e) _, (World.putObj_heap_other (by omega)).trans hD2.here, hD2.no⟩
    show (⟨a'.tmps, [mark w.heap.size] ++ (a'.defers ++ Ds)⟩ : Act) = ⟨a'.tmps, a'.defers ++ (mark w.heap.size :: Ds)⟩
    rw [he.d']; rfl

/-- A RANGE OVER A FUNCTION, in a walk. -/
theorem rgf_of {Γ : Cx} (hm : Γ.P.follows .mixedOrders = true) {ρ : Env} {g : Operand} {ps : Array Tmp} {as bd : Code} {k : List Fr} {gf : FuncId} {lb : Array Value} (hg : ρ.ev g = .func (.func gf) #[] lb) (hgo : okOpd g = true) (hoa : regs false (fun _ _ => true) as = true) (hob : regs false (fun _ _ => true) bd = true)
    {fn : Func} {ci : Code} {rsi : Array ResultVar} {n : Nat} (hf : Γ.P.funcs[gf]? = some fn) (hbd : fn.body = some ci) (hrs : fn.results = rsi) (hok : okE Γ.P [] gf n = true) (hnd : regs true (fun _ draw => !draw) ci = true) (hsz : lb.size + 1 ≤ n)
    {h : AHeap} (h2 : AHeap) (hw : ∀ l, go ⟨Γ.P, rsi.toList, fun _ k => k = h2, [], YE Γ.P Γ.hs ρ ps as bd l⟩ ci [] (env0 (.func (.yield l) #[] #[] :: lb.toList)) h) (hk : nx Γ k ρ h2) : rgf Γ g ps as bd k ρ h :=
  ⟨h2, rng_of hm hg hgo hoa hob hf hbd hrs hok hnd hsz hw, hk⟩

end
end Go.AM
