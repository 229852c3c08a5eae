/- AM: running it: what a run comes to, calls come to. -/
import Derived.Test.YtfdbadpiklmbaaaAmCode
set_option linter.unusedSimpArgs false
set_option linter.unusedVariables false
set_option linter.unnecessarySimpa false
set_option maxRecDepth 100000
namespace Go.AM

/-- Drawn regions may be done in the order of the text. -/
def okDraws (hs : Nat → Bool) : Code → Bool
  | .region id ops draw => !draw || (if hs id then drawOKH ops (Region.before ops) else drawOK ops (Region.before ops))
  | .seq x y => okDraws hs x && okDraws hs y
  | .cond _ x y => okDraws hs x && okDraws hs y
  | .block _ c => okDraws hs c
  | .loop c => okDraws hs c
  | .skip | .exit _ | .ret => true
  | _ => false

def eqV : Value → Value → Bool
  | .bool a, .bool b => a == b
  | .int k a, .int k' b => decide (k = k') && decide (a = b)
  | .string a, .string b => decide (a.data.toList = b.data.toList)
  | .pointer a, .pointer b => decide (a = b)
  | .slice a n c, .slice a' n' c' => decide (a = a') && decide (n = n') && decide (c = c')
  | .map a, .map b => decide (a = b)
  | .nilFunc, .nilFunc => true
  | .nilIface, .nilIface => true
  | _, _ => false
theorem eqV_sound {a b : Value} (h : eqV a b = true) : a = b := by
  unfold eqV at h
  split at h <;> simp_all
  · rename_i x y
    cases x with | mk x => cases y with | mk y => cases x; cases y; simp_all
def eqVs : List Value → List Value → Bool
  | [], [] => true
  | a :: l, b :: m => eqV a b && eqVs l m
  | _, _ => false
theorem eqVs_sound : ∀ {l m : List Value}, eqVs l m = true → l = m
  | [], [], _ => rfl
  | a :: l, b :: m, h => by simp only [eqVs, Bool.and_eq_true] at h; rw [eqV_sound h.1, eqVs_sound h.2]
  | [], _ :: _, h => by cases h
  | _ :: _, [], h => by cases h
def eqEs : List MapEntry → List MapEntry → Bool
  | [], [] => true
  | a :: l, b :: m => eqV a.key b.key && eqV a.val b.val && decide (a.born = b.born) && eqEs l m
  | _, _ => false
theorem eqEs_sound : ∀ {l m : List MapEntry}, eqEs l m = true → l = m
  | [], [], _ => rfl
  | ⟨k, v, n⟩ :: l, ⟨k', v', n'⟩ :: m, h => by
    simp only [eqEs, Bool.and_eq_true, decide_eq_true_eq] at h
    rw [eqV_sound h.1.1.1, eqV_sound h.1.1.2, h.1.2, eqEs_sound h.2]
  | [], _ :: _, h => by cases h
  | _ :: _, [], h => by cases h
def eqObj : AObj → AObj → Bool
  | .dead, .dead => true
  | .map es c, .map es' c' => eqEs es es' && decide (c = c')
  | .cells c md, .cells c' md' => eqVs c c' && decide (md = md')
  | _, _ => false
theorem eqObj_sound {a b : AObj} (h : eqObj a b = true) : a = b := by
  unfold eqObj at h
  split at h
  · rfl
  · simp only [Bool.and_eq_true, decide_eq_true_eq] at h; rw [eqEs_sound h.1, h.2]
  · simp only [Bool.and_eq_true, decide_eq_true_eq] at h; rw [eqVs_sound h.1, h.2]
  · cases h
/-- Does one list of objects begin with the other one? -/
def eqObjs : List AObj → List AObj → Bool
  | [], _ => true
  | a :: l, b :: m => eqObj a b && eqObjs l m
  | _ :: _, [] => false
theorem eqObjs_sound : ∀ {l m : List AObj}, eqObjs l m = true → l.length ≤ m.length ∧ ∀ i, i < l.length → m.getD i .dead = l.getD i .dead
  | [], m, _ => ⟨Nat.zero_le _, fun i hi => by simp at hi⟩
  | a :: l, b :: m, h => by
    simp only [eqObjs, Bool.and_eq_true] at h
    obtain ⟨h1, h2⟩ := eqObjs_sound h.2
    refine ⟨by simpa using h1, fun i hi => ?_⟩
    cases i with
    | zero => simpa using (eqObj_sound h.1).symm
    | succ i => simpa using h2 i (by simpa using hi)
  | _ :: _, [], h => by cases h
def quietB (h h' : AHeap) : Bool := eqObjs h.objs h'.objs
theorem quietB_sound {h h' : AHeap} (hq : quietB h h' = true) : h.quiet h' := eqObjs_sound hq

def keepsB (ops : Array Oper) (a : Act) (h h' : AHeap) : Bool := (List.range ops.size).all fun k =>
  match lookBase ops k with
  | some t => match vblk (a.tmps.getD t undef) with | some x => eqObj (h'.get x) (h.get x) | none => true
  | none => true
theorem lookBase_lt {ops : Array Oper} {k : Nat} {t : Tmp} (h : lookBase ops k = some t) : k < ops.size := by
  rcases Nat.lt_or_ge k ops.size with h1 | h1
  · exact h1
  · simp [lookBase, Array.getElem?_eq_none h1] at h
theorem keepsB_sound {ops : Array Oper} {a : Act} {h h' : AHeap} (hk : keepsB ops a h h' = true) : keepsA ops (fun t => a.tmps.getD t undef) h h' := by
  intro k t hl x hx
  have := List.all_eq_true.1 hk k (List.mem_range.2 (lookBase_lt hl))
  simp only [hl, hx] at this
  exact eqObj_sound this

def apartB (ops : Array Oper) (a : Act) : Bool := (List.range ops.size).all fun k =>
  match lookBase ops k with
  | some t => (List.range ops.size).all fun i =>
    match storeBase ops i with
    | some s => match vblk (a.tmps.getD t undef), vblk (a.tmps.getD s undef) with | some x, some y => !decide (x = y) | _, _ => true
    | none => true
  | none => true
theorem storeBase_lt {ops : Array Oper} {k : Nat} {t : Tmp} (h : storeBase ops k = some t) : k < ops.size := by
  rcases Nat.lt_or_ge k ops.size with h1 | h1
  · exact h1
  · simp [storeBase, Array.getElem?_eq_none h1] at h
theorem apartB_sound {ops : Array Oper} {a : Act} (hk : apartB ops a = true) : apartS ops (fun t => a.tmps.getD t undef) := by
  intro k t i s hl hs x hx hy
  have := List.all_eq_true.1 hk k (List.mem_range.2 (lookBase_lt hl))
  simp only [hl] at this
  have := List.all_eq_true.1 this i (List.mem_range.2 (storeBase_lt hs))
  simp only [hs, hx, hy, decide_true, Bool.not_true] at this
  cases this

abbrev ACall := FuncId → Array Value → AHeap → Option (Value × AHeap)

section
variable (P : Program) (call : ACall)

def xO (ops : Array Oper) (chk : Nat → Bool) : Nat → List Oper → Act → AHeap → Option (Act × AHeap)
  | _, [], a, h => some (a, h)
  | i, o :: rest, a, h =>
    match Region.wanted o (yielded ops a.tmps) with
    | true =>
      match acall? a.eval o.op with
      | some (some (g, args)) =>
        match call g args h with
        | some (v, h') =>
          match !chk i || quietB h h' || (hardOf ops (Region.before ops) i && keepsB ops a h h') with
          | true => xO ops chk (i + 1) rest (a.put o.dst v) h'
          | false => none
        | none => none
      | some none => none
      | none =>
        match aop P a.eval h o.op with
        | some (v, h') => xO ops chk (i + 1) rest (a.put o.dst v) h'
        | none => none
    | false => xO ops chk (i + 1) rest (a.put o.dst undef) h

def xR (W : Act → AHeap → Option (AExit × Act × AHeap)) : Nat → Act → AHeap → Option (AExit × Act × AHeap)
  | 0, _, _ => none
  | n + 1, a, h =>
    match W a h with
    | some (.normal, a, h) => xR W n a h
    | r => r

def xC (hs : Nat → Bool) (n : Nat) : Code → Act → AHeap → Option (AExit × Act × AHeap)
  | .skip, a, h => some (.normal, a, h)
  | .region id ops draw, a, h =>
    match !draw || !hs id || apartB ops a with
    | true => (xO P call ops (fun i => draw && chkOf ops (Region.before ops) i) 0 ops.toList a h).map fun p => (.normal, p.1, p.2)
    | false => none
  | .seq x y, a, h =>
    match xC hs n x a h with
    | some (.normal, a, h) => xC hs n y a h
    | r => r
  | .cond c x y, a, h =>
    match a.eval c with
    | .bool true => xC hs n x a h
    | .bool false => xC hs n y a h
    | _ => none
  | .block id c, a, h =>
    match xC hs n c a h with
    | some (.exit id', a, h) => if id' = id then some (.normal, a, h) else some (.exit id', a, h)
    | r => r
  | .loop c, a, h => xR (xC hs n c) n a h
  | .exit id, a, h => some (.exit id, a, h)
  | .ret, a, h => some (.ret, a, h)
  | _, _, _ => none

end

/-- May it be run? hs: the regions of functions in which stores stand beside loads. -/
def okFn (P : Program) (hs : List (Nat × Nat)) (g : FuncId) : Bool :=
  match P.funcs[g]? with
  | some fn => decide (g < 18446744073709551616) && !(fn.name == "runtime.NumGoroutine") && match fn.body with | some c => okCode c && okDraws (fun id => hs.contains (g, id)) c | none => false
  | none => false

def xCall (P : Program) (hs : List (Nat × Nat)) (ok : FuncId → Bool) : Nat → ACall
  | 0, _, _, _ => none
  | n + 1, g, args, h =>
    match ok g, P.funcs[g]? with
    | true, some fn =>
      match fn.body with
      | some c =>
        match xC P (xCall P hs ok n) (fun id => hs.contains (g, id)) n c (frame0 fn args) h with
        | some (.normal, a, h') | some (.ret, a, h') => (aresults P fn h' a).map (·, h')
        | _ => none
      | none => none
    | _, _ => none

section
variable {P : Program}

theorem xO_sound {call : ACall} {C : CallRel} (hC : ∀ g args h v h', call g args h = some (v, h') → C g args h v h') {ops : Array Oper} {chk : Nat → Bool} :
    ∀ (l : List Oper) (i : Nat) (a : Act) (h : AHeap) (a' : Act) (h' : AHeap), xO P call ops chk i l a h = some (a', h') → wpA P C ops chk (fun b k => b = a' ∧ k = h') i l a h := by
  intro l
  induction l with
  | nil => intro i a h a' h' hx; simp [xO] at hx; exact ⟨hx.1, hx.2⟩
  | cons o rest ih =>
    intro i a h a' h' hx
    unfold xO at hx
    unfold wpA
    split at hx
    · rename_i hw
      rw [if_pos hw]
      split at hx
      · rename_i g args hc
        simp only [hc]
        split at hx
        · rename_i v h₁ hcall
          split at hx
          · rename_i hq
            refine ⟨v, h₁, hC _ _ _ _ _ hcall, (fun hcc => ?_), ih _ _ _ _ _ hx⟩
            rw [hcc] at hq
            simp only [Bool.not_true, Bool.false_or, Bool.or_eq_true, Bool.and_eq_true] at hq
            rcases hq with hq | ⟨hq1, hq2⟩
            · exact .inl (quietB_sound hq)
            · exact .inr ⟨hq1, keepsB_sound hq2⟩
          · cases hx
        · cases hx
      · cases hx
      · rename_i hc
        simp only [hc]
        split at hx
        · rename_i v h₁ hop
          simp only [hop]
          exact ih _ _ _ _ _ hx
        · cases hx
    · rename_i hw
      rw [if_neg (by rw [hw]; simp)]
      exact ih _ _ _ _ _ hx

theorem xC_sound {call : ACall} {C : CallRel} (hC : ∀ g args h v h', call g args h = some (v, h') → C g args h v h') (hs : Nat → Bool) (n : Nat) :
    ∀ (c : Code) (a : Act) (h : AHeap) (x : AExit) (a' : Act) (h' : AHeap), okDraws hs c = true → xC P call hs n c a h = some (x, a', h') → wpC P C c (fun y b k => y = x ∧ b = a' ∧ k = h') a h := by
  intro c
  induction c with
  | skip => intro a h x a' h' _ hx; simp [xC] at hx; exact hx
  | region id ops draw =>
    intro a h x a' h' hd hx
    unfold xC at hx
    split at hx
    case h_2 => cases hx
    rename_i hap
    rw [Option.map_eq_some_iff] at hx
    obtain ⟨⟨a₁, h₁⟩, h1, h2⟩ := hx
    cases h2
    unfold wpC
    cases draw with
    | true =>
      simp only [okDraws, Bool.not_true, Bool.false_or] at hd hap
      rw [if_pos rfl]
      have hdd : okDraw ops (fun t => a.tmps.getD t undef) := by
        cases hh : hs id with
        | false => rw [hh] at hd; exact .inl (by simpa using hd)
        | true => rw [hh] at hd hap; exact .inr ⟨by simpa using hd, apartB_sound (by simpa using hap)⟩
      refine ⟨hdd, ?_⟩
      have := xO_sound hC (ops := ops) (chk := fun i => true && chkOf ops (Region.before ops) i) ops.toList 0 a h a₁ h₁ h1
      simpa using this
    | false =>
      rw [if_neg (by simp)]
      have := xO_sound hC (ops := ops) (chk := fun i => false && chkOf ops (Region.before ops) i) ops.toList 0 a h a₁ h₁ h1
      simpa using this
  | seq p q ihp ihq =>
    intro a h x a' h' hd hx
    simp only [okDraws, Bool.and_eq_true] at hd
    unfold xC at hx
    unfold wpC
    split at hx
    · rename_i a₁ h₁ hp
      refine wpC_mono p ?_ (ihp _ _ _ _ _ hd.1 hp)
      rintro e b k ⟨rfl, rfl, rfl⟩
      exact ihq _ _ _ _ _ hd.2 hx
    · rename_i hne
      refine wpC_mono p ?_ (ihp _ _ _ _ _ hd.1 hx)
      rintro e b k ⟨rfl, rfl, rfl⟩
      cases e with
      | normal => exact (hne _ _ hx).elim
      | exit id => exact ⟨rfl, rfl, rfl⟩
      | ret => exact ⟨rfl, rfl, rfl⟩
  | cond c p q ihp ihq =>
    intro a h x a' h' hd hx
    simp only [okDraws, Bool.and_eq_true] at hd
    unfold xC at hx
    unfold wpC
    split at hx
    · rename_i hc; simp only [hc]; exact ihp _ _ _ _ _ hd.1 hx
    · rename_i hc; simp only [hc]; exact ihq _ _ _ _ _ hd.2 hx
    · cases hx
  | block id c ih =>
    intro a h x a' h' hd hx
    unfold xC at hx
    unfold wpC
    split at hx
    · rename_i id' a₁ h₁ hc
      refine wpC_mono c ?_ (ih _ _ _ _ _ hd hc)
      rintro e b k ⟨rfl, rfl, rfl⟩
      simp only
      split at hx
      · rename_i hid; cases hx; rw [if_pos hid]; exact ⟨rfl, rfl, rfl⟩
      · rename_i hid; cases hx; rw [if_neg hid]; exact ⟨rfl, rfl, rfl⟩
    · rename_i hne
      refine wpC_mono c ?_ (ih _ _ _ _ _ hd hx)
      rintro e b k ⟨rfl, rfl, rfl⟩
      cases e with
      | normal => exact ⟨rfl, rfl, rfl⟩
      | exit id => exact (hne _ _ _ hx).elim
      | ret => exact ⟨rfl, rfl, rfl⟩
  | loop c ih =>
    intro a h x a' h' hd hx
    unfold xC at hx
    refine ⟨n, ?_⟩
    have key : ∀ (m : Nat) (a : Act) (h : AHeap), xR (xC P call hs n c) m a h = some (x, a', h') → roundsA (wpC P C c) (fun y b k => y = x ∧ b = a' ∧ k = h') m a h := by
      intro m
      induction m with
      | zero => intro a h hm; cases hm
      | succ m ihm =>
        intro a h hm
        unfold xR at hm
        unfold roundsA
        split at hm
        · rename_i a₁ h₁ hc
          refine wpC_mono c ?_ (ih _ _ _ _ _ hd hc)
          rintro e b k ⟨rfl, rfl, rfl⟩
          exact ihm _ _ hm
        · rename_i hne
          refine wpC_mono c ?_ (ih _ _ _ _ _ hd hm)
          rintro e b k ⟨rfl, rfl, rfl⟩
          cases e with
          | normal => exact (hne _ _ hm).elim
          | exit id => exact ⟨rfl, rfl, rfl⟩
          | ret => exact ⟨rfl, rfl, rfl⟩
    exact key n a h hx
  | exit id => intro a h x a' h' _ hx; simp [xC] at hx; exact hx
  | ret => intro a h x a' h' _ hx; simp [xC] at hx; exact hx
  | _ => intro a h x a' h' hd; cases hd

theorem spec_of_body_runs {C : CallRel} (hC : SimC P C) (hm : P.follows .mixedOrders = true) {g : FuncId} (hg : g < 18446744073709551616) {fn : Func} {c : Code} (hf : P.funcs[g]? = some fn) (hn : (fn.name == "runtime.NumGoroutine") = false) (hb : fn.body = some c) (hok : okCode c = true)
    {args : Array Value} {h : AHeap} {v : Value} {h' : AHeap} (hw : wpC P C c (BodyQ P fn fun u k => u = v ∧ k = h') (frame0 fn args) h) : Runs P g args h v h' := by
  obtain ⟨u, k, h1, rfl, rfl⟩ := spec_of_body hC hm hg hf hn hb hok hw
  exact h1

theorem xCall_sound (hm : P.follows .mixedOrders = true) {hs : List (Nat × Nat)} {ok : FuncId → Bool} (hok : ∀ g, ok g = true → okFn P hs g = true) : ∀ (n : Nat) (g : FuncId) (args : Array Value) (h : AHeap) (v : Value) (h' : AHeap), xCall P hs ok n g args h = some (v, h') → Runs P g args h v h' := by
  intro n
  induction n with
  | zero => intro g args h v h' hx; cases hx
  | succ n ih =>
    intro g args h v h' hx
    unfold xCall at hx
    split at hx
    · rename_i fn hg hf
      have ho := hok g hg
      unfold okFn at ho
      simp only [hf, Bool.and_eq_true, Bool.not_eq_true', decide_eq_true_eq] at ho
      split at hx
      · rename_i c hb
        simp only [hb, Bool.and_eq_true] at ho
        refine spec_of_body_runs simC_runs hm ho.1.1 hf ho.1.2 hb ho.2.1 ?_
        split at hx
        · rename_i a h₁ hc
          refine wpC_mono c ?_ (xC_sound (C := Runs P) ih _ n c _ _ _ _ _ ho.2.2 hc)
          rintro e b k ⟨rfl, rfl, rfl⟩
          rw [Option.map_eq_some_iff] at hx
          obtain ⟨u, h1, h2⟩ := hx
          cases h2
          exact ⟨_, h1, rfl, rfl⟩
        · rename_i a h₁ hc
          refine wpC_mono c ?_ (xC_sound (C := Runs P) ih _ n c _ _ _ _ _ ho.2.2 hc)
          rintro e b k ⟨rfl, rfl, rfl⟩
          rw [Option.map_eq_some_iff] at hx
          obtain ⟨u, h1, h2⟩ := hx
          cases h2
          exact ⟨_, h1, rfl, rfl⟩
        · cases hx
      · cases hx
    · cases hx

theorem VR.of_plain {ι ι' : PMap} : ∀ (n : Nat) {v v' : Value}, plainV n v = true → VR ι v v' → VR ι' v v' := by
  intro n
  induction n with
  | zero => intro v v' hp h; cases h <;> first | (simp [plainV] at hp; done) | constructor
  | succ n ih =>
    intro v v' hp h
    cases h with
    | func fn f f' c c' h1 h2 h3 h4 =>
      simp [plainV] at hp
      exact .func _ _ _ _ _ h1 h2 (fun i a b => ih (hp.1 i a) (h3 i a b)) (fun i a b => ih (hp.2 i a) (h4 i a b))
    | iface t v v' hv => exact .iface _ _ _ (ih (by simpa [plainV] using hp) hv)
    | agg c c' h1 h2 => simp [plainV] at hp; exact .agg _ _ h1 (fun i a b => ih (hp i a) (h2 i a b))
    | tuple c c' h1 h2 => simp [plainV] at hp; exact .tuple _ _ h1 (fun i a b => ih (hp i a) (h2 i a b))
    | _ => first | (simp [plainV] at hp; done) | constructor

/-- A call without arguments that yields no address: where it came to something of nothing, it comes to it anywhere, and leaves nothing. -/
theorem Runs.anywhere {g : FuncId} {v : Value} {k : AHeap} {n : Nat} (hr : Runs P g #[] .empty v k) (hp : plainV n v = true) (h : AHeap) : Runs P g #[] h v h := by
  obtain ⟨he, _, hs⟩ := hr
  refine ⟨he, Nat.le_refl _, fun ι w args' hh ha _ => ?_⟩
  have h0 : HR (fun _ => none) .empty w := ⟨⟨fun _ _ h => (by cases h), fun _ _ _ _ h => (by cases h), fun _ _ h => (by cases h)⟩, fun p hp => ⟨(hh.lay p hp).1, fun ⟨_, _, h, _⟩ => by cases h⟩⟩
  have hargs : VRA (fun _ => none) #[] args' := ⟨ha.1, fun i h1 => absurd h1 (by simp)⟩
  refine (hs _ w args' h0 hargs (fun _ _ _ => rfl)).mono ?_
  rintro e w' ⟨ι', v', rfl, s, hv⟩
  have hno : ∀ k, ¬ Own (fun _ => none) .empty k := fun k ⟨_, _, h, _⟩ => by cases h
  refine ⟨ι, v', rfl, ?_, hv.of_plain n hp⟩
  exact {
    ext := fun _ _ h => h
    dom := fun _ _ h => .inl h
    next := Nat.le_refl _
    os := s.os
    tape := s.tape
    output := s.output
    size := s.size
    keep := fun k hk _ => s.keep k hk (hno k)
    newb := fun id pl h1 h2 => by rw [h1] at h2; cases h2
    old := fun _ _ _ h => h
    dead := fun _ _ _ h => h
    hr := ⟨⟨fun id pl hi => (hh.obj id pl hi).mono (fun _ _ h => h) (fun hal => s.keep _ (hh.lt id pl hi hal) (hno _)), hh.ex,
      fun id pl hi hal => Nat.lt_of_lt_of_le (hh.lt id pl hi hal) s.size⟩, hh.lay.same fun k hk _ => s.keep k hk (hno k)⟩ }

/-- A run that yields true. -/
def yes : Option (Value × AHeap) → Bool
  | some (.bool b, _) => b
  | _ => false

theorem Runs.of_yes (hm : P.follows .mixedOrders = true) {hs : List (Nat × Nat)} {ok : List FuncId} (hok : ok.all (okFn P hs) = true) {n : Nat} {g : FuncId} (hx : yes (xCall P hs (fun g => ok.contains g) n g #[] .empty) = true) (h : AHeap) : Runs P g #[] h (.bool true) h := by
  unfold yes at hx
  split at hx
  · rename_i b k hc
    subst hx
    exact (xCall_sound hm (fun g hg => List.all_eq_true.1 hok g (by simpa using hg)) n g _ _ _ _ hc).anywhere (n := 0) rfl h
  · cases hx

end
end Go.AM
