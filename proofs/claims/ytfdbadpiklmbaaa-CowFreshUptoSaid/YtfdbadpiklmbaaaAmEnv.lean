/- AM: walking: the slots as a function, what is to be done as a stack. Rules by which a walk goes on. -/
import Derived.Test.YtfdbadpiklmbaaaAmExec
set_option linter.unusedSimpArgs false
set_option linter.unusedVariables false
set_option linter.unnecessarySimpa false
set_option maxRecDepth 100000
namespace Go.AM

abbrev Env := Nat → Value

def Env.ev (ρ : Env) : Operand → Value
  | .tmp t => ρ t
  | .const v => v
  | .global g => .pointer (some ⟨g, 0, none⟩)
  | .func f => .func (.func f) #[] #[]

def Env.set (ρ : Env) (d : Nat) (v : Value) : Env := fun t => if t = d then v else ρ t
def Env.put (ρ : Env) (d : Option Nat) (v : Value) : Env := match d with | some d => ρ.set d v | none => ρ

def envOf (a : Act) : Env := fun t => a.tmps.getD t undef

theorem eval_env (a : Act) : a.eval = (envOf a).ev := by funext x; cases x <;> rfl

theorem envOf_put {a : Act} {d : Option Nat} (hd : ∀ x, d = some x → x < a.tmps.size) (v : Value) : envOf (a.put d v) = (envOf a).put d v := by
  cases d with
  | none => rfl
  | some d =>
    have := hd d rfl
    funext t
    simp only [envOf, Act.put, Env.put, Env.set, Array.getD_eq_getD_getElem?, Array.getElem?_setIfInBounds]
    by_cases e : t = d
    · subst e; simp [this]
    · simp [e, Ne.symm e]

def yieldE (ops : Array Oper) (ρ : Env) (j : Nat) : Option Bool :=
  match ((ops[j]?).bind (·.dst)).map ρ with
  | some (.bool b) => some b
  | _ => none

theorem yielded_env (ops : Array Oper) (a : Act) : yielded ops a.tmps = yieldE ops (envOf a) := by
  funext j
  unfold yielded yieldE
  cases (ops[j]?).bind (·.dst) with
  | none => rfl
  | some d =>
    simp only [Option.bind_some, Option.map_some, envOf]
    rw [Array.getD_eq_getD_getElem?]
    cases h : a.tmps[d]? with
    | none => rfl
    | some v => cases v <;> rfl

def wpO (P : Program) (C : CallRel) (ops : Array Oper) (chk : Nat → Bool) (K : Env → AHeap → Prop) : Nat → List Oper → Env → AHeap → Prop
  | _, [], ρ, h => K ρ h
  | i, o :: rest, ρ, h =>
    if Region.wanted o (yieldE ops ρ) = true then
      match acall? ρ.ev o.op with
      | some (some (g, args)) => ∃ v h', C g args h v h' ∧ (chk i = true → h.quiet h' ∨ (hardOf ops (Region.before ops) i = true ∧ keepsA ops ρ h h')) ∧ wpO P C ops chk K (i + 1) rest (ρ.put o.dst v) h'
      | some none => False
      | none =>
        match aop P ρ.ev h o.op with
        | some (v, h') => wpO P C ops chk K (i + 1) rest (ρ.put o.dst v) h'
        | none => False
    else wpO P C ops chk K (i + 1) rest (ρ.put o.dst undef) h

def roundsE (W : (AExit → Env → AHeap → Prop) → Env → AHeap → Prop) (Q : AExit → Env → AHeap → Prop) : Nat → Env → AHeap → Prop
  | 0, _, _ => False
  | n + 1, ρ, h => W (fun e ρ h => match e with | .normal => roundsE W Q n ρ h | e => Q e ρ h) ρ h

def chkR (ops : Array Oper) (draw : Bool) : Nat → Bool := if draw then chkOf ops (Region.before ops) else fun _ => false

/-- Slots within the frame, drawn regions that may be done in order. -/
def okSlots (hs : List Nat) (n : Nat) : Code → Bool
  | .region id ops draw => (ops.toList.all fun o => match o.dst with | some d => decide (d < n) | none => true) && (!draw || (if hs.contains id then drawOKH ops (Region.before ops) else drawOK ops (Region.before ops)))
  | .seq x y => okSlots hs n x && okSlots hs n y
  | .cond _ x y => okSlots hs n x && okSlots hs n y
  | .block _ c => okSlots hs n c
  | .loop c => okSlots hs n c
  | .rangeFunc _ ps as bd => okSlots hs n as && okSlots hs n bd && ps.toList.all fun p => decide (p < n)
  | _ => true

def RngE (P : Program) (hs : List Nat) (ρ : Env) (g : Operand) (ps : Array Tmp) (as bd : Code) (h h2 : AHeap) : Prop :=
  ∀ a : Act, envOf a = ρ → okSlots hs a.tmps.size as = true → okSlots hs a.tmps.size bd = true → (ps.toList.all fun p => decide (p < a.tmps.size)) = true → Rng P a g ps as bd h h2

def wpE (P : Program) (hs : List Nat) (C : CallRel) : Code → (AExit → Env → AHeap → Prop) → Env → AHeap → Prop
  | .skip, Q, ρ, h => Q .normal ρ h
  | .region id ops draw, Q, ρ, h => (hs.contains id = true → apartS ops ρ) ∧ wpO P C ops (chkR ops draw) (Q .normal) 0 ops.toList ρ h
  | .seq x y, Q, ρ, h => wpE P hs C x (fun e ρ h => match e with | .normal => wpE P hs C y Q ρ h | e => Q e ρ h) ρ h
  | .cond c x y, Q, ρ, h =>
    match ρ.ev c with
    | .bool true => wpE P hs C x Q ρ h
    | .bool false => wpE P hs C y Q ρ h
    | _ => False
  | .block id c, Q, ρ, h => wpE P hs C c (fun e ρ h => match e with | .exit id' => if id' = id then Q .normal ρ h else Q (.exit id') ρ h | e => Q e ρ h) ρ h
  | .loop c, Q, ρ, h => ∃ n, roundsE (wpE P hs C c) Q n ρ h
  | .exit id, Q, ρ, h => Q (.exit id) ρ h
  | .ret, Q, ρ, h => Q .ret ρ h
  | .rangeFunc g ps as bd, Q, ρ, h => ∃ h2, RngE P hs ρ g ps as bd h h2 ∧ Q .normal ρ h2
  | _, _, _, _ => False

section
variable {P : Program} {C : CallRel}

theorem size_put (a : Act) (d : Option Nat) (v : Value) : (a.put d v).tmps.size = a.tmps.size := by cases d <;> simp [Act.put]

theorem wpO_sound {ops : Array Oper} {chk : Nat → Bool} {K : Env → AHeap → Prop} {n : Nat} : ∀ (l : List Oper) (i : Nat) (a : Act) (h : AHeap), (l.all fun o => match o.dst with | some d => decide (d < n) | none => true) = true → a.tmps.size = n →
    wpO P C ops chk K i l (envOf a) h → wpA P C ops chk (fun a h => a.tmps.size = n ∧ K (envOf a) h) i l a h := by
  intro l
  induction l with
  | nil => intro i a h _ hn hw; exact ⟨hn, hw⟩
  | cons o rest ih =>
    intro i a h hl hn hw
    simp only [List.all_cons, Bool.and_eq_true] at hl
    have hd : ∀ x, o.dst = some x → x < a.tmps.size := by
      intro x hx; have := hl.1; rw [hx] at this; rw [hn]; simpa using this
    have step : ∀ (v : Value) (h' : AHeap), wpO P C ops chk K (i + 1) rest ((envOf a).put o.dst v) h' → wpA P C ops chk (fun a h => a.tmps.size = n ∧ K (envOf a) h) (i + 1) rest (a.put o.dst v) h' := by
      intro v h' h1
      refine ih (i + 1) _ h' hl.2 (by rw [size_put]; exact hn) ?_
      rw [envOf_put hd]; exact h1
    unfold wpO at hw
    unfold wpA
    rw [yielded_env, eval_env]
    split
    · rename_i hwant
      rw [if_pos hwant] at hw
      cases hc : acall? (envOf a).ev o.op with
      | none =>
        simp only [hc] at hw ⊢
        cases hop : aop P (envOf a).ev h o.op with
        | none => simp [hop] at hw
        | some p => simp only [hop] at hw ⊢; exact step _ _ hw
      | some q =>
        cases q with
        | none => simp [hc] at hw
        | some q =>
          simp only [hc] at hw ⊢
          obtain ⟨v, h', h1, h2, h3⟩ := hw
          exact ⟨v, h', h1, h2, step _ _ h3⟩
    · rename_i hwant
      rw [if_neg hwant] at hw
      exact step _ _ hw

theorem wpE_sound {hs : List Nat} {n : Nat} : ∀ (c : Code) {Q : AExit → Env → AHeap → Prop} {a : Act} {h : AHeap}, okSlots hs n c = true → a.tmps.size = n → wpE P hs C c Q (envOf a) h → wpC P C c (fun x a h => a.tmps.size = n ∧ Q x (envOf a) h) a h := by
  intro c
  induction c with
  | skip => intro Q a h _ hn hw; exact ⟨hn, hw⟩
  | region id ops draw =>
    intro Q a h ho hn hw
    simp only [okSlots, Bool.and_eq_true] at ho
    unfold wpE at hw
    obtain ⟨hap, hw⟩ := hw
    unfold wpC
    cases draw with
    | true =>
      rw [if_pos rfl]
      have hdd : okDraw ops (fun t => a.tmps.getD t undef) := by
        have h2 := ho.2
        simp only [Bool.not_true, Bool.false_or] at h2
        cases hh : hs.contains id with
        | false => rw [hh] at h2; exact .inl (by simpa using h2)
        | true => rw [hh] at h2; exact .inr ⟨by simpa using h2, hap hh⟩
      refine ⟨hdd, ?_⟩
      simpa [chkR] using wpO_sound ops.toList 0 a h ho.1 hn hw
    | false =>
      rw [if_neg (by simp)]
      simpa [chkR] using wpO_sound ops.toList 0 a h ho.1 hn hw
  | seq x y ihx ihy =>
    intro Q a h ho hn hw
    simp only [okSlots, Bool.and_eq_true] at ho
    refine wpC_mono x ?_ (ihx ho.1 hn hw)
    rintro e a h ⟨h1, h2⟩
    cases e with
    | normal => exact ihy ho.2 h1 h2
    | exit id => exact ⟨h1, h2⟩
    | ret => exact ⟨h1, h2⟩
  | cond c x y ihx ihy =>
    intro Q a h ho hn hw
    simp only [okSlots, Bool.and_eq_true] at ho
    unfold wpE at hw
    unfold wpC
    rw [eval_env]
    split at hw
    · rename_i hc; simp only [hc]; exact ihx ho.1 hn hw
    · rename_i hc; simp only [hc]; exact ihy ho.2 hn hw
    · exact hw.elim
  | block id c ih =>
    intro Q a h ho hn hw
    refine wpC_mono c ?_ (ih (by simpa [okSlots] using ho) hn hw)
    rintro e a h ⟨h1, h2⟩
    cases e with
    | normal => exact ⟨h1, h2⟩
    | exit id' => simp only at h2 ⊢; split <;> rename_i hid <;> simp only [hid, if_true, if_false] at h2 <;> exact ⟨h1, h2⟩
    | ret => exact ⟨h1, h2⟩
  | loop c ih =>
    intro Q a h ho hn hw
    obtain ⟨m, hm⟩ := hw
    refine ⟨m, ?_⟩
    induction m generalizing a h with
    | zero => exact hm.elim
    | succ m ihm =>
      refine wpC_mono c ?_ (ih (by simpa [okSlots] using ho) hn hm)
      rintro e a h ⟨h1, h2⟩
      cases e with
      | normal => exact ihm h1 h2
      | exit id => exact ⟨h1, h2⟩
      | ret => exact ⟨h1, h2⟩
  | exit id => intro Q a h _ hn hw; exact ⟨hn, hw⟩
  | ret => intro Q a h _ hn hw; exact ⟨hn, hw⟩
  | rangeFunc g ps as bd _ _ =>
    intro Q a h ho hn hw
    obtain ⟨h2, hr, hq⟩ := hw
    simp only [okSlots, Bool.and_eq_true] at ho
    exact ⟨h2, hr a rfl (by rw [hn]; exact ho.1.1) (by rw [hn]; exact ho.1.2) (by rw [hn]; exact ho.2), hn, hq⟩
  | _ => intro Q a h _ hn hw; exact hw.elim
end

/-- What is to be done behind a piece of code. -/
inductive Fr where
  | seq (c : Code)
  | block (id : Nat)
  | jo (J : Env → AHeap → Prop)

def resE (P : Program) (ρ : Env) (h : AHeap) : ResultVar → Option Value
  | .tmp t => some (ρ t)
  | .cell p t => match ρ p with | .pointer (some ⟨id, off, none⟩) => aload P t h id off | _ => none

def resEL (P : Program) (ρ : Env) (h : AHeap) : List ResultVar → Option (List Value)
  | [] => some []
  | r :: rs =>
    match resE P ρ h r, resEL P ρ h rs with
    | some v, some vs => some (v :: vs)
    | _, _ => none

/-- The end: the results, and what is to hold of them. -/
def fin (P : Program) (rs : List ResultVar) (F : Value → AHeap → Prop) (ρ : Env) (h : AHeap) : Prop :=
  match resEL P ρ h rs with
  | some [v] => F v h
  | some vs => F (.tuple vs.toArray) h
  | none => False

structure Cx where
  P : Program
  rs : List ResultVar
  F : Value → AHeap → Prop
  hs : List Nat
  Y : CallRel

/-- How it goes on. -/
def kE (Γ : Cx) : List Fr → AExit → Env → AHeap → Prop
  | [], x, ρ, h => match x with | .exit _ => False | _ => fin Γ.P Γ.rs Γ.F ρ h
  | .seq y :: k, x, ρ, h => match x with | .normal => wpE Γ.P Γ.hs (RY Γ.P Γ.Y) y (kE Γ k) ρ h | x => kE Γ k x ρ h
  | .block id :: k, x, ρ, h => match x with | .exit id' => if id' = id then kE Γ k .normal ρ h else kE Γ k (.exit id') ρ h | x => kE Γ k x ρ h
  | .jo J :: k, x, ρ, h => match x with | .normal => J ρ h | x => kE Γ k x ρ h

def go (Γ : Cx) (c : Code) (k : List Fr) (ρ : Env) (h : AHeap) : Prop := wpE Γ.P Γ.hs (RY Γ.P Γ.Y) c (kE Γ k) ρ h
def nx (Γ : Cx) (k : List Fr) (ρ : Env) (h : AHeap) : Prop := kE Γ k .normal ρ h
def ex (Γ : Cx) (id : Nat) (k : List Fr) (ρ : Env) (h : AHeap) : Prop := kE Γ k (.exit id) ρ h
def rt (Γ : Cx) (k : List Fr) (ρ : Env) (h : AHeap) : Prop := kE Γ k .ret ρ h
/-- Operations to be done. -/
def ro (Γ : Cx) (ops : Array Oper) (chk : Nat → Bool) (i : Nat) (l : List Oper) (k : List Fr) (ρ : Env) (h : AHeap) : Prop := wpO Γ.P (RY Γ.P Γ.Y) ops chk (fun ρ h => kE Γ k .normal ρ h) i l ρ h
/-- A region to be done. -/
def rg (Γ : Cx) (hard : Bool) (ops : Array Oper) (draw : Bool) (k : List Fr) (ρ : Env) (h : AHeap) : Prop := (hard = true → apartS ops ρ) ∧ wpO Γ.P (RY Γ.P Γ.Y) ops (chkR ops draw) (kE Γ k .normal) 0 ops.toList ρ h
/-- Behind an operation. -/
def stp (Γ : Cx) (ops : Array Oper) (chk : Nat → Bool) (i : Nat) (d : Option Nat) (l : List Oper) (k : List Fr) (ρ : Env) : Option (Value × AHeap) → Prop
  | some (v, h) => ro Γ ops chk (i + 1) l k (ρ.put d v) h
  | none => False
/-- A call. -/
def cl (Γ : Cx) (g : FuncId) (args : Array Value) (ops : Array Oper) (chk : Nat → Bool) (i : Nat) (d : Option Nat) (l : List Oper) (k : List Fr) (ρ : Env) (h : AHeap) : Prop :=
  ∃ v h', RY Γ.P Γ.Y g args h v h' ∧ (chk i = true → h.quiet h' ∨ (hardOf ops (Region.before ops) i = true ∧ keepsA ops ρ h h')) ∧ ro Γ ops chk (i + 1) l k (ρ.put d v) h'
def stc (Γ : Cx) (ops : Array Oper) (chk : Nat → Bool) (i : Nat) (d : Option Nat) (l : List Oper) (k : List Fr) (ρ : Env) (h : AHeap) (r : Option (Value × AHeap)) : Option (Option (FuncId × Array Value)) → Prop
  | some (some (g, args)) => cl Γ g args ops chk i d l k ρ h
  | some none => False
  | none => stp Γ ops chk i d l k ρ r
def gd (Γ : Cx) (ops : Array Oper) (chk : Nat → Bool) (i : Nat) (o : Oper) (l : List Oper) (k : List Fr) (ρ : Env) (h : AHeap) (b : Bool) : Prop :=
  if b = true then stc Γ ops chk i o.dst l k ρ h (aop Γ.P ρ.ev h o.op) (acall? ρ.ev o.op) else ro Γ ops chk (i + 1) l k (ρ.put o.dst undef) h
/-- A range over a function. -/
def rgf (Γ : Cx) (g : Operand) (ps : Array Tmp) (as bd : Code) (k : List Fr) (ρ : Env) (h : AHeap) : Prop := ∃ h2, RngE Γ.P Γ.hs ρ g ps as bd h h2 ∧ kE Γ k .normal ρ h2
/-- A condition. -/
def cnd (Γ : Cx) (x y : Code) (k : List Fr) (ρ : Env) (h : AHeap) : Value → Prop
  | .bool true => go Γ x k ρ h
  | .bool false => go Γ y k ρ h
  | _ => False

section
variable {Γ : Cx} {ops : Array Oper} {chk : Nat → Bool} {i : Nat} {d : Option Nat} {l : List Oper} {k : List Fr} {ρ : Env} {h : AHeap}

theorem go_skip : go Γ .skip k ρ h = nx Γ k ρ h := (rfl)
theorem go_regionH {id : Nat} {draw : Bool} : go Γ (.region id ops draw) k ρ h = rg Γ (Γ.hs.contains id) ops draw k ρ h := (rfl)
theorem rg_false {draw : Bool} : rg Γ false ops draw k ρ h = ro Γ ops (chkR ops draw) 0 ops.toList k ρ h := by simp [rg, ro]
theorem rg_true {draw : Bool} : rg Γ true ops draw k ρ h = (apartS ops ρ ∧ ro Γ ops (chkR ops draw) 0 ops.toList k ρ h) := by simp [rg, ro]
theorem go_region {P : Program} {rs : List ResultVar} {F : Value → AHeap → Prop} {Y : CallRel} {id : Nat} {draw : Bool} : go ⟨P, rs, F, [], Y⟩ (.region id ops draw) k ρ h = ro ⟨P, rs, F, [], Y⟩ ops (chkR ops draw) 0 ops.toList k ρ h := by rw [go_regionH]; exact rg_false
theorem go_seq {x y : Code} : go Γ (.seq x y) k ρ h = go Γ x (.seq y :: k) ρ h := (rfl)
theorem go_cond {c : Operand} {x y : Code} : go Γ (.cond c x y) k ρ h = cnd Γ x y k ρ h (ρ.ev c) := (rfl)
theorem go_block {id : Nat} {c : Code} : go Γ (.block id c) k ρ h = go Γ c (.block id :: k) ρ h := (rfl)
theorem go_exit {id : Nat} : go Γ (.exit id) k ρ h = ex Γ id k ρ h := (rfl)
theorem go_rgf {g : Operand} {ps : Array Tmp} {as bd : Code} : go Γ (.rangeFunc g ps as bd) k ρ h = rgf Γ g ps as bd k ρ h := (rfl)
theorem go_ret : go Γ .ret k ρ h = rt Γ k ρ h := (rfl)
theorem nx_nil : nx Γ [] ρ h = fin Γ.P Γ.rs Γ.F ρ h := (rfl)
theorem nx_seq {y : Code} : nx Γ (.seq y :: k) ρ h = go Γ y k ρ h := (rfl)
theorem nx_block {id : Nat} : nx Γ (.block id :: k) ρ h = nx Γ k ρ h := (rfl)
/-- What is to hold at a cut: it is not looked into by a walk. -/
def Hold (J : Env → AHeap → Prop) (ρ : Env) (h : AHeap) : Prop := J ρ h
theorem Hold.mk {J : Env → AHeap → Prop} (hj : J ρ h) : Hold J ρ h := hj
theorem nx_jo {J : Env → AHeap → Prop} : nx Γ (.jo J :: k) ρ h = Hold J ρ h := (rfl)
theorem ex_seq {id : Nat} {y : Code} : ex Γ id (.seq y :: k) ρ h = ex Γ id k ρ h := (rfl)
theorem ex_block {id id' : Nat} : ex Γ id (.block id' :: k) ρ h = if id = id' then nx Γ k ρ h else ex Γ id k ρ h := (rfl)
theorem ex_jo {id : Nat} {J : Env → AHeap → Prop} : ex Γ id (.jo J :: k) ρ h = ex Γ id k ρ h := (rfl)
theorem rt_nil : rt Γ [] ρ h = fin Γ.P Γ.rs Γ.F ρ h := (rfl)
theorem rt_seq {y : Code} : rt Γ (.seq y :: k) ρ h = rt Γ k ρ h := (rfl)
theorem rt_block {id : Nat} : rt Γ (.block id :: k) ρ h = rt Γ k ρ h := (rfl)
theorem rt_jo {J : Env → AHeap → Prop} : rt Γ (.jo J :: k) ρ h = rt Γ k ρ h := (rfl)
theorem ro_nil : ro Γ ops chk i [] k ρ h = nx Γ k ρ h := (rfl)
theorem ro_cons {op : Op} {ty : TypeId} {pos : String} {af : Array Edge} : ro Γ ops chk i (⟨d, op, ty, pos, af, none⟩ :: l) k ρ h = stc Γ ops chk i d l k ρ h (aop Γ.P ρ.ev h op) (acall? ρ.ev op) := by
  unfold ro
  rw [wpO]
  simp only [Region.wanted, if_true]
  cases hc : acall? ρ.ev op with
  | none =>
    simp only [stc]
    cases hop : aop Γ.P ρ.ev h op with
    | none => simp [stp]
    | some p => rfl
  | some q =>
    cases q with
    | none => simp [stc]
    | some q => rfl
theorem ro_guard {op : Op} {ty : TypeId} {pos : String} {af : Array Edge} {j : Nat} {b : Bool} : ro Γ ops chk i (⟨d, op, ty, pos, af, some (j, b)⟩ :: l) k ρ h =
    gd Γ ops chk i ⟨d, op, ty, pos, af, none⟩ l k ρ h (yieldE ops ρ j == some b) := by
  unfold ro gd
  rw [wpO]
  by_cases hb : Region.wanted ⟨d, op, ty, pos, af, some (j, b)⟩ (yieldE ops ρ) = true
  · have hb' : (yieldE ops ρ j == some b) = true := hb
    rw [if_pos hb, if_pos hb']
    cases hc : acall? ρ.ev op with
    | none =>
      simp only [stc]
      cases hop : aop Γ.P ρ.ev h op with
      | none => simp [stp]
      | some p => rfl
    | some q =>
      cases q with
      | none => simp [stc]
      | some q => rfl
  · have hb' : ¬ (yieldE ops ρ j == some b) = true := hb
    rw [if_neg hb, if_neg hb']; rfl
theorem stp_some {v : Value} : stp Γ ops chk i d l k ρ (some (v, h)) = ro Γ ops chk (i + 1) l k (ρ.put d v) h := (rfl)
theorem stc_none {r : Option (Value × AHeap)} : stc Γ ops chk i d l k ρ h r none = stp Γ ops chk i d l k ρ r := (rfl)
theorem stc_call {r : Option (Value × AHeap)} {g : FuncId} {args : Array Value} : stc Γ ops chk i d l k ρ h r (some (some (g, args))) = cl Γ g args ops chk i d l k ρ h := (rfl)
theorem gd_true {o : Oper} : gd Γ ops chk i o l k ρ h true = stc Γ ops chk i o.dst l k ρ h (aop Γ.P ρ.ev h o.op) (acall? ρ.ev o.op) := by unfold gd; simp
theorem gd_false {o : Oper} : gd Γ ops chk i o l k ρ h false = ro Γ ops chk (i + 1) l k (ρ.put o.dst undef) h := by unfold gd; simp
theorem cnd_true {x y : Code} : cnd Γ x y k ρ h (.bool true) = go Γ x k ρ h := (rfl)
theorem cnd_false {x y : Code} : cnd Γ x y k ρ h (.bool false) = go Γ y k ρ h := (rfl)
theorem put_some {t : Nat} {v : Value} : ρ.put (some t) v = ρ.set t v := rfl
theorem put_none {v : Value} : ρ.put none v = ρ := rfl
theorem ev_tmp {t : Nat} : ρ.ev (.tmp t) = ρ t := rfl
theorem ev_const {v : Value} : ρ.ev (.const v) = v := rfl
theorem ev_func {f : FuncId} : ρ.ev (.func f) = .func (.func f) #[] #[] := rfl
theorem set_self {t : Nat} {v : Value} : (ρ.set t v) t = v := by simp [Env.set]
theorem set_ne {t t' : Nat} {v : Value} (hne : t' ≠ t) : (ρ.set t v) t' = ρ t' := by simp [Env.set, hne]

theorem Does.mono {P : Program} {g : FuncId} {args : Array Value} {h : AHeap} {Post Post' : Value → AHeap → Prop} (hd : Does P g args h Post) (hp : ∀ u h', Post u h' → Post' u h') : Does P g args h Post' := by
  obtain ⟨v, h', h1, h2⟩ := hd
  exact ⟨v, h', h1, hp v h' h2⟩

/-- A call, by what is known of it. -/
theorem cl_spec {g : FuncId} {args : Array Value} {Post : Value → AHeap → Prop} (hs : Does Γ.P g args h Post) (hq : ∀ v h', Post v h' → chk i = true → h.quiet h') (hk : ∀ v h', Post v h' → ro Γ ops chk (i + 1) l k (ρ.put d v) h') :
    cl Γ g args ops chk i d l k ρ h := by
  obtain ⟨v, h', h1, h2⟩ := hs
  exact ⟨v, h', .inl h1, fun hc => .inl (hq v h' h2 hc), hk v h' h2⟩
/-- A call of a loop's body. -/
theorem cl_yield {g : FuncId} {args : Array Value} {v : Value} {h' : AHeap} (hs : Γ.Y g args h v h') (hq : chk i = true → h.quiet h') (hk : ro Γ ops chk (i + 1) l k (ρ.put d v) h') :
    cl Γ g args ops chk i d l k ρ h := ⟨v, h', .inr hs, fun hc => .inl (hq hc), hk⟩
/-- The slots from which the addresses of a region's loads come. -/
def basesIn (ops : Array Oper) (ts : List Tmp) : Bool := (List.range ops.size).all fun k => match lookBase ops k with | some t => ts.contains t | none => true
/-- A call that writes, beside loads. -/
theorem cl_hard {g : FuncId} {args : Array Value} {Post : Value → AHeap → Prop} (ts : List Tmp) (hh : (hardOf ops (Region.before ops) i && basesIn ops ts) = true) (hs : Does Γ.P g args h Post) (hq : ∀ v h', Post v h' → ∀ t ∈ ts, ∀ x, vblk (ρ t) = some x → h'.get x = h.get x)
    (hk : ∀ v h', Post v h' → ro Γ ops chk (i + 1) l k (ρ.put d v) h') : cl Γ g args ops chk i d l k ρ h := by
  obtain ⟨v, h', h1, h2⟩ := hs
  simp only [Bool.and_eq_true] at hh
  refine ⟨v, h', .inl h1, fun _ => .inr ⟨hh.1, fun j t hl x hx => hq v h' h2 t ?_ x hx⟩, hk v h' h2⟩
  have := List.all_eq_true.1 hh.2 j (List.mem_range.2 (lookBase_lt hl))
  simp only [hl] at this
  simpa using this

theorem cnd_split {x y : Code} {b : Bool} (h1 : b = true → go Γ x k ρ h) (h2 : b = false → go Γ y k ρ h) : cnd Γ x y k ρ h (.bool b) := by
  cases b with
  | true => exact h1 rfl
  | false => exact h2 rfl

theorem cnd_decide {x y : Code} {p : Prop} [Decidable p] (h1 : p → go Γ x k ρ h) (h2 : ¬ p → go Γ y k ρ h) : cnd Γ x y k ρ h (.bool (decide p)) :=
  cnd_split (fun e => h1 (by simpa using e)) (fun e => h2 (by simpa using e))

theorem wpE_mono {P : Program} {hs : List Nat} {C : CallRel} : ∀ (c : Code) {Q Q' : AExit → Env → AHeap → Prop} {ρ : Env} {h : AHeap}, (∀ x ρ h, Q x ρ h → Q' x ρ h) → wpE P hs C c Q ρ h → wpE P hs C c Q' ρ h := by
  have opsm : ∀ {ops : Array Oper} {chk : Nat → Bool} {K K' : Env → AHeap → Prop} (hK : ∀ ρ h, K ρ h → K' ρ h) (l : List Oper) (i : Nat) (ρ : Env) (h : AHeap), wpO P C ops chk K i l ρ h → wpO P C ops chk K' i l ρ h := by
    intro ops chk K K' hK l
    induction l with
    | nil => intro i ρ h hw; exact hK ρ h hw
    | cons o rest ih =>
      intro i ρ h hw
      unfold wpO at hw ⊢
      split
      · rename_i hwant
        rw [if_pos hwant] at hw
        cases hc : acall? ρ.ev o.op with
        | none =>
          simp only [hc] at hw ⊢
          cases hop : aop P ρ.ev h o.op with
          | none => simp [hop] at hw
          | some p => simp only [hop] at hw ⊢; exact ih _ _ _ hw
        | some q =>
          cases q with
          | none => simp [hc] at hw
          | some q =>
            simp only [hc] at hw ⊢
            obtain ⟨v, h', h1, h2, h3⟩ := hw
            exact ⟨v, h', h1, h2, ih _ _ _ h3⟩
      · rename_i hwant
        rw [if_neg hwant] at hw
        exact ih _ _ _ hw
  intro c
  induction c with
  | skip => intro Q Q' ρ h hQ hw; exact hQ _ _ _ hw
  | region id os draw => intro Q Q' ρ h hQ hw; exact ⟨hw.1, opsm (fun ρ h => hQ _ ρ h) _ _ _ _ hw.2⟩
  | seq x y ihx ihy =>
    intro Q Q' ρ h hQ hw
    refine ihx ?_ hw
    intro e ρ h he
    cases e with
    | normal => exact ihy hQ he
    | exit id => exact hQ _ _ _ he
    | ret => exact hQ _ _ _ he
  | cond c x y ihx ihy =>
    intro Q Q' ρ h hQ hw
    unfold wpE at hw ⊢
    split
    · rename_i hc; simp only [hc] at hw; exact ihx hQ hw
    · rename_i hc; simp only [hc] at hw; exact ihy hQ hw
    · rename_i h1 h2
      split at hw
      · rename_i hc; exact h1 hc
      · rename_i hc; exact h2 hc
      · exact hw
  | block id c ih =>
    intro Q Q' ρ h hQ hw
    refine ih ?_ hw
    intro e ρ h he
    cases e with
    | normal => exact hQ _ _ _ he
    | exit id' => simp only at he ⊢; split <;> rename_i hid <;> simp only [hid, if_true, if_false] at he <;> exact hQ _ _ _ he
    | ret => exact hQ _ _ _ he
  | loop c ih =>
    intro Q Q' ρ h hQ hw
    obtain ⟨n, hn⟩ := hw
    refine ⟨n, ?_⟩
    induction n generalizing ρ h with
    | zero => exact hn.elim
    | succ n ihn =>
      refine ih ?_ hn
      intro e ρ h he
      cases e with
      | normal => exact ihn he
      | exit id => exact hQ _ _ _ he
      | ret => exact hQ _ _ _ he
  | exit id => intro Q Q' ρ h hQ hw; exact hQ _ _ _ hw
  | ret => intro Q Q' ρ h hQ hw; exact hQ _ _ _ hw
  | rangeFunc g ps as bd _ _ => intro Q Q' ρ h hQ hw; obtain ⟨h2, hr, hq⟩ := hw; exact ⟨h2, hr, hQ _ _ _ hq⟩
  | _ => intro Q Q' ρ h hQ hw; exact hw.elim

/-- A LOOP: what holds ahead of each round, with a number that falls. -/
theorem go_loop {c : Code} (I : Nat → Env → AHeap → Prop) (m : Nat) (h0 : I m ρ h) (step : ∀ m ρ h, I m ρ h → go Γ c (.jo (fun ρ' h' => ∃ m', m' < m ∧ I m' ρ' h') :: k) ρ h) : go Γ (.loop c) k ρ h := by
  have key : ∀ (n m : Nat), m < n → ∀ ρ h, I m ρ h → roundsE (wpE Γ.P Γ.hs (RY Γ.P Γ.Y) c) (kE Γ k) n ρ h := by
    intro n
    induction n with
    | zero => intro m hm; omega
    | succ n ih =>
      intro m hm ρ h hi
      refine wpE_mono c ?_ (step m ρ h hi)
      intro e ρ' h' he
      cases e with
      | normal => obtain ⟨m', hm', hi'⟩ := he; exact ih m' (by omega) ρ' h' hi'
      | exit id => exact he
      | ret => exact he
  exact ⟨m + 1, key (m + 1) m (by omega) ρ h h0⟩

/-- A cut: what holds behind a piece of code. -/
theorem go_cut {c : Code} (J : Env → AHeap → Prop) (h1 : go Γ c (.jo J :: k) ρ h) (h2 : ∀ ρ h, J ρ h → nx Γ k ρ h) : go Γ c k ρ h := by
  refine wpE_mono c ?_ h1
  intro e ρ' h' he
  cases e with
  | normal => exact h2 _ _ he
  | exit id => exact he
  | ret => exact he

/-- A cut behind a block. -/
theorem go_cutb {c : Code} {id : Nat} (J : Env → AHeap → Prop) (h1 : go Γ c (.block id :: .jo J :: k) ρ h) (h2 : ∀ ρ h, J ρ h → nx Γ k ρ h) : go Γ c (.block id :: k) ρ h := by
  refine wpE_mono c ?_ h1
  intro e ρ' h' he
  cases e with
  | normal => exact h2 _ _ he
  | exit id' =>
    simp only [kE] at he ⊢
    split
    · rename_i e; rw [if_pos e] at he; exact h2 _ _ he
    · rename_i e; rw [if_neg e] at he; exact he
  | ret => exact he

/-- A condition whose branches meet again. -/
theorem cnd_join {x y : Code} {v : Value} (J : Env → AHeap → Prop) (h1 : cnd Γ x y (.jo J :: k) ρ h v) (h2 : ∀ ρ h, J ρ h → nx Γ k ρ h) : cnd Γ x y k ρ h v := by
  unfold cnd at h1 ⊢
  split <;> simp only at h1
  · exact go_cut J h1 h2
  · exact go_cut J h1 h2

def sets (ρ : Env) (d : Nat) : List Value → Env
  | [] => ρ
  | v :: vs => sets (ρ.set d v) (d + 1) vs

/-- The slots at the start. -/
def env0 (args : List Value) : Env := sets (fun _ => undef) 0 args

theorem env0_one {a : Value} : env0 [a] = Env.set (fun _ => undef) 0 a := rfl
theorem env0_two {a b : Value} : env0 [a, b] = (Env.set (fun _ => undef) 0 a).set 1 b := rfl

theorem env0_nil : env0 [] = fun _ => undef := rfl
theorem env0_three {a b c : Value} : env0 [a, b, c] = ((Env.set (fun _ => undef) 0 a).set 1 b).set 2 c := rfl
theorem env0_four {a b c d : Value} : env0 [a, b, c, d] = (((Env.set (fun _ => undef) 0 a).set 1 b).set 2 c).set 3 d := rfl
theorem env0_five {a b c d e : Value} : env0 [a, b, c, d, e] = ((((Env.set (fun _ => undef) 0 a).set 1 b).set 2 c).set 3 d).set 4 e := rfl
theorem env0_six {a b c d e f : Value} : env0 [a, b, c, d, e, f] = (((((Env.set (fun _ => undef) 0 a).set 1 b).set 2 c).set 3 d).set 4 e).set 5 f := rfl
theorem env0_seven {a b c d e f g : Value} : env0 [a, b, c, d, e, f, g] = ((((((Env.set (fun _ => undef) 0 a).set 1 b).set 2 c).set 3 d).set 4 e).set 5 f).set 6 g := rfl

theorem sets_get : ∀ (vs : List Value) (ρ : Env) (d t : Nat), sets ρ d vs t = if t < d then ρ t else if t < d + vs.length then vs.getD (t - d) undef else ρ t
  | [], ρ, d, t => by simp [sets]; intro h1 h2; omega
  | v :: vs, ρ, d, t => by
    rw [sets, sets_get vs]
    simp only [List.length_cons]
    by_cases h1 : t < d
    · rw [if_pos (by omega), if_pos h1, set_ne (by omega)]
    · rw [if_neg h1]
      by_cases h2 : t = d
      · subst h2; rw [if_pos (by omega), if_pos (by omega), set_self]; simp
      · rw [if_neg (by omega)]
        by_cases h3 : t < d + 1 + vs.length
        · rw [if_pos h3, if_pos (by omega)]
          have : t - d = (t - (d + 1)) + 1 := by omega
          rw [this]; simp
        · rw [if_neg h3, if_neg (by omega), set_ne h2]

theorem envOf_frame0 {fn : Func} {args : Array Value} : envOf (frame0 fn args) = env0 args.toList := by
  funext t
  unfold envOf frame0 env0
  rw [sets_get]
  simp only [Array.getD_eq_getD_getElem?, Nat.not_lt_zero, if_false, Nat.zero_add, Array.length_toList, Nat.sub_zero]
  by_cases h1 : t < args.size
  · rw [if_pos h1, Array.getElem?_append_left h1]; simp [List.getD]
  · rw [if_neg h1, Array.getElem?_append_right (by omega)]
    rcases Nat.lt_or_ge (t - args.size) (fn.ntmps - args.size) with h2 | h2
    · rw [Array.getElem?_eq_getElem (by simpa using h2)]; simp
    · rw [Array.getElem?_eq_none (by simpa using h2)]; rfl

/-- May it be walked? -/
def okE (P : Program) (hs : List Nat) (g : FuncId) (n : Nat) : Bool :=
  match P.funcs[g]? with
  | some fn => decide (g < 18446744073709551616) && !(fn.name == "runtime.NumGoroutine") && fn.ntmps == n && match fn.body with | some c => okCode c && okSlots hs n c | none => false
  | none => false

/-- WHAT IS KNOWN OF A FUNCTION, BY WALKING IT. -/
theorem spec_goH {P : Program} (hs : List Nat) (hm : P.follows .mixedOrders = true) {g : FuncId} {fn : Func} {c : Code} {rs : Array ResultVar} {n : Nat} (hf : P.funcs[g]? = some fn) (hb : fn.body = some c) (hrs : fn.results = rs) (hok : okE P hs g n = true)
    {args : Array Value} {Post : Value → AHeap → Prop} (hsz : args.size ≤ n) (hw : go ⟨P, rs.toList, Post, hs, noY⟩ c [] (env0 args.toList) h) : Does P g args h Post := by
  unfold okE at hok
  simp only [hf, hb, Bool.and_eq_true, Bool.not_eq_true', beq_iff_eq, decide_eq_true_eq] at hok
  obtain ⟨⟨⟨h0, h1⟩, h2⟩, h3, h4⟩ := hok
  refine spec_of_body simC_ry hm h0 hf h1 hb h3 ?_
  have hsize : (frame0 fn args).tmps.size = n := by simp [frame0]; omega
  refine wpC_mono c ?_ (wpE_sound (n := n) c (Q := kE ⟨P, rs.toList, Post, hs, noY⟩ []) h4 hsize (by rw [envOf_frame0]; exact hw))
  rintro x a h ⟨_, hx⟩
  have list : ∀ (rs : List ResultVar), aresultList P h a rs = resEL P (envOf a) h rs := by
    intro rs
    induction rs with
    | nil => rfl
    | cons r rs ih =>
      unfold aresultList resEL
      rw [ih]
      have : aresult P h a r = resE P (envOf a) h r := by cases r <;> rfl
      rw [this]
      cases resE P (envOf a) h r <;> cases resEL P (envOf a) h rs <;> rfl
  have conv : fin P rs.toList Post (envOf a) h → ∃ v, aresults P fn h a = some v ∧ Post v h := by
    intro hf
    unfold fin at hf
    unfold aresults
    rw [list, hrs]
    split at hf
    · rename_i v hv; rw [hv]; exact ⟨v, rfl, hf⟩
    · rename_i vs hne hv; rw [hv]; exact ⟨_, by split <;> simp_all, hf⟩
    · exact hf.elim
  cases x with
  | normal => exact conv hx
  | ret => exact conv hx
  | exit id => exact hx

theorem spec_go {P : Program} (hm : P.follows .mixedOrders = true) {g : FuncId} {fn : Func} {c : Code} {rs : Array ResultVar} {n : Nat} (hf : P.funcs[g]? = some fn) (hb : fn.body = some c) (hrs : fn.results = rs) (hok : okE P [] g n = true)
    {args : Array Value} {Post : Value → AHeap → Prop} (hsz : args.size ≤ n) (hw : go ⟨P, rs.toList, Post, [], noY⟩ c [] (env0 args.toList) h) : Does P g args h Post := spec_goH [] hm hf hb hrs hok hsz hw
/-- What is loaded by these slots, and stored by those. -/
theorem apart_of {ops : Array Oper} {ρ : Env} (ls ss : List Tmp) (hh : (basesIn ops ls && (List.range ops.size).all fun k => match storeBase ops k with | some t => ss.contains t | none => true) = true)
    (h : ∀ t ∈ ls, ∀ s ∈ ss, ∀ x, vblk (ρ t) = some x → vblk (ρ s) ≠ some x) : apartS ops ρ := by
  simp only [Bool.and_eq_true] at hh
  intro k t i s hl hs
  have h1 := List.all_eq_true.1 hh.1 k (List.mem_range.2 (lookBase_lt hl))
  have h2 := List.all_eq_true.1 hh.2 i (List.mem_range.2 (storeBase_lt hs))
  simp only [hl] at h1
  simp only [hs] at h2
  exact h t (by simpa using h1) s (by simpa using h2)
end
end Go.AM
