/- AM: code, and functions: what the abstract machine comes to, the model comes to. -/
import Derived.Test.YtfdbadpiklmbaaaAmFence
set_option linter.unusedSimpArgs false
set_option linter.unusedVariables false
set_option linter.unnecessarySimpa false
set_option maxRecDepth 100000
namespace Go.AM
/-- A piece of code, on abstract states. -/
def wpC (P : Program) (C : CallRel) : Code → (AExit → Act → AHeap → Prop) → Act → AHeap → Prop
  | .skip, Q, a, h => Q .normal a h
  | .region _ ops draw, Q, a, h =>
    if draw then okDraw ops (fun t => a.tmps.getD t undef) ∧ wpA P C ops (chkOf ops (Region.before ops)) (Q .normal) 0 ops.toList a h
    else wpA P C ops (fun _ => false) (Q .normal) 0 ops.toList a h
  | .seq x y, Q, a, h => wpC P C x (fun e a h => match e with | .normal => wpC P C y Q a h | e => Q e a h) a h
  | .cond c x y, Q, a, h =>
    match a.eval c with
    | .bool true => wpC P C x Q a h
    | .bool false => wpC P C y Q a h
    | _ => False
  | .block id c, Q, a, h => wpC P C c (fun e a h => match e with | .exit id' => if id' = id then Q .normal a h else Q (.exit id') a h | e => Q e a h) a h
  | .loop c, Q, a, h => ∃ n, roundsA (wpC P C c) Q n a h
  | .exit id, Q, a, h => Q (.exit id) a h
  | .ret, Q, a, h => Q .ret a h
  | .rangeFunc g ps as bd, Q, a, h => ∃ h2, Rng P a g ps as bd h h2 ∧ Q .normal a h2
  | _, _, _, _ => False

section
variable {P : Program}

/-- How an abstract post stands in the model. -/
def Lift (B N : Nat) (ι : PMap) (h : AHeap) (w : World) (Q : AExit → Act → AHeap → Prop) (e : Exit) (a' : Act) (w' : World) : Prop :=
  ∃ (x : AExit) (ι' : PMap) (a : Act) (h' : AHeap) (a₀ : Act) (Ds : List Deferred), e = x.toExit ∧ a' = dfr Ds a₀ ∧ Step ι h w ι' h' w' ∧ Bd N ι' h' ∧ ER ι' a a₀ ∧ Marks B ι' h' w' Ds ∧ Q x a h'
theorem Lift.mk {B N : Nat} {ι : PMap} {h : AHeap} {w : World} {Q : AExit → Act → AHeap → Prop} {x : AExit} {ι' : PMap} {a a' : Act} {h' : AHeap} {w' : World} {Ds : List Deferred} (h1 : Step ι h w ι' h' w') (h2 : Bd N ι' h') (h3 : ER ι' a a') (hm : Marks B ι' h' w' Ds) (h4 : Q x a h') : Lift B N ι h w Q x.toExit (dfr Ds a') w' :=
  ⟨x, ι', a, h', a', Ds, rfl, rfl, h1, h2, h3, hm, h4⟩

theorem wpC_mono {C : CallRel} : ∀ (c : Code) {Q Q' : AExit → Act → AHeap → Prop} {a : Act} {h : AHeap}, (∀ x a h, Q x a h → Q' x a h) → wpC P C c Q a h → wpC P C c Q' a h := by
  have ops : ∀ {ops : Array Oper} {chk : Nat → Bool} {K K' : Act → AHeap → Prop} (hK : ∀ a h, K a h → K' a h) (l : List Oper) (i : Nat) (a : Act) (h : AHeap), wpA P C ops chk K i l a h → wpA P C ops chk K' i l a h := by
    intro ops chk K K' hK l
    induction l with
    | nil => intro i a h hw; exact hK a h hw
    | cons o rest ih =>
      intro i a h hw
      unfold wpA at hw ⊢
      split
      · rename_i hwant
        rw [if_pos hwant] at hw
        cases hc : acall? a.eval o.op with
        | none =>
          simp only [hc] at hw ⊢
          cases hop : aop P a.eval h o.op with
          | none => simp [hop] at hw
          | some p => simp only [hop] at hw ⊢; exact ih _ _ _ hw
        | some q =>
          cases q with
          | none => simp [hc] at hw
          | some q =>
            simp only [hc] at hw ⊢
            obtain ⟨v, h', h1, h2, h3⟩ := hw
            exact ⟨v, h', h1, h2, ih _ _ _ h3⟩
      · rename_i hwant
        rw [if_neg hwant] at hw
        exact ih _ _ _ hw
  have rounds : ∀ {W : (AExit → Act → AHeap → Prop) → Act → AHeap → Prop} (_ : ∀ {Q Q' : AExit → Act → AHeap → Prop} {a : Act} {h : AHeap}, (∀ x a h, Q x a h → Q' x a h) → W Q a h → W Q' a h)
      {Q Q' : AExit → Act → AHeap → Prop} (_ : ∀ x a h, Q x a h → Q' x a h) (n : Nat) (a : Act) (h : AHeap), roundsA W Q n a h → roundsA W Q' n a h := by
    intro W hW Q Q' hQ n
    induction n with
    | zero => intro a h hw; exact hw
    | succ n ih =>
      intro a h hw
      refine hW ?_ hw
      intro x a h hx
      cases x with
      | normal => exact ih a h hx
      | exit id => exact hQ _ _ _ hx
      | ret => exact hQ _ _ _ hx
  intro c
  induction c with
  | skip => intro Q Q' a h hQ hw; exact hQ _ _ _ hw
  | region id os draw =>
    intro Q Q' a h hQ hw
    unfold wpC at hw ⊢
    split
    · rename_i hd; rw [if_pos hd] at hw; exact ⟨hw.1, ops (fun a h => hQ _ a h) _ _ _ _ hw.2⟩
    · rename_i hd; rw [if_neg hd] at hw; exact ops (fun a h => hQ _ a h) _ _ _ _ hw
  | seq x y ihx ihy =>
    intro Q Q' a h hQ hw
    refine ihx ?_ hw
    intro e a h he
    cases e with
    | normal => exact ihy hQ he
    | exit id => exact hQ _ _ _ he
    | ret => exact hQ _ _ _ he
  | cond c x y ihx ihy =>
    intro Q Q' a h hQ hw
    unfold wpC at hw ⊢
    split
    · rename_i hc; simp only [hc] at hw; exact ihx hQ hw
    · rename_i hc; simp only [hc] at hw; exact ihy hQ hw
    · rename_i h1 h2
      split at hw
      · rename_i hc; exact h1 hc
      · rename_i hc; exact h2 hc
      · exact hw
  | block id c ih =>
    intro Q Q' a h hQ hw
    refine ih ?_ hw
    intro e a h he
    cases e with
    | normal => exact hQ _ _ _ he
    | exit id' => simp only at he ⊢; split <;> rename_i hid <;> simp only [hid, if_true, if_false] at he <;> exact hQ _ _ _ he
    | ret => exact hQ _ _ _ he
  | loop c ih =>
    intro Q Q' a h hQ hw
    obtain ⟨n, hn⟩ := hw
    exact ⟨n, rounds (W := wpC P C c) (fun hQ' hw' => ih hQ' hw') hQ n a h hn⟩
  | exit id => intro Q Q' a h hQ hw; exact hQ _ _ _ hw
  | ret => intro Q Q' a h hQ hw; exact hQ _ _ _ hw
  | rangeFunc g ps as bd _ _ => intro Q Q' a h hQ hw; obtain ⟨h2, hr, hq⟩ := hw; exact ⟨h2, hr, hQ _ _ _ hq⟩
  | _ => intro Q Q' a h hQ hw; exact hw

/-- What a piece of code comes to is one exit, one frame, one heap. -/
theorem wpC_one {C : CallRel} : ∀ (c : Code) {Q : AExit → Act → AHeap → Prop} {a : Act} {h : AHeap}, wpC P C c Q a h → ∃ x a' h', Q x a' h' ∧ wpC P C c (fun y b k => y = x ∧ b = a' ∧ k = h') a h := by
  have ops : ∀ {ops : Array Oper} {chk : Nat → Bool} {K : Act → AHeap → Prop} (l : List Oper) (i : Nat) (a : Act) (h : AHeap), wpA P C ops chk K i l a h → ∃ a' h', K a' h' ∧ wpA P C ops chk (fun b k => b = a' ∧ k = h') i l a h := by
    intro ops chk K l
    induction l with
    | nil => intro i a h hw; exact ⟨a, h, hw, rfl, rfl⟩
    | cons o rest ih =>
      intro i a h hw
      unfold wpA at hw
      split at hw
      · rename_i hwant
        cases hc : acall? a.eval o.op with
        | none =>
          simp only [hc] at hw
          cases hop : aop P a.eval h o.op with
          | none => simp [hop] at hw
          | some p =>
            simp only [hop] at hw
            obtain ⟨a', h', h1, h2⟩ := ih _ _ _ hw
            exact ⟨a', h', h1, by unfold wpA; rw [if_pos hwant]; simp only [hc, hop]; exact h2⟩
        | some q =>
          cases q with
          | none => simp [hc] at hw
          | some q =>
            simp only [hc] at hw
            obtain ⟨v, h₁, h1, h2, h3⟩ := hw
            obtain ⟨a', h', h4, h5⟩ := ih _ _ _ h3
            exact ⟨a', h', h4, by unfold wpA; rw [if_pos hwant]; simp only [hc]; exact ⟨v, h₁, h1, h2, h5⟩⟩
      · rename_i hwant
        obtain ⟨a', h', h1, h2⟩ := ih _ _ _ hw
        exact ⟨a', h', h1, by unfold wpA; rw [if_neg hwant]; exact h2⟩
  intro c
  induction c with
  | skip => intro Q a h hw; exact ⟨_, _, _, hw, rfl, rfl, rfl⟩
  | region id os draw =>
    intro Q a h hw
    unfold wpC at hw
    split at hw
    · rename_i hd
      obtain ⟨a', h', h1, h2⟩ := ops _ _ _ _ hw.2
      refine ⟨.normal, a', h', h1, ?_⟩
      unfold wpC; rw [if_pos hd]
      refine ⟨hw.1, ?_⟩
      simpa using h2
    · rename_i hd
      obtain ⟨a', h', h1, h2⟩ := ops _ _ _ _ hw
      refine ⟨.normal, a', h', h1, ?_⟩
      unfold wpC; rw [if_neg hd]
      simpa using h2
  | seq x y ihx ihy =>
    intro Q a h hw
    obtain ⟨e, a₁, h₁, hq, hx⟩ := ihx hw
    cases e with
    | normal =>
      obtain ⟨e₂, a₂, h₂, hq₂, hy⟩ := ihy hq
      refine ⟨e₂, a₂, h₂, hq₂, ?_⟩
      refine wpC_mono x ?_ hx
      rintro e b k ⟨rfl, rfl, rfl⟩
      exact hy
    | exit id =>
      refine ⟨.exit id, a₁, h₁, hq, wpC_mono x ?_ hx⟩
      rintro e b k ⟨rfl, rfl, rfl⟩
      exact ⟨rfl, rfl, rfl⟩
    | ret =>
      refine ⟨.ret, a₁, h₁, hq, wpC_mono x ?_ hx⟩
      rintro e b k ⟨rfl, rfl, rfl⟩
      exact ⟨rfl, rfl, rfl⟩
  | cond c x y ihx ihy =>
    intro Q a h hw
    unfold wpC at hw
    split at hw
    · rename_i hc
      obtain ⟨e, a', h', h1, h2⟩ := ihx hw
      exact ⟨e, a', h', h1, by unfold wpC; simp only [hc]; exact h2⟩
    · rename_i hc
      obtain ⟨e, a', h', h1, h2⟩ := ihy hw
      exact ⟨e, a', h', h1, by unfold wpC; simp only [hc]; exact h2⟩
    · exact hw.elim
  | block id c ih =>
    intro Q a h hw
    obtain ⟨e, a', h', hq, hc⟩ := ih hw
    cases e with
    | normal =>
      refine ⟨.normal, a', h', hq, wpC_mono c ?_ hc⟩
      rintro e b k ⟨rfl, rfl, rfl⟩
      exact ⟨rfl, rfl, rfl⟩
    | exit id' =>
      by_cases hid : id' = id
      · simp only [hid, if_true] at hq
        refine ⟨.normal, a', h', hq, wpC_mono c ?_ hc⟩
        rintro e b k ⟨rfl, rfl, rfl⟩
        simp [hid]
      · simp only [hid, if_false] at hq
        refine ⟨.exit id', a', h', hq, wpC_mono c ?_ hc⟩
        rintro e b k ⟨rfl, rfl, rfl⟩
        simp [hid]
    | ret =>
      refine ⟨.ret, a', h', hq, wpC_mono c ?_ hc⟩
      rintro e b k ⟨rfl, rfl, rfl⟩
      exact ⟨rfl, rfl, rfl⟩
  | loop c ih =>
    intro Q a h hw
    obtain ⟨n, hn⟩ := hw
    have rounds : ∀ (n : Nat) (a : Act) (h : AHeap), roundsA (wpC P C c) Q n a h → ∃ x a' h', Q x a' h' ∧ roundsA (wpC P C c) (fun y b k => y = x ∧ b = a' ∧ k = h') n a h := by
      intro n
      induction n with
      | zero => intro a h hn; exact hn.elim
      | succ n ihn =>
        intro a h hn
        obtain ⟨e, a₁, h₁, hq, hc⟩ := ih hn
        cases e with
        | normal =>
          obtain ⟨x, a', h', h1, h2⟩ := ihn _ _ hq
          refine ⟨x, a', h', h1, wpC_mono c ?_ hc⟩
          rintro e b k ⟨rfl, rfl, rfl⟩
          exact h2
        | exit id =>
          refine ⟨_, a₁, h₁, hq, wpC_mono c ?_ hc⟩
          rintro e b k ⟨rfl, rfl, rfl⟩
          exact ⟨rfl, rfl, rfl⟩
        | ret =>
          refine ⟨_, a₁, h₁, hq, wpC_mono c ?_ hc⟩
          rintro e b k ⟨rfl, rfl, rfl⟩
          exact ⟨rfl, rfl, rfl⟩
    obtain ⟨x, a', h', h1, h2⟩ := rounds n a h hn
    exact ⟨x, a', h', h1, n, h2⟩
  | exit id => intro Q a h hw; exact ⟨_, _, _, hw, rfl, rfl, rfl⟩
  | ret => intro Q a h hw; exact ⟨_, _, _, hw, rfl, rfl, rfl⟩
  | rangeFunc g ps as bd _ _ => intro Q a h hw; obtain ⟨h2, hr, hq⟩ := hw; exact ⟨_, _, _, hq, h2, hr, rfl, rfl, rfl⟩
  | _ => intro Q a h hw; exact hw.elim

theorem wpC_next {C : CallRel} (hC : NextC C) {N : Nat} : ∀ (c : Code) {Q : AExit → Act → AHeap → Prop} {a : Act} {h : AHeap}, (∀ x a h, Q x a h → h.next ≤ N) → wpC P C c Q a h → h.next ≤ N := by
  intro c
  induction c with
  | skip => intro Q a h hQ hw; exact hQ _ _ _ hw
  | region id os draw =>
    intro Q a h hQ hw
    unfold wpC at hw
    split at hw
    · exact wpA_next hC (fun a h => hQ _ a h) _ _ _ _ hw.2
    · exact wpA_next hC (fun a h => hQ _ a h) _ _ _ _ hw
  | seq x y ihx ihy =>
    intro Q a h hQ hw
    refine ihx ?_ hw
    intro e a h he
    cases e with
    | normal => exact ihy hQ he
    | exit id => exact hQ _ _ _ he
    | ret => exact hQ _ _ _ he
  | cond c x y ihx ihy =>
    intro Q a h hQ hw
    unfold wpC at hw
    split at hw
    · exact ihx hQ hw
    · exact ihy hQ hw
    · exact hw.elim
  | block id c ih =>
    intro Q a h hQ hw
    refine ih ?_ hw
    intro e a h he
    cases e with
    | normal => exact hQ _ _ _ he
    | exit id' => simp only at he; split at he <;> exact hQ _ _ _ he
    | ret => exact hQ _ _ _ he
  | loop c ih =>
    intro Q a h hQ hw
    obtain ⟨n, hn⟩ := hw
    induction n generalizing a h with
    | zero => exact hn.elim
    | succ n ihn =>
      refine ih ?_ hn
      intro e a h he
      cases e with
      | normal => exact ihn he
      | exit id => exact hQ _ _ _ he
      | ret => exact hQ _ _ _ he
  | exit id => intro Q a h hQ hw; exact hQ _ _ _ hw
  | ret => intro Q a h hQ hw; exact hQ _ _ _ hw
  | rangeFunc g ps as bd _ _ => intro Q a h hQ hw; obtain ⟨h2, hr, hq⟩ := hw; exact Nat.le_trans hr.1 (hQ _ _ _ hq)
  | _ => intro Q a h hQ hw; exact hw.elim

/-- May it be walked here? -/
def regs (rng : Bool) (Rg : Array Oper → Bool → Bool) : Code → Bool
  | .region _ os draw => os.toList.all notDefer && okOps os && Rg os draw
  | .seq x y => regs rng Rg x && regs rng Rg y
  | .cond c x y => okOpd c && regs rng Rg x && regs rng Rg y
  | .block _ c => regs rng Rg c
  | .loop c => regs rng Rg c
  | .rangeFunc _ _ _ _ => rng
  | _ => true

theorem okCode_regs : ∀ {c : Code}, okCode c = true → regs true (fun _ _ => true) c = true := by
  intro c
  induction c with
  | region id os draw => intro h; simp only [okCode, regs, Bool.and_true] at h ⊢; exact h
  | seq x y ihx ihy => intro h; simp only [okCode, regs, Bool.and_eq_true] at h ⊢; exact ⟨ihx h.1, ihy h.2⟩
  | cond c x y ihx ihy => intro h; simp only [okCode, regs, Bool.and_eq_true] at h ⊢; exact ⟨⟨h.1.1, ihx h.1.2⟩, ihy h.2⟩
  | block id c ih => intro h; exact ih h
  | loop c ih => intro h; exact ih h
  | _ => intro h; rfl
/-- What regions come to. -/
def SimR (P : Program) (C : CallRel) (Inv : PMap → AHeap → World → Prop) (Rg : Array Oper → Bool → Bool) (r : Option Nat) : Prop :=
  ∀ id os draw (B N n : Nat) (Q : AExit → Act → AHeap → Prop) (a : Act) (h : AHeap) (ι : PMap) (w : World) (a' : Act) (Ds : List Deferred), Rg os draw = true → os.toList.all notDefer = true → okOps os = true →
    (∀ x a h, Q x a h → h.next ≤ N) → wpC P C (.region id os draw) Q a h → HR ι h w → Inv ι h w → Bd N ι h → ER ι a a' → Marks B ι h w Ds → (Code.region id os draw).wpIn (FR r) n P (Lift B N ι h w Q) (dfr Ds a') w

/-- A piece of code. -/
theorem sim_code {C : CallRel} (hC : NextC C) {Inv : PMap → AHeap → World → Prop} (hInv : ∀ {ι h w ι' h' w'}, Step ι h w ι' h' w' → Inv ι h w → Inv ι' h' w') {Rg : Array Oper → Bool → Bool} {r : Option Nat} (hR : SimR P C Inv Rg r) {rng : Bool} (hrng : rng = true → r = none) {B N n : Nat} :
    ∀ (c : Code) {Q : AExit → Act → AHeap → Prop} {a : Act} {h : AHeap} {ι : PMap} {w : World} {a' : Act} {Ds : List Deferred},
    (∀ x a h, Q x a h → h.next ≤ N) → wpC P C c Q a h → regs rng Rg c = true → HR ι h w → Inv ι h w → Bd N ι h → B ≤ w.heap.size → ER ι a a' → Marks B ι h w Ds → c.wpIn (FR r) n P (Lift B N ι h w Q) (dfr Ds a') w := by
  intro c
  induction c with
  | skip => intro Q a h ι w a' Ds hN hw _ hr hi hb hB he hm; exact wpIn_skip (.mk (x := .normal) (.refl hr) hb he hm hw)
  | region id os draw =>
    intro Q a h ι w a' Ds hN hw hok hr hi hb hB he hm
    simp only [regs, Bool.and_eq_true] at hok
    exact hR id os draw B N n Q a h ι w a' Ds hok.2 hok.1.1 hok.1.2 hN hw hr hi hb he hm
  | seq x y ihx ihy =>
    intro Q a h ι w a' Ds hN hw hok hr hi hb hB he hm
    simp only [regs, Bool.and_eq_true] at hok
    refine wpIn_seq (wpIn_mono (ihx ?_ hw hok.1 hr hi hb hB he hm) ?_)
    · intro e a h he
      cases e with
      | normal => exact wpC_next hC y hN he
      | exit id => exact hN _ _ _ he
      | ret => exact hN _ _ _ he
    · rintro e a₁' w₁ ⟨x₁, ι₁, a₁, h₁, a₀, Ds₁, rfl, rfl, hs, hb₁, he₁, hm₁, hq⟩
      cases x₁ with
      | normal =>
        refine wpIn_mono (ihy hN hq hok.2 hs.hr (hInv hs hi) hb₁ (Nat.le_trans hB hs.size) he₁ hm₁) ?_
        rintro e a₂' w₂ ⟨x₂, ι₂, a₂, h₂, a₀', Ds₂, rfl, rfl, hs₂, hb₂, he₂, hm₂, hq₂⟩
        exact .mk (hs.trans hs₂) hb₂ he₂ hm₂ hq₂
      | exit id => exact .mk (x := .exit id) hs hb₁ he₁ hm₁ hq
      | ret => exact .mk (x := .ret) hs hb₁ he₁ hm₁ hq
  | cond c x y ihx ihy =>
    intro Q a h ι w a' Ds hN hw hok hr hi hb hB he hm
    simp only [regs, Bool.and_eq_true] at hok
    have hc := he.eval hok.1.1
    have hev : ∀ o, (dfr Ds a').eval o = a'.eval o := fun o => by cases o <;> rfl
    unfold wpC at hw
    split at hw
    · rename_i hcv
      rw [hcv] at hc
      exact wpIn_cond_true ((hev _).trans hc.bool_inv) (ihx hN hw hok.1.2 hr hi hb hB he hm)
    · rename_i hcv
      rw [hcv] at hc
      exact wpIn_cond_false ((hev _).trans hc.bool_inv) (ihy hN hw hok.2 hr hi hb hB he hm)
    · exact hw.elim
  | block id c ih =>
    intro Q a h ι w a' Ds hN hw hok hr hi hb hB he hm
    refine wpIn_block (wpIn_mono (ih ?_ hw hok hr hi hb hB he hm) ?_)
    · intro e a h he
      cases e with
      | normal => exact hN _ _ _ he
      | exit id' => simp only at he; split at he <;> exact hN _ _ _ he
      | ret => exact hN _ _ _ he
    · rintro e a₁' w₁ ⟨x₁, ι₁, a₁, h₁, a₀, Ds₁, rfl, rfl, hs, hb₁, he₁, hm₁, hq⟩
      cases x₁ with
      | normal => exact .mk (x := .normal) hs hb₁ he₁ hm₁ hq
      | exit id' =>
        simp only at hq
        simp only [AExit.toExit, Exit.inBlock]
        split
        · rename_i hid; rw [if_pos hid] at hq; exact .mk (x := .normal) hs hb₁ he₁ hm₁ hq
        · rename_i hid; rw [if_neg hid] at hq; exact .mk (x := .exit id') hs hb₁ he₁ hm₁ hq
      | ret => exact .mk (x := .ret) hs hb₁ he₁ hm₁ hq
  | loop c ih =>
    intro Q a h ι w a' Ds hN hw hok hr hi hb hB he hm
    obtain ⟨m, hn⟩ := hw
    refine wpIn_loop_rounds m ?_
    have key : ∀ (m : Nat) (a : Act) (h₁ : AHeap) (ι₁ : PMap) (w₁ : World) (a' : Act) (Ds : List Deferred), roundsA (wpC P C c) Q m a h₁ → Step ι h w ι₁ h₁ w₁ → Bd N ι₁ h₁ → ER ι₁ a a' → Marks B ι₁ h₁ w₁ Ds → Code.roundsIn (FR r) n P c (Lift B N ι h w Q) m (dfr Ds a') w₁ := by
      intro m
      induction m with
      | zero => intro a h₁ ι₁ w₁ a' Ds hn; exact hn.elim
      | succ m ihn =>
        intro a h₁ ι₁ w₁ a' Ds hn hs hb₁ he₁ hm₁
        rw [roundsIn_succ]
        refine wpIn_mono (ih ?_ hn hok hs.hr (hInv hs hi) hb₁ (Nat.le_trans hB hs.size) he₁ hm₁) ?_
        · intro e a h he
          cases e with
          | normal => exact wpC_next hC (.loop c) hN ⟨m, he⟩
          | exit id => exact hN _ _ _ he
          | ret => exact hN _ _ _ he
        · rintro e a₂' w₂ ⟨x₂, ι₂, a₂, h₂, a₀, Ds₂, rfl, rfl, hs₂, hb₂, he₂, hm₂, hq⟩
          cases x₂ with
          | normal => exact ihn a₂ h₂ ι₂ w₂ _ _ hq (hs.trans hs₂) hb₂ he₂ hm₂
          | exit id => exact .mk (x := .exit id) (hs.trans hs₂) hb₂ he₂ hm₂ hq
          | ret => exact .mk (x := .ret) (hs.trans hs₂) hb₂ he₂ hm₂ hq
    exact key m a h ι w a' Ds hn (.refl hr) hb he hm
  | exit id => intro Q a h ι w a' Ds hN hw _ hr hi hb hB he hm; exact wpIn_exit (.mk (x := .exit id) (.refl hr) hb he hm hw)
  | ret => intro Q a h ι w a' Ds hN hw _ hr hi hb hB he hm; exact wpIn_ret (.mk (x := .ret) (.refl hr) hb he hm hw)
  | rangeFunc g ps as bd _ _ =>
    intro Q a h ι w a' Ds hN hw hok hr hi hb hB he hm
    obtain rfl := hrng hok
    obtain ⟨h2, hg, hq⟩ := hw
    have hle := hN _ _ _ hq
    refine wpIn_mono (hg.2 ι w a' n Ds hr (fun id h1 h3 => hb id h1 (by omega)) he) ?_
    rintro e a₁ W ⟨rfl, ι', rfl, hs, ha⟩
    refine .mk (x := .normal) hs (hb.step hs) (he.mono hs.ext) ?_ hq
    obtain ⟨bs, rfl, hnd, hbs⟩ := hm
    refine ⟨w.heap.size :: bs, rfl, List.nodup_cons.2 ⟨fun e => ?_, hnd⟩, fun b hb' => ?_⟩
    · have := (hbs _ e).2.lt; omega
    · rcases List.mem_cons.1 hb' with rfl | hb'
      · exact ⟨hB, ha⟩
      · exact ⟨(hbs b hb').1, (hbs b hb').2.step hs⟩
  | _ => intro Q a h ι w a' Ds hN hw; exact hw.elim

/-- Regions, where calls are of Go functions. -/
theorem simR_plain {C : CallRel} (hC : SimC P C) (hm : P.follows .mixedOrders = true) {r : Option Nat} : SimR P C (fun _ _ _ => True) (fun _ _ => true) r := by
  intro id os draw B N n Q a h ι w a' Ds _ hnd hok hN hw hr _ hb he hmk
  have hend : ∀ ι' h' w' a₁ a₁', Step ι h w ι' h' w' → Bd N ι' h' → ER ι' a₁ a₁' → Q .normal a₁ h' → (fun (e : Exit) (a₁' : Act) (w' : World) => e = .normal ∧ ∃ ι' a₁ h', Step ι h w ι' h' w' ∧ Bd N ι' h' ∧ ER ι' a₁ a₁' ∧ Q .normal a₁ h') .normal a₁' w' :=
    fun ι' h' w' a₁ a₁' h1 h2 h3 h4 => ⟨rfl, ι', a₁, h', h1, h2, h3, h4⟩
  have hQ : ∀ e a₁ w₁, (fun (e : Exit) (a₁' : Act) (w' : World) => e = .normal ∧ ∃ ι' a₁ h', Step ι h w ι' h' w' ∧ Bd N ι' h' ∧ ER ι' a₁ a₁' ∧ Q .normal a₁ h') e a₁ w₁ → Lift B N ι h w Q e (dfr Ds a₁) w₁ := by
    rintro e a₁' w₁ ⟨rfl, ι', a₁, h', h1, h2, h3, h4⟩
    exact .mk (x := .normal) h1 h2 h3 (hmk.step h1) h4
  have hlo : ¬ LetsOut (fun (e : Exit) (a₁' : Act) (w' : World) => e = .normal ∧ ∃ ι' a₁ h', Step ι h w ι' h' w' ∧ Bd N ι' h' ∧ ER ι' a₁ a₁' ∧ Q .normal a₁ h') := by
    rintro ⟨a, w', e, _⟩; cases e
  unfold wpC at hw
  cases draw with
  | true =>
    simp only [if_true] at hw
    exact wpIn_region_any hm (any_fr hlo hQ hnd _ _ _ _ (sim_drawA hC hw.1 hok hw.2 (fun a h => hN _ a h) hr hb he hend))
  | false =>
    simp only [Bool.false_eq_true, if_false] at hw
    exact wpIn_region_list (list_fr hlo hQ _ _ _ hnd (sim_list hC (fun a h => hN _ a h) os.toList 0 a h ι w a' hw hok hr hb he hend))

/-- The results of a function. -/
def aresult (P : Program) (h : AHeap) (a : Act) : ResultVar → Option Value
  | .tmp t => some (a.tmps.getD t undef)
  | .cell p t => match a.tmps.getD p undef with | .pointer (some ⟨id, off, none⟩) => aload P t h id off | _ => none

def aresultList (P : Program) (h : AHeap) (a : Act) : List ResultVar → Option (List Value)
  | [] => some []
  | r :: rs =>
    match aresult P h a r, aresultList P h a rs with
    | some v, some vs => some (v :: vs)
    | _, _ => none

def aresults (P : Program) (fn : Func) (h : AHeap) (a : Act) : Option Value :=
  match aresultList P h a fn.results.toList with
  | some [v] => some v
  | some vs => some (.tuple vs.toArray)
  | none => none

theorem sim_results {fn : Func} {h : AHeap} {a a' : Act} {ι : PMap} {w : World} {v : Value} (hr : HR ι h w) (he : ER ι a a') (hv : aresults P fn h a = some v) : ∃ v', (results fn a'.tmps).run P w = .ok v' w ∧ VR ι v v' := by
  have list : ∀ (rs : List ResultVar) (vs : List Value), aresultList P h a rs = some vs → ∃ vs' : List Value, (rs.mapM (fun (r : ResultVar) => match r with
      | .tmp t => (pure (a'.tmps.getD t undef) : Sem Value)
      | .cell p t => do loadVar t (← asAddr (a'.tmps.getD p undef)))).run P w = .ok vs' w ∧ VRL ι vs vs' := by
    intro rs
    induction rs with
    | nil => intro vs h1; simp [aresultList] at h1; subst h1; exact ⟨[], rfl, .nil _⟩
    | cons r rs ih =>
      intro vs h1
      unfold aresultList at h1
      split at h1
      · rename_i v0 vs0 hv0 hvs0
        cases h1
        obtain ⟨vs', h2, h3⟩ := ih _ hvs0
        have : ∃ v', ((match r with
            | .tmp t => (pure (a'.tmps.getD t undef) : Sem Value)
            | .cell p t => do loadVar t (← asAddr (a'.tmps.getD p undef)))).run P w = .ok v' w ∧ VR ι v0 v' := by
          cases r with
          | tmp t => simp only [aresult, Option.some.injEq] at hv0; subst hv0; exact ⟨_, rfl, he.slot t⟩
          | cell p t =>
            simp only [aresult] at hv0
            split at hv0
            · rename_i id off hp
              have hx := he.slot p
              rw [hp] at hx
              obtain ⟨pl, hι, _, hx'⟩ := hx.ptr_inv
              obtain ⟨v', h4, h5⟩ := sim_load (w := w) hv0 (hr.obj _ _ hι)
              refine ⟨v', ?_, h5⟩
              simp only [hx', asAddr, Sem.run_bind, Sem.run_pure, Result.andThen_ok]
              exact h4
            · cases hv0
        obtain ⟨v', h4, h5⟩ := this
        refine ⟨v' :: vs', ?_, .cons h5 h3⟩
        rw [List.mapM_cons]
        simp only [Sem.run_bind, h4, h2, Result.andThen_ok, Sem.run_pure]
      · cases h1
  unfold aresults at hv
  have run : ∀ {vs : List Value}, aresultList P h a fn.results.toList = some vs → ∃ vs' : List Value, VRL ι vs vs' ∧ (results fn a'.tmps).run P w = .ok (if h : vs'.toArray.size = 1 then vs'.toArray[0] else .tuple vs'.toArray) w := by
    intro vs hvs
    obtain ⟨vs', h1, h2⟩ := list _ _ hvs
    refine ⟨vs', h2, ?_⟩
    unfold results
    rw [Array.mapM_eq_mapM_toList]
    simp only [Sem.run_bind, Sem.run_map]
    have g : ∀ r : Result (List Value), r = .ok vs' w → ((r.andThen fun a w' => .ok a.toArray w').andThen fun (a : Array Value) w' => Sem.run P (pure (if h : a.size = 1 then a[0] else .tuple a)) w') = .ok (if h : vs'.toArray.size = 1 then vs'.toArray[0] else .tuple vs'.toArray) w := by
      rintro _ rfl; rfl
    exact g _ h1
  split at hv
  · rename_i v0 hvs
    cases hv
    obtain ⟨vs', h1, h2⟩ := run hvs
    obtain ⟨v', r, rfl, h3, h4⟩ := h1.cons_inv
    rw [h4.nil_inv] at h2
    exact ⟨v', h2, h3⟩
  · rename_i vs hne hvs
    cases hv
    obtain ⟨vs', h1, h2⟩ := run hvs
    have hlen : vs'.length ≠ 1 := by
      intro e
      have : vs.length = 1 := by rw [h1.1]; exact e
      match vs, this with
      | [x], _ => exact hne x rfl
    rw [dif_neg (by simpa using hlen)] at h2
    exact ⟨_, h2, .of_tuple (.toArray h1)⟩
  · cases hv

/-- WHAT A CALL OF A FUNCTION COMES TO: from these arguments and this heap, this value and this heap; whatever memory stands behind them, and whatever the tape answers. -/
def Runs (P : Program) : CallRel := fun g args h v h' => enters P g ∧ h.next ≤ h'.next ∧ ∀ ι w args', HR ι h w → VRA ι args args' → (∀ id, h.next ≤ id → id < h'.next → ι id = none) →
  Calls P g args' w fun e w' => ∃ ι' v', e = .returned v' ∧ Step ι h w ι' h' w' ∧ VR ι' v v'

/-- .. or a call of a loop's body. -/
def RY (P : Program) (Y : CallRel) : CallRel := fun g args h v h' => Runs P g args h v h' ∨ Y g args h v h'
def noY : CallRel := fun _ _ _ _ _ => False
theorem simC_ry : SimC P (RY P noY) := fun _ _ _ _ _ h => h.elim id (fun e => e.elim)

theorem simC_runs : SimC P (Runs P) := fun _ _ _ _ _ h => h

/-- A call comes to something of which this holds. -/
def Does (P : Program) (g : FuncId) (args : Array Value) (h : AHeap) (Post : Value → AHeap → Prop) : Prop := ∃ v h', Runs P g args h v h' ∧ Post v h'

def frame0 (fn : Func) (args : Array Value) : Act := { tmps := args ++ Array.replicate (fn.ntmps - args.size) undef, defers := [] }

/-- The post of a body. -/
def BodyQ (P : Program) (fn : Func) (Post : Value → AHeap → Prop) : AExit → Act → AHeap → Prop
  | .normal, a, h | .ret, a, h => ∃ v, aresults P fn h a = some v ∧ Post v h
  | .exit _, _, _ => False

theorem calls_of_body {C : CallRel} (hC : NextC C) {Inv : PMap → AHeap → World → Prop} (hInv : ∀ {ι h w ι' h' w'}, Step ι h w ι' h' w' → Inv ι h w → Inv ι' h' w') {Rg : Array Oper → Bool → Bool} (hR : SimR P C Inv Rg none) {g : FuncId} {fn : Func} {c : Code} (hf : P.funcs[g]? = some fn) (hb : fn.body = some c) (hok : regs true Rg c = true)
    {args : Array Value} {h h₁ : AHeap} {a₁ : Act} {x : AExit} {v : Value} (hx : x = .normal ∨ x = .ret) (hv : aresults P fn h₁ a₁ = some v) (hw : wpC P C c (fun y b k => y = x ∧ b = a₁ ∧ k = h₁) (frame0 fn args) h)
    {ι : PMap} {w : World} {args' : Array Value} {n : Nat} (hr : HR ι h w) (hi : Inv ι h w) (hargs : VRA ι args args') (hfr : ∀ id, h.next ≤ id → id < h₁.next → ι id = none) :
    CallsIn (FR none) n P g args' w fun e w' => ∃ ι' v', e = .returned v' ∧ Step ι h w ι' h₁ w' ∧ VR ι' v v' := by
  refine callsIn_of_wp_marks hf hb trivial ?_
  have he : ER ι (frame0 fn args) { tmps := args' ++ Array.replicate (fn.ntmps - args'.size) undef, defers := [] } := by
    refine ⟨?_, rfl, rfl⟩
    rw [show args'.size = args.size from hargs.1.symm]
    exact hargs.append (⟨rfl, fun i h1 h2 => by simp only [Array.getElem_replicate]; exact .undef⟩)
  refine wpIn_mono (sim_code hC hInv hR (rng := true) (fun _ => rfl) (N := h₁.next) (B := w.heap.size) (Ds := []) c (fun y b k hy => by rw [hy.2.2]; exact Nat.le_refl _) hw hok hr hi hfr (Nat.le_refl _) he .nil) ?_
  rintro e a' w' ⟨y, ι', b, k, a₀, Ds, rfl, rfl, hs, _, her, ⟨bs, rfl, hnd, hbs⟩, rfl, rfl, rfl⟩
  have post : LeavesInM (FR none) n P fn a₀.tmps (fun e w' => ∃ ι' v', e = .returned v' ∧ Step ι h w ι' k w' ∧ VR ι' v v') (bs.map mark) .returning w' := by
    refine leaves_marks (fun w'' hs' => ?_) bs w' hnd hbs hs
    obtain ⟨v', h2, h3⟩ := sim_results (P := P) hs'.hr her hv
    exact ⟨v', h2, ι', v', rfl, hs', h3⟩
  have hd : (dfr (bs.map mark) a₀).defers = bs.map mark := by show a₀.defers ++ _ = _; rw [her.d']; rfl
  rcases hx with rfl | rfl
  · show LeavesInM _ _ _ _ a₀.tmps _ (dfr (bs.map mark) a₀).defers _ _; rw [hd]; exact post
  · show LeavesInM _ _ _ _ a₀.tmps _ (dfr (bs.map mark) a₀).defers _ _; rw [hd]; exact post

theorem spec_of_body {C : CallRel} (hC : SimC P C) (hm : P.follows .mixedOrders = true) {g : FuncId} (hg : g < 18446744073709551616) {fn : Func} {c : Code} (hf : P.funcs[g]? = some fn) (hn : (fn.name == "runtime.NumGoroutine") = false) (hb : fn.body = some c) (hok : okCode c = true)
    {args : Array Value} {h : AHeap} {Post : Value → AHeap → Prop} (hw : wpC P C c (BodyQ P fn Post) (frame0 fn args) h) : Does P g args h Post := by
  obtain ⟨x, a₁, h₁, hq, hw₁⟩ := wpC_one c hw
  have hx : (x = .normal ∨ x = .ret) ∧ ∃ v, aresults P fn h₁ a₁ = some v ∧ Post v h₁ := by
    cases x with
    | normal => exact ⟨.inl rfl, hq⟩
    | ret => exact ⟨.inr rfl, hq⟩
    | exit id => exact hq.elim
  obtain ⟨hx, v, hv, hp⟩ := hx
  have hnx : h.next ≤ h₁.next := wpC_next hC.nx c (fun y b k hy => by rw [hy.2.2]; exact Nat.le_refl _) hw₁
  refine ⟨v, h₁, ⟨⟨fn, hf, hn, by rw [hb]; rfl, hg⟩, hnx, fun ι w args' hr hargs hfr => ?_⟩, hp⟩
  exact (callsIn_wide (n := 0)).1 (calls_of_body hC.nx (Inv := fun _ _ _ => True) (fun _ _ => trivial) (simR_plain hC hm) hf hb (okCode_regs hok) hx hv hw₁ hr trivial hargs hfr)

end
end Go.AM
