/- AM: from what a law comes to, to what is claimed of it. -/
import Derived.Test.YtfdbadpiklmbaaaAmLawA
import Derived.Handed
import Derived.JoinedOf
import Derived.JoinedCond
import Derived.ProofKit
import Derived.OpenShut
set_option linter.unusedSimpArgs false
set_option linter.unusedVariables false
set_option linter.unnecessarySimpa false
set_option maxRecDepth 100000
namespace Go.AM
open Go.ChangeShapes Go.WideShapes Go.RowKit

def ofCells (ag : Bool) (acs : List Value) : Value := if ag then .agg acs.toArray else acs.headD undef

def shapesOf (P : Program) (ts : List TypeId) : Option (List (Bool × Sh)) := ts.mapM fun t => (shapeOf P 9 t).map fun s => (aggT P t == some true, s)

section
variable {H : Type}

def RdA (h : AHeap) : List (Bool × Sh) → List Value → List (DataW H) → Prop
  | [], vs, ds => vs = [] ∧ ds = []
  | p :: ss, vs, ds => ∃ (acs : List Value) (vs' : List Value) (d : DataW H) (ds' : List (DataW H)), vs = ofCells p.1 acs :: vs' ∧ ds = d :: ds' ∧ Rd h p.2 acs d ∧ RdA h ss vs' ds'

theorem RdA.mono {h h' : AHeap} (hq : h.quiet h') : ∀ {ss : List (Bool × Sh)} {vs : List Value} {ds : List (DataW H)}, RdA h ss vs ds → RdA h' ss vs ds := by
  intro ss
  induction ss with
  | nil => intro vs ds hr; exact hr
  | cons p ss ih =>
    intro vs ds hr
    obtain ⟨acs, vs', d, ds', h1, h2, h3, h4⟩ := hr
    exact ⟨acs, vs', d, ds', h1, h2, h3.mono hq, ih h4⟩

theorem RdA.length {h : AHeap} : ∀ {ss : List (Bool × Sh)} {vs : List Value} {ds : List (DataW H)}, RdA h ss vs ds → ds.length = ss.length ∧ vs.length = ss.length := by
  intro ss
  induction ss with
  | nil => intro vs ds hr; obtain ⟨rfl, rfl⟩ := hr; exact ⟨rfl, rfl⟩
  | cons p ss ih =>
    intro vs ds hr
    obtain ⟨acs, vs', d, ds', rfl, rfl, h3, h4⟩ := hr
    simp [(ih h4).1, (ih h4).2]

theorem VR_ofCells {ι : PMap} {P : Program} {w : World} {t : TypeId} {n : Nat} {s : Sh} {acs : List Value} {v : Value} {base : Nat} (hs : shapeOf P n t = some s) (hok : Value.okWide P w .any base t v) (hv : VRL ι acs v.cells.toList) : VR ι (ofCells (aggT P t == some true) acs) v := by
  have single : (aggT P t == some true) = false → v.cells = #[v] → VR ι (ofCells (aggT P t == some true) acs) v := by
    intro h1 h2
    rw [h2] at hv
    match acs, hv with
    | [a], hv => simp only [ofCells, h1, Bool.false_eq_true, if_false, List.headD_cons]; exact hv.2 0 (by simp) (by simp)
    | [], hv => exact absurd hv.1 (by simp)
    | _ :: _ :: _, hv => exact absurd hv.1 (by simp)
  cases n with
  | zero => cases hs
  | succ n =>
    unfold shapeOf at hs
    split at hs
    · rename_i hu
      obtain ⟨b, rfl⟩ := okWide_bool hu hok
      exact single (by simp [aggT, hu]) rfl
    · rename_i k hu
      obtain ⟨b, rfl⟩ := okWide_int hu hok
      exact single (by simp [aggT, hu]) rfl
    · rename_i hu
      obtain ⟨b, rfl⟩ := okWide_string hu hok
      exact single (by simp [aggT, hu]) rfl
    · rename_i e hu
      obtain ⟨a, len, cap, rfl⟩ := okWide_slice hu hok
      exact single (by simp [aggT, hu]) rfl
    · rename_i fs hu
      simp only [Value.okWide, hu] at hok
      obtain ⟨cs, rfl, _⟩ := hok
      simp only [aggT, hu, ofCells, Option.map_some, beq_self_eq_true, if_true]
      exact .of_agg (VRA_iff.2 (by simpa [Value.cells] using hv))
    · rename_i m e hu
      simp only [Value.okWide, hu] at hok
      obtain ⟨cs, rfl, _⟩ := hok
      simp only [aggT, hu, ofCells, Option.map_some, beq_self_eq_true, if_true]
      exact .of_agg (VRA_iff.2 (by simpa [Value.cells] using hv))
    · cases hs

theorem embA {enc : TypeId × Value → H} {P : Program} {w : World} {base : Nat} : ∀ (ts : List TypeId) {ss : List (Bool × Sh)} {vs : List Value} {ds : List (DataW H)} {ps : List MemPlace}, shapesOf P ts = some ss →
    DataW.TrodAll enc P w 0 (fun _ => true) true ts vs ds ps → (∀ (j : Nat) (t : TypeId) (v : Value), ts[j]? = some t → vs[j]? = some v → Value.okWide P w .any base t v) →
    ∀ ι h, Init ι h w → ∃ (ι' : PMap) (h' : AHeap) (avs : List Value), Init ι' h' w ∧ ι.le ι' ∧ h.quiet h' ∧ VRL ι' avs vs ∧ RdA h' ss avs ds
  | [], ss, vs, ds, ps, hs, ht, _, ι, h, hi => by
    simp [shapesOf] at hs
    subst hs
    obtain ⟨rfl, rfl, rfl⟩ := trodAll_nil ht
    exact ⟨ι, h, [], hi, PMap.le_refl _, .refl _, .nil _, rfl, rfl⟩
  | t :: ts, ss, vs, ds, ps, hs, ht, hok, ι, h, hi => by
    unfold shapesOf at hs
    rw [List.mapM_cons] at hs
    cases hst : shapeOf P 9 t with
    | none => simp [hst] at hs
    | some s =>
      cases hsts : shapesOf P ts with
      | none => unfold shapesOf at hsts; simp [hst, hsts] at hs
      | some ss' =>
        have hsts' := hsts
        unfold shapesOf at hsts'
        simp [hst, hsts'] at hs
        subst hs
        obtain ⟨v, vs', d, ds', p, q, rfl, rfl, rfl, ⟨fuel, h1⟩, h2⟩ := trodAll_cons ht
        obtain ⟨ι₁, h₁, acs, k1, k2, k3, k4, k5⟩ := emb 9 hst h1 ι h hi
        obtain ⟨ι₂, h₂, avs, l1, l2, l3, l4, l5⟩ := embA ts hsts h2 (fun j t v hj hv => hok (j + 1) t v (by simpa using hj) (by simpa using hv)) ι₁ h₁ k1
        exact ⟨ι₂, h₂, _ :: avs, l1, PMap.le_trans k2 l2, k3.trans l3, .cons (VR_ofCells hst (hok 0 t v rfl rfl) (k4.mono l2)) l4, acs, avs, d, ds', rfl, rfl, k5.mono l3, l5⟩

theorem trodAll_stays {enc : TypeId × Value → H} {P : Program} (hl : laidOutB P = true) {W W' : World} {sp : Nat → Bool} : ∀ (ts : List TypeId) {vs : List Value} {ds : List (DataW H)} {ps : List MemPlace},
    (ts.all fun t => P.readableRec t && decide (t < P.types.size)) = true → DataW.TrodAll enc P W 0 (fun _ => true) true ts vs ds ps → (∀ p ∈ ps, W.sameAt W' p) → (∀ p ∈ ps, sp p.block = true) →
    DataW.TrodAll enc P W' 0 sp true ts vs ds ps
  | [], vs, ds, ps, _, h, _, _ => by
    obtain ⟨rfl, rfl, rfl⟩ := trodAll_nil h
    exact rfl
  | t :: ts, vs, ds, ps, hr, h, hsame, hsp => by
    simp only [List.all_cons, Bool.and_eq_true, decide_eq_true_eq] at hr
    obtain ⟨v, vs', d, ds', p, q, rfl, rfl, rfl, h1, h2⟩ := trodAll_cons h
    exact ⟨p, q, WideElems.Trod_stays hl hr.1.1 hr.1.2 h1 (fun x hx => hsame x (by simp [hx])) (fun x hx => hsp x (by simp [hx])),
      trodAll_stays hl ts hr.2 h2 (fun x hx => hsame x (by simp [hx])) (fun x hx => hsp x (by simp [hx])), rfl⟩

/-- What a law leaves: true; and nothing of what was there is turned. -/
theorem post_true {enc : TypeId × Value → H} {P : Program} {f : Func} {s : ChangeSpec} {apart fresh handsOn again : Bool} {W W' : World} {args : Array Value} {ds gs : List (DataW H)} {before : List MemPlace} {tb : TypeId}
    (hl : laidOutB P = true) (hread : (f.params.toList.all fun t => P.readableRec t && decide (t < P.types.size)) = true) (hres : f.resultTypes = #[tb]) (hb : P.underlying tb = some .bool) (hvars : s.vars = [])
    (hfn : s.fn H ds = { results := [.lit (.bool true)], args := ds })
    (hW : DataW.Whole enc P f.params.toList s.vars apart W args.toList ds gs before) (hbel : Below W.heap.size W W') :
    s.post enc P f apart fresh handsOn again W args (.bool true) W' := by
  have hlt : ∀ p ∈ before, p.block < W.heap.size := fun p hp => hW.lt p hp
  have hW' := hW
  obtain ⟨p, q, hA, hV, rfl, hz, hn⟩ := hW
  rw [hvars] at hV
  obtain ⟨rfl, rfl⟩ := trodVars_none hV
  simp only [List.append_nil] at hz hn hlt
  have e : ds ++ [] = ds := by simp
  have hargs : ∀ sp : Nat → Bool, (∀ x ∈ p, sp x.block = true) → DataW.TrodAll enc P W' 0 sp true f.params.toList args.toList ds p :=
    fun sp hsp => trodAll_stays hl _ hread hA (fun x hx => hbel.same (hlt x hx)) hsp
  have hr : ∀ (b : Nat) (sp : Nat → Bool) (hd : Bool), DataW.TrodAll enc P W' b sp hd f.resultTypes.toList ((Value.bool true).resultList f.resultTypes.size) [.lit (.bool true)] [] := by
    intro b sp hd
    rw [hres]
    exact trodAll_cons_mk (shut_bool hb true) trodAll_mk0
  have hold : ∀ x ∈ p, (fun b => decide (b < W.heap.size)) x.block = true := fun x hx => by simpa using hlt x hx
  refine ⟨ds, [], p ++ [], [], p, [], hW', ?_, ?_, ?_, World.keptBut_mono (fun x hx => ⟨hx, ?_⟩) (hbel.frame (· ∈ p ++ [])), fun _ => ?_⟩
  · rw [e, hfn]; exact hr _ _ _
  · rw [e, hfn]; exact hargs _ hold
  · rw [e, hfn, hvars]; rfl
  · exact Or.inr (Or.inl (by simpa using hx))
  · refine ⟨ok_one hres rfl (okWide_bool_mk hb _), [.lit (.bool true)] ++ ds, [], ([] ++ p) ++ [], ⟨[] ++ p, [], ?_, ?_, rfl, ?_, ?_⟩, ?_⟩
    · exact trodAll_append (hargs _ (fun _ _ => rfl)) (hr _ _ _)
    · rw [hvars]; rfl
    · intro b off hp
      rw [hbel.frozen (p := ⟨b, off, none⟩) (by have := hlt _ (show MemPlace.cell b off ∈ p by simpa using hp); exact this)]
      exact hz b off (by simpa using hp)
    · intro ha
      simpa using hn ha
    · intro x hx _
      simpa using hx

theorem Step.below {ι ι' : PMap} {h h' : AHeap} {w w' : World} (hi : Init ι h w) (s : Step ι h w ι' h' w') : Below w.heap.size w w' :=
  ⟨s.os, s.tape, s.output, s.size, fun k hk => s.keep k hk (fun ⟨id, _, _, ho, _⟩ => by rw [hi.ro id] at ho; cases ho)⟩

/-- A LAW's CONTRACT. -/
theorem law_contract {enc : TypeId × Value → H} {P : Program} {g : FuncId} {f : Func} {s : ChangeSpec} {apart fresh handsOn again : Bool} {tb : TypeId} {ss : List (Bool × Sh)}
    (hl : laidOutB P = true) (hread : (f.params.toList.all fun t => P.readableRec t && decide (t < P.types.size)) = true) (hres : f.resultTypes = #[tb]) (hb : P.underlying tb = some .bool) (hvars : s.vars = [])
    (hss : shapesOf P f.params.toList = some ss)
    {W : World} {base : Nat} {args : Array Value} {ds gs : List (DataW H)} {before : List MemPlace}
    (hfn : ds.length = ss.length → s.fn H ds = { results := [.lit (.bool true)], args := ds })
    (hval : ∀ (j : Nat) (t : TypeId) (v : Value), f.params[j]? = some t → args[j]? = some v → Value.okWide P W .any base t v)
    (hW : DataW.Whole enc P f.params.toList s.vars apart W args.toList ds gs before)
    (hspec : ∀ (h : AHeap) (avs : List Value), RdA h ss avs ds → Does P g avs.toArray h fun v _ => v = .bool true) (hlay : LayW W := by intro p hp; cases hp) :
    Calls P g args W fun e W' => ∃ v, e = .returned v ∧ s.post enc P f apart fresh handsOn again W args v W' := by
  have hW' := hW
  obtain ⟨p, q, hA, hV, _, _, _⟩ := hW
  obtain ⟨ι, h, avs, k1, _, _, k4, k5⟩ := embA f.params.toList hss hA (fun j t v hj hv => hval j t v (by simpa using hj) (by simpa using hv)) _ _ (Init.empty hlay)
  obtain ⟨v, h', ⟨_, hnx, hr⟩, rfl⟩ := hspec h avs k5
  have hargs : VRA ι avs.toArray args := VRA_iff.2 (by simpa using k4)
  refine (hr ι W args k1.hr hargs (fun id h1 _ => k1.dom id h1)).mono ?_
  rintro e W' ⟨ι', v', rfl, st, hv⟩
  rw [hv.bool_inv]
  exact ⟨_, rfl, post_true hl hread hres hb hvars (hfn k5.length.1) hW' (st.below k1)⟩

end
end Go.AM
