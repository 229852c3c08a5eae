/- AM: a region that draws its order: every order. -/
import Derived.Test.YtfdbadpiklmbaaaAmRegD
set_option linter.unusedSimpArgs false
set_option linter.unusedVariables false
set_option linter.unnecessarySimpa false
set_option maxRecDepth 100000
namespace Go.AM
section
variable {P : Program}

theorem firstW_congr {W : Nat → Bool} {L L' : Nat → Bool} (h : ∀ k, W k = true → L' k = L k) : ∀ f k, firstW W L' f k = firstW W L f k
  | 0, _ => rfl
  | f + 1, k => by
    unfold firstW
    rw [firstW_congr h f (k + 1)]
    by_cases hw : W k = true
    · rw [h k hw]
    · simp [hw]

theorem yielded_one {ι : PMap} {a a' : Act} {ops : Array Oper} (hs : a.tmps.size = a'.tmps.size) {j : Nat} (h : ∀ t, (ops[j]?).bind (·.dst) = some t → VR ι (a.tmps.getD t undef) (a'.tmps.getD t undef)) : yielded ops a'.tmps j = yielded ops a.tmps j := by
  unfold yielded
  cases hd : (ops[j]?).bind (·.dst) with
  | none => rfl
  | some t =>
    simp only [Option.bind_some]
    rcases Nat.lt_or_ge t a.tmps.size with hl | hl
    · have hl' : t < a'.tmps.size := by rw [← hs]; exact hl
      have := h t hd
      obtain ⟨u, hu⟩ : ∃ u, a.tmps[t]? = some u := ⟨_, Array.getElem?_eq_getElem hl⟩
      obtain ⟨u', hu'⟩ : ∃ u, a'.tmps[t]? = some u := ⟨_, Array.getElem?_eq_getElem hl'⟩
      rw [Array.getD_eq_getD_getElem?, Array.getD_eq_getD_getElem?, hu, hu', Option.getD_some, Option.getD_some] at this
      rw [hu, hu']
      cases this <;> rfl
    · rw [Array.getElem?_eq_none hl, Array.getElem?_eq_none (by rw [← hs]; exact hl)]

def Lof (listed : Array Bool) (k : Nat) : Bool := listed.getD k false

structure Inv (N : Nat) (ops : Array Oper) (A : Nat → Act) (H : Nat → AHeap) (V : Nat → Value) (ι₀ : PMap) (w₀ : World) (listed : Array Bool) (ι : PMap) (a' : Act) (w : World) : Prop where
  size : listed.size = ops.size
  closed : ∀ j oj, ops[j]? = some oj → listed.getD j false = true → ∀ e ∈ oj.after, Region.binds .any e = true → listed.getD e.on false = true
  tsize : a'.tmps.size = (A 0).tmps.size
  d' : a'.defers = []
  slots : ∀ t, VR ι (sv ops V (Lof listed) (A 0) t ops.size) (a'.tmps.getD t undef)
  step : Step ι₀ (H 0) w₀ ι (H (firstW (Wr ops H) (Lof listed) ops.size 0)) w
  dom : ∀ id pl, ι id = some pl → id < (H 0).next ∨ (∃ k, k < ops.size ∧ Lof listed k = true ∧ (H k).next ≤ id ∧ id < (H (k + 1)).next) ∨ N ≤ id

theorem Lof_set_ne {listed : Array Bool} {i k : Nat} (h : k ≠ i) : Lof (listed.setIfInBounds i true) k = Lof listed k := getD_set_ne false (Ne.symm h)
theorem Lof_set_self {listed : Array Bool} {i : Nat} (h : i < listed.size) : Lof (listed.setIfInBounds i true) i = true := by
  simp [Lof, Array.getD_eq_getD_getElem?, h]

theorem drawOK_edges {ops : Array Oper} {ρ : Nat → Value} (h : okDraw ops ρ) {k : Nat} {o : Oper} (ho : ops[k]? = some o) : ∀ e ∈ o.after, Region.binds .any e = true → e.on < k := by
  have hk : k < ops.size := (Array.getElem?_eq_some_iff.1 ho).1
  rcases h with h | ⟨h, _⟩
  · simp only [drawOK, Bool.and_eq_true] at h
    have h1 := List.all_eq_true.1 h.2 k (List.mem_range.2 hk)
    simp only [ho, Option.map_some, Option.getD_some, Bool.and_eq_true] at h1
    intro e he hb
    have := Array.all_eq_true_iff_forall_mem.1 h1.1 e he
    simpa [hb] using this
  · simp only [drawOKH, Bool.and_eq_true] at h
    have h1 := List.all_eq_true.1 h.2 k (List.mem_range.2 hk)
    simp only [ho, Option.map_some, Option.getD_some, Bool.and_eq_true] at h1
    intro e he hb
    have := Array.all_eq_true_iff_forall_mem.1 h1.1 e he
    simpa [hb] using this

/-- Beside a writer: it is pure, or looks at what the writer leaves. -/
def Beside (ops : Array Oper) (A : Nat → Act) (H : Nat → AHeap) (p c : Nat) : Prop := opKind ops p = .pure ∨ ((lookBase ops p).isSome = true ∧ keepsA ops (fun t => (A c).tmps.getD t undef) (H c) (H (c + 1)))

theorem Trace.hard {C : CallRel} {ops : Array Oper} {A : Nat → Act} {H : Nat → AHeap} {V : Nat → Value} (hT : Trace P C ops A H V) {j : Nat} (hj : j < ops.size) (hcall : opKind ops j = .call) (hchk : chkOf ops (Region.before ops) j = true) (hq : ¬ (H j).quiet (H (j + 1))) :
    hardOf ops (Region.before ops) j = true ∧ keepsA ops (fun t => (A j).tmps.getD t undef) (H j) (H (j + 1)) := by
  have ho : ops[j]? = some ops[j] := Array.getElem?_eq_getElem hj
  have hkk : kindOf ops[j].op = .call := by rw [← opKind_eq ho]; exact hcall
  obtain ⟨_, hs⟩ := hT.step j _ ho
  split at hs
  · cases hc : acall? (A j).eval ops[j].op with
    | none =>
      exfalso
      clear hs
      generalize ops[j].op = op at hc hkk
      cases op with
      | call c =>
        obtain ⟨cal, args, ats⟩ := c
        cases cal with
        | value f => simp only [acall?] at hc; split at hc <;> first | (cases hc; done) | (split at hc <;> cases hc)
        | invoke => simp [acall?] at hc
        | builtin b => cases b <;> simp only [kindOf] at hkk <;> first | (cases hkk; done) | (split at hkk <;> cases hkk)
      | binOp op => cases op <;> simp [kindOf] at hkk
      | convert s d x => simp only [kindOf] at hkk; split at hkk <;> cases hkk
      | _ => simp [kindOf] at hkk
    | some q =>
      cases q with
      | none => simp [hc] at hs
      | some q =>
        obtain ⟨g, args⟩ := q
        simp only [hc] at hs
        rcases hs.2 hchk with e | e
        · exact absurd e hq
        · exact e
  · rw [hs.2] at hq; exact absurd (AHeap.quiet.refl _) hq

theorem hard_beside {ops : Array Oper} {b : Array Nat} {i k : Nat} (hh : hardOf ops b i = true) (hk : k < ops.size) (hne : k ≠ i) (hord : ordered b i k = false) : opKind ops k = .pure ∨ (lookBase ops k).isSome = true := by
  unfold hardOf at hh
  simp only [Bool.and_eq_true, List.all_eq_true, List.mem_range] at hh
  have := hh.2 k hk
  simp only [hord, Bool.or_false, Bool.or_eq_true, beq_iff_eq] at this
  rcases this with (e | e) | e
  · exact absurd e hne
  · exact .inl e
  · exact .inr e

/-- A store leaves what is apart from it. -/
theorem Trace.apart {C : CallRel} {ops : Array Oper} {A : Nat → Act} {H : Nat → AHeap} {V : Nat → Value} (hT : Trace P C ops A H V) {j : Nat} (hj : j < ops.size) (hs : (storeBase ops j).isSome = true) (hap : apartS ops (fun t => (A 0).tmps.getD t undef)) :
    keepsA ops (fun t => (A j).tmps.getD t undef) (H j) (H (j + 1)) := by
  have hA : ∀ k o, ops[k]? = some o → A (k + 1) = (A k).put o.dst (V k) := fun k o ho => (hT.step k o ho).1
  obtain ⟨s, hs⟩ := Option.isSome_iff_exists.1 hs
  intro k t hl x hx
  have ho : ops[j]? = some ops[j] := Array.getElem?_eq_getElem hj
  obtain ⟨_, hst⟩ := hT.step j _ ho
  -- what is loaded comes from a slot that the region does not write
  have hkl : k < ops.size := by
    rcases Nat.lt_or_ge k ops.size with h1 | h1
    · exact h1
    · simp [lookBase, Array.getElem?_eq_none h1] at hl
  have hdef : defs ops t = [] := by
    have hl' := hl
    unfold lookBase at hl'
    rw [Array.getElem?_eq_getElem hkl] at hl'
    simp only at hl'
    split at hl'
    · exact (root_spec hT 4 k _ t hl' (by omega)).1
    · cases hl'
  have hx0 : vblk ((A 0).tmps.getD t undef) = some x := by rw [← never_written hA hdef j (by omega)]; exact hx
  have hs' := hs
  unfold storeBase at hs'
  rw [ho] at hs'
  simp only at hs'
  split at hst
  · split at hs'
    · rename_i ty u w hop
      have hnc : acall? (A j).eval ops[j].op = none := by rw [hop]; rfl
      simp only [hnc] at hst
      rw [hop] at hst
      simp only [aop] at hst
      split at hst
      · rename_i id off he
        have he' : (A j).tmps.getD u undef = .pointer (some ⟨id, off, none⟩) := he
        have hid := (root_spec hT 4 j u s hs' (by omega)).2 id (by rw [he']; rfl)
        rw [Option.map_eq_some_iff] at hst
        obtain ⟨h', hst, e⟩ := hst
        have e2 : h' = H (j + 1) := (Prod.mk.inj e).2
        rw [← e2]
        have hne : id ≠ x := fun e => hap k t j s hl hs x hx0 (by rw [hid, e])
        unfold astore at hst
        repeat' (split at hst)
        all_goals first | (cases hst; done) | (cases hst; exact AHeap.get_set_ne _ _ hne) | skip
      · cases hst
    · cases hs'
  · rw [hst.2]

/-- A slice's object. -/
def sblk : Value → Option Nat
  | .slice (some a) _ _ => some a.block
  | _ => none
theorem appB_keeps {h h' : AHeap} {ats : Array TypeId} {s x v : Value} (ha : aappendB P h ats s x = some (v, h')) {y : Nat} (hy : sblk s ≠ some y) (hl : y < h.next) : h'.get y = h.get y := by
  unfold aappendB at ha
  repeat' (split at ha)
  all_goals first | (cases ha; done) | (cases ha; exact AHeap.get_push_lt _ _ hl) | skip
  unfold aappend at ha
  repeat' (split at ha)
  all_goals first | (cases ha; done) | (cases ha; rfl) | (cases ha; exact AHeap.get_push_lt _ _ hl) | skip
  all_goals (cases ha; have hne := fun e => hy (congrArg some e); first | exact AHeap.get_set_ne _ _ hne | exact (AHeap.get_push_lt _ _ (by simpa using hl)).trans (AHeap.get_set_ne _ _ hne))
theorem appNil_new {h h' : AHeap} {ats : Array TypeId} {x v : Value} (ha : aappendB P h ats (.slice none 0 0) x = some (v, h')) : ∀ b, sblk v = some b → b = h.next := by
  intro b hb
  unfold aappendB at ha
  repeat' (split at ha)
  all_goals first | (cases ha; done) | (cases ha; cases hb; rfl) | skip
  rw [show ∀ sz bytes n news, aappend h sz bytes (.slice none 0 0) n news = if n = 0 then some (.slice none 0 0, h) else if n * bytes ≤ 140737488355328 ∧ n ≤ 4611686018427387904 then some (.slice (some ⟨h.next, 0, some sz⟩) n n, h.push (.cells news (.tail sz))) else none from fun _ _ _ _ => rfl] at ha
  repeat' (split at ha)
  all_goals first | (cases ha; done) | (cases ha; cases hb; rfl) | (cases ha; cases hb)
/-- An append is of the two that stand there. -/
theorem aop_append {ρ : Operand → Value} {h : AHeap} {c : Call} {v : Value} {h' : AHeap} (hc : c.callee = .builtin .append) (ha : aop P ρ h (.call c) = some (v, h')) {a : Operand} (h0 : (c.args[0]? : Option Operand) = some a) : ∃ x, aappendB P h c.argTypes (ρ a) x = some (v, h') := by
  simp only [aop, hc] at ha
  unfold abuiltin at ha
  rcases hl : (c.args.map ρ).toList with _ | ⟨s, _ | ⟨x, _ | ⟨y, l⟩⟩⟩
  · rw [hl] at ha; cases ha
  · rw [hl] at ha; cases ha
  · rw [hl] at ha
    refine ⟨x, ?_⟩
    have : ((c.args.map ρ).toList[0]? : Option Value) = some s := by rw [hl]; rfl
    rw [Array.getElem?_toList, Array.getElem?_map, h0, Option.map_some] at this
    rw [Option.some.inj this]; exact ha
  · rw [hl] at ha; cases ha
/-- More behind what the region has made leaves what was there. -/
theorem Trace.fresh {C : CallRel} {ops : Array Oper} {A : Nat → Act} {H : Nat → AHeap} {V : Nat → Value} (hT : Trace P C ops A H V) (hle : ∀ i j, i ≤ j → j ≤ ops.size → (H i).next ≤ (H j).next)
    (hB : ∀ t x, vblk ((A 0).tmps.getD t undef) = some x → x < (H 0).next ∨ (H ops.size).next ≤ x) {j : Nat} (hj : j < ops.size) (hs : freshApp ops j = true) :
    keepsA ops (fun t => (A j).tmps.getD t undef) (H j) (H (j + 1)) := by
  have hA : ∀ k o, ops[k]? = some o → A (k + 1) = (A k).put o.dst (V k) := fun k o ho => (hT.step k o ho).1
  intro k t hl x hx
  have ho : ops[j]? = some ops[j] := Array.getElem?_eq_getElem hj
  have hkl : k < ops.size := by
    rcases Nat.lt_or_ge k ops.size with h1 | h1
    · exact h1
    · simp [lookBase, Array.getElem?_eq_none h1] at hl
  have hdef : defs ops t = [] := by
    have hl' := hl
    unfold lookBase at hl'
    rw [Array.getElem?_eq_getElem hkl] at hl'
    simp only at hl'
    split at hl'
    · exact (root_spec hT 4 k _ t hl' (by omega)).1
    · cases hl'
  have hx0 : vblk ((A 0).tmps.getD t undef) = some x := by rw [← never_written hA hdef j (by omega)]; exact hx
  rcases hB t x hx0 with hlt | hge
  rotate_left
  · rw [AHeap.get_ge _ (Nat.le_trans (hle j ops.size (by omega) (Nat.le_refl _)) hge), AHeap.get_ge _ (Nat.le_trans (hle (j + 1) ops.size (by omega) (Nat.le_refl _)) hge)]
  -- what it is behind
  unfold freshApp at hs
  rw [ho] at hs
  simp only at hs
  split at hs
  case h_2 => cases hs
  rename_i c hop
  split at hs
  case h_2 => cases hs
  rename_i t1 hcal harg
  split at hs
  case h_2 => cases hs
  rename_i d hd
  simp only [Bool.and_eq_true, decide_eq_true_eq] at hs
  obtain ⟨hdj, hs⟩ := hs
  have hod : ops[d]? = some ops[d] := Array.getElem?_eq_getElem (show d < ops.size by omega)
  rw [hod] at hs
  simp only at hs
  split at hs
  case h_2 => cases hs
  rename_i c' hop'
  simp only [Bool.and_eq_true] at hs
  obtain ⟨hs1, hs2⟩ := hs
  have hcal' : c'.callee = .builtin .append := by
    split at hs1
    · assumption
    · cases hs1
  have harg' : (c'.args[0]? : Option Operand) = some (.const (.slice none 0 0)) := by
    split at hs2
    · assumption
    · cases hs2
  have hns : sblk ((A j).tmps.getD t1 undef) ≠ some x := by
    rcases once_written hA hd j hdj (by omega) with e | e
    · rw [e]
      obtain ⟨_, hst⟩ := hT.step d _ hod
      split at hst
      · have hnc : acall? (A d).eval ops[d].op = none := by rw [hop']; simp only [acall?, hcal']
        simp only [hnc] at hst
        rw [hop'] at hst
        obtain ⟨x', hx'⟩ := aop_append hcal' hst harg'
        intro e2
        have := appNil_new (P := P) hx' x e2
        have := hle 0 d (by omega) (by omega)
        omega
      · rw [hst.1]; intro e2; cases e2
    · rw [e]; intro e2; cases e2
  obtain ⟨_, hst⟩ := hT.step j _ ho
  split at hst
  · have hnc : acall? (A j).eval ops[j].op = none := by rw [hop]; simp only [acall?, hcal]
    simp only [hnc] at hst
    rw [hop] at hst
    obtain ⟨x', hx'⟩ := aop_append hcal hst harg
    exact appB_keeps hx' hns (Nat.lt_of_lt_of_le hlt (hle 0 j (by omega) (by omega)))
  · rw [hst.2]

theorem pairS {C : CallRel} {ops : Array Oper} {A : Nat → Act} {H : Nat → AHeap} {V : Nat → Value} (hT : Trace P C ops A H V) (h : drawOK ops (Region.before ops) = true) {j k : Nat} {x y : Oper} (hx : ops[j]? = some x) (hy : ops[k]? = some y) (hjk : j < k) :
    ((Region.before ops).getD k 0).testBit j = true ∨ (x.apart ops y = true ∧ (Wr ops H j = true → Beside ops A H k j) ∧ (Wr ops H k = true → Beside ops A H j k)) := by
  have hk : k < ops.size := (Array.getElem?_eq_some_iff.1 hy).1
  have hord1 : ordered (Region.before ops) j k = ((Region.before ops).getD k 0).testBit j := by simp only [ordered, show max j k = k by omega, show min j k = j by omega]
  have hord2 : ordered (Region.before ops) k j = ((Region.before ops).getD k 0).testBit j := by simp only [ordered, show max k j = k by omega, show min k j = j by omega]
  cases hb : ((Region.before ops).getD k 0).testBit j with
  | true => exact .inl rfl
  | false =>
    right
    rw [hb] at hord1 hord2
    simp only [drawOK, Bool.and_eq_true] at h
    have h1 := List.all_eq_true.1 h.2 k (List.mem_range.2 hk)
    simp only [Bool.and_eq_true] at h1
    have h2 := List.all_eq_true.1 h1.2 j (List.mem_range.2 hjk)
    simp only [hx, hy, hord1, Bool.false_or, Bool.and_eq_true] at h2
    obtain ⟨⟨⟨⟨g1, g2⟩, g3⟩, g4⟩, g5⟩ := h2
    refine ⟨g1, fun hw => ?_, fun hw => ?_⟩
    · simp only [Wr, Bool.or_eq_true, Bool.and_eq_true, beq_iff_eq, Bool.not_eq_true', decide_eq_false_iff_not] at hw
      rcases hw with hw | ⟨hw, hw'⟩
      · left
        rcases g2 with g2
        simpa [hw] using g2
      · cases hch : chkOf ops (Region.before ops) j with
        | false => left; simpa [hw, hch] using g4
        | true =>
          have hq : ¬ (H j).quiet (H (j + 1)) := by simpa [hch] using hw'
          obtain ⟨e1, e2⟩ := hT.hard (by omega) hw hch hq
          rcases hard_beside e1 hk (by omega) hord1 with e | e
          · exact .inl e
          · exact .inr ⟨e, e2⟩
    · simp only [Wr, Bool.or_eq_true, Bool.and_eq_true, beq_iff_eq, Bool.not_eq_true', decide_eq_false_iff_not] at hw
      rcases hw with hw | ⟨hw, hw'⟩
      · left; simpa [hw] using g3
      · cases hch : chkOf ops (Region.before ops) k with
        | false => left; simpa [hw, hch] using g5
        | true =>
          have hq : ¬ (H k).quiet (H (k + 1)) := by simpa [hch] using hw'
          obtain ⟨e1, e2⟩ := hT.hard hk hw hch hq
          rcases hard_beside e1 (by omega) (by omega) hord2 with e | e
          · exact .inl e
          · exact .inr ⟨e, e2⟩

theorem pairH {C : CallRel} {ops : Array Oper} {A : Nat → Act} {H : Nat → AHeap} {V : Nat → Value} (hT : Trace P C ops A H V) (h : drawOKH ops (Region.before ops) = true) (hap : apartS ops (fun t => (A 0).tmps.getD t undef)) (hle : ∀ i j, i ≤ j → j ≤ ops.size → (H i).next ≤ (H j).next) (hB : ∀ t x, vblk ((A 0).tmps.getD t undef) = some x → x < (H 0).next ∨ (H ops.size).next ≤ x) {j k : Nat} {x y : Oper} (hx : ops[j]? = some x) (hy : ops[k]? = some y) (hjk : j < k) :
    ((Region.before ops).getD k 0).testBit j = true ∨ (x.apart ops y = true ∧ (Wr ops H j = true → Beside ops A H k j) ∧ (Wr ops H k = true → Beside ops A H j k)) := by
  have hk : k < ops.size := (Array.getElem?_eq_some_iff.1 hy).1
  have hord1 : ordered (Region.before ops) j k = ((Region.before ops).getD k 0).testBit j := by simp only [ordered, show max j k = k by omega, show min j k = j by omega]
  have hord2 : ordered (Region.before ops) k j = ((Region.before ops).getD k 0).testBit j := by simp only [ordered, show max k j = k by omega, show min k j = j by omega]
  cases hb : ((Region.before ops).getD k 0).testBit j with
  | true => exact .inl rfl
  | false =>
    right
    rw [hb] at hord1 hord2
    simp only [drawOKH, Bool.and_eq_true] at h
    have h1 := List.all_eq_true.1 h.2 k (List.mem_range.2 hk)
    simp only [Bool.and_eq_true] at h1
    have h2 := List.all_eq_true.1 h1.2 j (List.mem_range.2 hjk)
    simp only [hx, hy, hord1, Bool.false_or, Bool.and_eq_true] at h2
    obtain ⟨⟨⟨⟨g1, g2⟩, g3⟩, g4⟩, g5⟩ := h2
    refine ⟨g1, fun hw => ?_, fun hw => ?_⟩
    · simp only [Wr, Bool.or_eq_true, Bool.and_eq_true, beq_iff_eq, Bool.not_eq_true', decide_eq_false_iff_not] at hw
      rcases hw with hw | ⟨hw, hw'⟩
      · simp only [hw, bne_self_eq_false, Bool.false_or, Bool.or_eq_true, Bool.and_eq_true, beq_iff_eq] at g2
        rcases g2 with g2 | ⟨g2, g2'⟩
        · exact .inl g2
        · exact .inr ⟨g2', g2.elim (fun g => hT.apart (by omega) g hap) fun g => hT.fresh hle hB (by omega) g⟩
      · cases hch : chkOf ops (Region.before ops) j with
        | false => left; simpa [hw, hch] using g4
        | true =>
          have hq : ¬ (H j).quiet (H (j + 1)) := by simpa [hch] using hw'
          obtain ⟨e1, e2⟩ := hT.hard (by omega) hw hch hq
          rcases hard_beside e1 hk (by omega) hord1 with e | e
          · exact .inl e
          · exact .inr ⟨e, e2⟩
    · simp only [Wr, Bool.or_eq_true, Bool.and_eq_true, beq_iff_eq, Bool.not_eq_true', decide_eq_false_iff_not] at hw
      rcases hw with hw | ⟨hw, hw'⟩
      · simp only [hw, bne_self_eq_false, Bool.false_or, Bool.or_eq_true, Bool.and_eq_true, beq_iff_eq] at g3
        rcases g3 with g3 | ⟨g3, g3'⟩
        · exact .inl g3
        · exact .inr ⟨g3', g3.elim (fun g => hT.apart hk g hap) fun g => hT.fresh hle hB hk g⟩
      · cases hch : chkOf ops (Region.before ops) k with
        | false => left; simpa [hw, hch] using g5
        | true =>
          have hq : ¬ (H k).quiet (H (k + 1)) := by simpa [hch] using hw'
          obtain ⟨e1, e2⟩ := hT.hard hk hw hch hq
          rcases hard_beside e1 (by omega) (by omega) hord2 with e | e
          · exact .inl e
          · exact .inr ⟨e, e2⟩

theorem pairW {C : CallRel} {ops : Array Oper} {A : Nat → Act} {H : Nat → AHeap} {V : Nat → Value} (hT : Trace P C ops A H V) (hle : ∀ i j, i ≤ j → j ≤ ops.size → (H i).next ≤ (H j).next) (hB : ∀ t x, vblk ((A 0).tmps.getD t undef) = some x → x < (H 0).next ∨ (H ops.size).next ≤ x) (h : okDraw ops (fun t => (A 0).tmps.getD t undef)) {j k : Nat} {x y : Oper} (hx : ops[j]? = some x) (hy : ops[k]? = some y) (hjk : j < k) :
    ((Region.before ops).getD k 0).testBit j = true ∨ (x.apart ops y = true ∧ (Wr ops H j = true → Beside ops A H k j) ∧ (Wr ops H k = true → Beside ops A H j k)) :=
  h.elim (fun h => pairS hT h hx hy hjk) fun h => pairH hT h.1 h.2 hle hB hx hy hjk

theorem look_kind {ops : Array Oper} {k : Nat} (h : (lookBase ops k).isSome = true) : opKind ops k = .read := by
  unfold lookBase at h
  split at h
  · rename_i o ho
    split at h
    · rename_i ty t hop; rw [opKind_eq ho, hop]; rfl
    · cases h
  · cases h
theorem Wr_kind {ops : Array Oper} {H : Nat → AHeap} {k : Nat} (h : Wr ops H k = true) : opKind ops k ≠ .pure ∧ lookBase ops k = none := by
  have hk : opKind ops k = .write ∨ opKind ops k = .call := by
    simp only [Wr, Bool.or_eq_true, Bool.and_eq_true, beq_iff_eq] at h
    rcases h with h | h
    · exact .inl h
    · exact .inr h.1
  refine ⟨fun e => (by rcases hk with h | h <;> rw [h] at e <;> cases e), ?_⟩
  cases hl : lookBase ops k with
  | none => rfl
  | some b =>
    have := look_kind (ops := ops) (k := k) (by rw [hl]; rfl)
    rcases hk with h | h <;> rw [h] at this <;> cases this
theorem Beside.no {ops : Array Oper} {A : Nat → Act} {H : Nat → AHeap} {p c : Nat} (h : Beside ops A H p c) (h1 : opKind ops p ≠ .pure) (h2 : lookBase ops p = none) : False := by
  rcases h with h | ⟨h, _⟩
  · exact h1 h
  · rw [h2] at h; cases h

theorem count_set {listed : Array Bool} {i : Nat} (hi : i < listed.size) (hf : listed.getD i false = false) : (listed.setIfInBounds i true).toList.count false + 1 = listed.toList.count false := by
  have hget : listed[i] = false := by
    simpa [Array.getD_eq_getD_getElem?, hi] using hf
  rw [Array.toList_setIfInBounds]
  have hl : i < listed.toList.length := by simpa using hi
  have e1 : listed.toList.take i ++ false :: listed.toList.drop (i + 1) = listed.toList := by
    have := List.drop_eq_getElem_cons hl
    rw [Array.getElem_toList, hget] at this
    rw [← this, List.take_append_drop]
  have e2 : listed.toList.set i true = listed.toList.take i ++ true :: listed.toList.drop (i + 1) := by
    rw [List.set_eq_take_append_cons_drop, if_pos hl]
  rw [e2]
  have e3 : (listed.toList.take i ++ false :: listed.toList.drop (i + 1)).count false = listed.toList.count false := by rw [e1]
  rw [← e3]
  simp [List.count_append, List.count_cons]
  omega

set_option maxHeartbeats 1000000 in
theorem sim_any {C : CallRel} (hC : SimC P C) {ops : Array Oper} {A : Nat → Act} {H : Nat → AHeap} {V : Nat → Value} (hT : Trace P C ops A H V) (hok : okDraw ops (fun t => (A 0).tmps.getD t undef)) (hops : okOps ops = true)
    {N : Nat} (hN : (H ops.size).next ≤ N) (hbase : ∀ t x, vblk ((A 0).tmps.getD t undef) = some x → x < (H 0).next ∨ N ≤ x)
    {ι₀ : PMap} {w₀ : World} {Q : Exit → Act → World → Prop} (hend : ∀ ι w a', Step ι₀ (H 0) w₀ ι (H ops.size) w → Bd N ι (H ops.size) → a'.tmps.size = (A 0).tmps.size → a'.defers = [] →
      (∀ t, VR ι ((A ops.size).tmps.getD t undef) (a'.tmps.getD t undef)) → Q .normal a' w) :
    ∀ (fuel : Nat) (listed : Array Bool) (ι : PMap) (a' : Act) (w : World), Inv N ops A H V ι₀ w₀ listed ι a' w → listed.toList.count false ≤ fuel → wpAny P .any ops Q fuel listed a' w := by
  have hA : ∀ k o, ops[k]? = some o → A (k + 1) = (A k).put o.dst (V k) := fun k o ho => (hT.step k o ho).1
  have hsz : ∀ k, k ≤ ops.size → (A k).tmps.size = (A 0).tmps.size := by
    intro k
    induction k with
    | zero => intro _; rfl
    | succ k ih =>
      intro hk
      rw [hA k _ (Array.getElem?_eq_getElem (show k < ops.size by omega)), ← ih (by omega)]
      cases ops[k].dst <;> simp [Act.put]
  have hnext1 : ∀ k, k < ops.size → (H k).next ≤ (H (k + 1)).next := fun k hk => hT.next (fun g args h v h' hc => (hC g args h v h' hc).2.1) (fun _ _ _ _ _ => aop_next) hk
  have hnext : ∀ d i, i + d ≤ ops.size → (H i).next ≤ (H (i + d)).next := by
    intro d
    induction d with
    | zero => intro i _; exact Nat.le_refl _
    | succ d ih => intro i hd; exact Nat.le_trans (ih i (by omega)) (hnext1 (i + d) (by omega))
  have hle : ∀ i j, i ≤ j → j ≤ ops.size → (H i).next ≤ (H j).next := fun i j h1 h2 => by
    have := hnext (j - i) i (by omega)
    rwa [show i + (j - i) = j by omega] at this
  have hB : ∀ t x, vblk ((A 0).tmps.getD t undef) = some x → x < (H 0).next ∨ (H ops.size).next ≤ x := fun t x h => (hbase t x h).imp id (Nat.le_trans hN)
  -- all are done
  have done : ∀ (listed : Array Bool) (ι : PMap) (a' : Act) (w : World), Inv N ops A H V ι₀ w₀ listed ι a' w → (∀ k, k < ops.size → Lof listed k = true) → Q .normal a' w := by
    intro listed ι a' w inv hall
    have hq : firstW (Wr ops H) (Lof listed) ops.size 0 = ops.size := by
      have h1 := firstW_le (Wr ops H) (Lof listed) ops.size 0
      rcases Nat.lt_or_ge (firstW (Wr ops H) (Lof listed) ops.size 0) ops.size with h2 | h2
      · have := (firstW_at (Wr ops H) (Lof listed) ops.size 0 (by omega)).2
        rw [hall _ h2] at this; cases this
      · omega
    have hst := inv.step
    rw [hq] at hst
    refine hend ι w a' hst ?_ inv.tsize inv.d' ?_
    · intro id hid hidN
      cases hi : ι id with
      | none => rfl
      | some pl =>
        rcases inv.dom id pl hi with h1 | ⟨k, h1, _, _, h2⟩ | h1
        · have := hle 0 ops.size (by omega) (Nat.le_refl _); omega
        · have := hle (k + 1) ops.size (by omega) (Nat.le_refl _); omega
        · omega
    · intro t
      have := inv.slots t
      rwa [sv_eq hA hsz (i := ops.size) (Nat.le_refl _) (fun k hk _ => hall k hk) (fun k h1 h2 => by omega)] at this
  have ready_all : ∀ (listed : Array Bool), listed.size = ops.size → Region.ready .any ops listed = [] → ∀ k, k < ops.size → Lof listed k = true := by
    intro listed hs hr k
    induction k using Nat.strongRecOn with
    | _ k ih =>
      intro hk
      cases hL : Lof listed k with
      | true => rfl
      | false =>
        exfalso
        have ho : ops[k]? = some ops[k] := Array.getElem?_eq_getElem hk
        have : k ∈ Region.ready .any ops listed := by
          refine mem_ready.2 ⟨?_, _, ho, fun e he hb => ?_⟩
          · simpa [Lof, Array.getD_eq_getD_getElem?, hs, hk] using hL
          · have hlt := drawOK_edges hok ho e he hb
            exact ih e.on hlt (by omega)
        rw [hr] at this; cases this
  intro fuel
  induction fuel with
  | zero =>
    intro listed ι a' w inv hcount
    have hall : ∀ k, k < ops.size → Lof listed k = true := by
      intro k hk
      have h0 : listed.toList.count false = 0 := by omega
      have hk' : k < listed.size := by rw [inv.size]; exact hk
      have hmem : listed[k] ∈ listed.toList := by simp
      have hne : listed[k] ≠ false := fun e => by
        rw [e] at hmem
        exact absurd h0 (Nat.ne_of_gt (List.count_pos_iff.2 hmem))
      simp only [Lof, Array.getD_eq_getD_getElem?, Array.getElem?_eq_getElem hk', Option.getD_some]
      simpa using hne
    refine ⟨?_, done listed ι a' w inv hall⟩
    cases hr : Region.ready .any ops listed with
    | nil => rfl
    | cons i r =>
      have hi : i ∈ Region.ready .any ops listed := by rw [hr]; simp
      obtain ⟨h0, o, ho, _⟩ := mem_ready.1 hi
      have hlt : i < ops.size := (Array.getElem?_eq_some_iff.1 ho).1
      have := hall i hlt
      simp [Lof, Array.getD_eq_getD_getElem?, inv.size, hlt] at h0 this
      rw [h0] at this; cases this
  | succ fuel ih =>
    intro listed ι a' w inv hcount
    refine ⟨fun hr => done listed ι a' w inv (ready_all listed inv.size hr), fun i hi => ?_⟩
    obtain ⟨hun, o, ho, hedges⟩ := mem_ready.1 hi
    have hin : i < ops.size := (Array.getElem?_eq_some_iff.1 ho).1
    have hil : i < listed.size := by rw [inv.size]; exact hin
    have hLi : Lof listed i = false := by
      simp [Lof, Array.getD_eq_getD_getElem?, hil] at hun ⊢; exact hun
    have hLi' : Lof (listed.setIfInBounds i true) i = true := Lof_set_self hil
    have hLne : ∀ k, k ≠ i → Lof (listed.setIfInBounds i true) k = Lof listed k := fun k hk => Lof_set_ne hk
    -- what stands ahead of i is done; what i stands ahead of is not
    have hbef : ∀ k, ((Region.before ops).getD i 0).testBit k = true → Lof listed k = true := fun k hb => listed_before inv.closed (i + 1) i (by omega) o ho hedges k hb
    have haft : ∀ k, k < ops.size → ((Region.before ops).getD k 0).testBit i = true → Lof listed k = false := by
      intro k hk hb
      cases hL : Lof listed k with
      | false => rfl
      | true =>
        have hko : ops[k]? = some ops[k] := Array.getElem?_eq_getElem hk
        have := listed_before inv.closed (k + 1) k (by omega) _ hko (inv.closed k _ hko hL) i hb
        rw [show listed.getD i false = Lof listed i from rfl, hLi] at this; cases this
    -- the slots that it looks at
    have look : ∀ t, t ∈ o.looksAt ops → VR ι ((A i).tmps.getD t undef) (a'.tmps.getD t undef) := by
      intro t ht
      have := inv.slots t
      rwa [sv_eq hA hsz (i := i) (by omega) ?_ ?_] at this
      · intro k hk hd
        have hko : ops[k]? = some ops[k] := Array.getElem?_eq_getElem (by omega)
        rcases pairW hT hle hB hok hko ho hk with h1 | ⟨h1, _⟩
        · exact hbef k h1
        · have := (Oper.apart_spec h1).1 t (by simpa [hko] using hd)
          exact absurd ht this
      · intro k hk1 hk2 hd
        by_cases hki : k = i
        · subst hki; exact hLi
        · have hko : ops[k]? = some ops[k] := Array.getElem?_eq_getElem hk2
          rcases pairW hT hle hB hok ho hko (by omega) with h1 | ⟨h1, _⟩
          · exact haft k hk2 h1
          · have := (Oper.apart_spec h1).2.2 t (by simpa [hko] using hd)
            exact absurd ht this
    have hρ : ∀ x ∈ o.op.operands, VR ι ((A i).eval x) (a'.eval x) := by
      intro x hx
      have hokx := okOps_mem hops ho x hx
      cases x with
      | tmp t => exact look t (List.mem_append_left _ (List.mem_filterMap.2 ⟨.tmp t, by simpa using hx, rfl⟩))
      | const v => exact VR.refl_plain ι 3 v hokx
      | func f => exact .func _ _ _ _ _ rfl rfl (fun i h1 => absurd h1 (by simp)) (fun i h1 => absurd h1 (by simp))
      | global g => cases hokx
    have hsize : (A i).tmps.size = a'.tmps.size := by rw [hsz i (by omega), inv.tsize]
    have hwant : Region.wanted o (yielded ops a'.tmps) = Region.wanted o (yielded ops (A i).tmps) := by
      unfold Region.wanted
      cases hg : o.guard with
      | none => rfl
      | some gw =>
        obtain ⟨g, want⟩ := gw
        have : yielded ops a'.tmps g = yielded ops (A i).tmps g := yielded_one hsize fun t ht => look t (List.mem_append_right _ (by simp [hg, ht]))
        simp only [this]
    obtain ⟨_, hstep⟩ := hT.step i o ho
    have hcount' : (listed.setIfInBounds i true).toList.count false ≤ fuel := by
      have := count_set hil (by simpa [Lof] using hLi)
      omega
    -- the invariant behind the step
    have next : ∀ (ι' : PMap) (w' : World) (v' : Value), ι.le ι' → VR ι' (V i) v' → Step ι₀ (H 0) w₀ ι' (H (firstW (Wr ops H) (Lof (listed.setIfInBounds i true)) ops.size 0)) w' →
        (∀ id pl, ι' id = some pl → ι id = some pl ∨ ((H i).next ≤ id ∧ id < (H (i + 1)).next)) → Inv N ops A H V ι₀ w₀ (listed.setIfInBounds i true) ι' (a'.put o.dst v') w' := by
      intro ι' w' v' hle' hv hst hdom
      refine ⟨by simp [inv.size], ?_, ?_, ?_, ?_, hst, ?_⟩
      · intro j oj hj hl e he hb
        by_cases hji : i = j
        · subst hji
          rw [ho] at hj; cases hj
          exact getD_set_true (hedges e he hb)
        · rw [getD_set_ne false hji] at hl
          exact getD_set_true (inv.closed j oj hj hl e he hb)
      · rw [← inv.tsize]; cases o.dst <;> simp [Act.put]
      · cases hd : o.dst <;> exact inv.d'
      · intro t
        rw [sv_set hLne hLi hLi' hin ?_]
        · rw [ho, Option.bind_some]
          cases hd : o.dst with
          | none => simp only [reduceCtorEq, false_and, if_false]; exact (inv.slots t).mono hle'
          | some d =>
            simp only [Option.some.injEq]
            split
            · rename_i hc
              obtain ⟨rfl, hlt⟩ := hc
              have hlt' : d < a'.tmps.size := by rw [inv.tsize]; exact hlt
              simp only [Act.put, Array.getD_eq_getD_getElem?]
              simp [hlt', hv]
            · rename_i hc
              have e : (a'.put (some d) v').tmps.getD t undef = a'.tmps.getD t undef := by
                simp only [Act.put, Array.getD_eq_getD_getElem?]
                by_cases hdt : d = t
                · subst hdt
                  have hle2 : a'.tmps.size ≤ d := by rw [inv.tsize]; exact Nat.le_of_not_lt fun h => hc ⟨rfl, h⟩
                  rw [Array.getElem?_eq_none (by simpa using hle2), Array.getElem?_eq_none hle2]
                · rw [Array.getElem?_setIfInBounds_ne hdt]
              rw [e]; exact (inv.slots t).mono hle'
        · intro hd k hk1 hk2 hd2
          have hko : ops[k]? = some ops[k] := Array.getElem?_eq_getElem hk2
          rcases pairW hT hle hB hok ho hko hk1 with h1 | ⟨h1, _⟩
          · exact haft k hk2 h1
          · have := (Oper.apart_spec h1).2.1 t (by simpa [ho] using hd)
            exact absurd (by simpa [hko] using hd2) this
      · intro id pl hid
        rcases hdom id pl hid with h1 | h1
        · rcases inv.dom id pl h1 with h2 | ⟨k, h2, h3, h4⟩ | h2
          · exact .inl h2
          · have hki : k ≠ i := fun e => by rw [e, hLi] at h3; cases h3
            exact .inr (.inl ⟨k, h2, by rw [hLne k hki]; exact h3, h4⟩)
          · exact .inr (.inr h2)
        · exact .inr (.inl ⟨i, hin, hLi', h1⟩)
    have hfresh : ∀ id, (H i).next ≤ id → id < (H (i + 1)).next → ι id = none := by
      intro id h1 h2
      cases hid : ι id with
      | none => rfl
      | some pl =>
        exfalso
        rcases inv.dom id pl hid with h3 | ⟨k, h3, h4, h5, h6⟩ | h3
        · have := hle 0 i (by omega) (by omega); omega
        rotate_left
        · have := hle (i + 1) ops.size (by omega) (Nat.le_refl _); omega
        · have hki : k ≠ i := fun e => by rw [e, hLi] at h4; cases h4
          rcases Nat.lt_or_ge k i with h7 | h7
          · have := hle (k + 1) i (by omega) (by omega); omega
          · have := hle (i + 1) k (by omega) (by omega); omega
    have hb0 := firstW_le (Wr ops H) (Lof listed) ops.size 0
    -- it goes on
    unfold wpOp
    simp only [ho]
    cases hwr : Wr ops H i with
    | true =>
      -- it acts as one that writes: all others that are not pure are done, or wait
      have hbefore : ∀ k, k < i → opKind ops k ≠ .pure → lookBase ops k = none → Lof listed k = true := by
        intro k hk hkp hkl
        have hko : ops[k]? = some ops[k] := Array.getElem?_eq_getElem (by omega)
        rcases pairW hT hle hB hok hko ho hk with h1 | ⟨_, _, h2⟩
        · exact hbef k h1
        · exact ((h2 hwr).no hkp hkl).elim
      have hafter : ∀ k, i < k → k < ops.size → opKind ops k ≠ .pure → lookBase ops k = none → Lof listed k = false := by
        intro k hk1 hk2 hkp hkl
        have hko : ops[k]? = some ops[k] := Array.getElem?_eq_getElem hk2
        rcases pairW hT hle hB hok ho hko hk1 with h1 | ⟨_, h2, _⟩
        · exact haft k hk2 h1
        · exact ((h2 hwr).no hkp hkl).elim
      have hq : firstW (Wr ops H) (Lof listed) ops.size 0 = i := by
        rcases Nat.lt_trichotomy (firstW (Wr ops H) (Lof listed) ops.size 0) i with h1 | h1 | h1
        · have h2 := firstW_at (Wr ops H) (Lof listed) ops.size 0 (by omega)
          rw [hbefore _ h1 (Wr_kind h2.1).1 (Wr_kind h2.1).2] at h2; cases h2.2
        · exact h1
        · have := firstW_done (Wr ops H) (Lof listed) ops.size 0 i (by omega) h1 hwr
          rw [hLi] at this; cases this
      have hst := inv.step
      rw [hq] at hst
      -- all that is placed was made before
      have hplaced : ∀ id pl, ι id = some pl → id < (H i).next ∨ N ≤ id := by
        intro id pl hid
        rcases inv.dom id pl hid with h1 | ⟨k, h1, h2, h3, h4⟩ | h1
        · left; have := hle 0 i (by omega) (by omega); omega
        rotate_left
        · exact .inr h1
        · left
          have hki : k ≠ i := fun e => by rw [e, hLi] at h2; cases h2
          by_cases hkp : opKind ops k = .pure
          · -- it has made nothing
            exfalso
            have hko : ops[k]? = some ops[k] := Array.getElem?_eq_getElem h1
            have hkk := (opKind_eq hko).symm.trans hkp
            obtain ⟨_, hs⟩ := hT.step k _ hko
            split at hs
            · cases hc : acall? (A k).eval ops[k].op with
              | none => simp only [hc] at hs; rw [(aop_pure hkk hs).1] at h4; omega
              | some q => rw [acall_kind hc] at hkk; cases hkk
            · rw [hs.2] at h4; omega
          · cases hkl : lookBase ops k with
            | some b =>
              -- it has made nothing
              exfalso
              have hko : ops[k]? = some ops[k] := Array.getElem?_eq_getElem h1
              cases hwk : Region.wanted ops[k] (yielded ops (A k).tmps) with
              | true => rw [(look_at hT hko hkl hwk).2.2.1] at h4; omega
              | false =>
                obtain ⟨_, hs⟩ := hT.step k _ hko
                rw [if_neg (by rw [hwk]; simp)] at hs
                rw [hs.2] at h4; omega
            | none =>
            have hk : k < i := by
              rcases Nat.lt_trichotomy k i with h5 | h5 | h5
              · exact h5
              · exact absurd h5 hki
              · rw [hafter k h5 h1 hkp hkl] at h2; cases h2
            have := hle (k + 1) i (by omega) (by omega); omega
      have hnext' : ∀ ι' w', Step ι (H i) w ι' (H (i + 1)) w' → Step ι₀ (H 0) w₀ ι' (H (firstW (Wr ops H) (Lof (listed.setIfInBounds i true)) ops.size 0)) w' := by
        intro ι' w' hs
        have hL'le := firstW_le (Wr ops H) (Lof (listed.setIfInBounds i true)) ops.size 0
        have hgt : i < firstW (Wr ops H) (Lof (listed.setIfInBounds i true)) ops.size 0 := by
          rcases Nat.lt_or_ge i (firstW (Wr ops H) (Lof (listed.setIfInBounds i true)) ops.size 0) with h1 | h1
          · exact h1
          · exfalso
            have h2 := firstW_at (Wr ops H) (Lof (listed.setIfInBounds i true)) ops.size 0 (by omega)
            rcases Nat.eq_or_lt_of_le h1 with h3 | h3
            · rw [h3, hLi'] at h2; cases h2.2
            · rw [hLne _ (by omega), hbefore _ h3 (Wr_kind h2.1).1 (Wr_kind h2.1).2] at h2; cases h2.2
        have hquiet : (H (i + 1)).quiet (H (firstW (Wr ops H) (Lof (listed.setIfInBounds i true)) ops.size 0)) := by
          have := hT.quiets (i := i + 1) (firstW (Wr ops H) (Lof (listed.setIfInBounds i true)) ops.size 0 - (i + 1)) (by omega) (fun k h1 h2 => by
            cases hwk : Wr ops H k with
            | false => rfl
            | true =>
              have h3 := firstW_done (Wr ops H) (Lof (listed.setIfInBounds i true)) ops.size 0 k (by omega) (by omega) hwk
              rw [hLne k (by omega), hafter k (by omega) (by omega) (Wr_kind hwk).1 (Wr_kind hwk).2] at h3; cases h3)
          rwa [show i + 1 + (firstW (Wr ops H) (Lof (listed.setIfInBounds i true)) ops.size 0 - (i + 1)) = firstW (Wr ops H) (Lof (listed.setIfInBounds i true)) ops.size 0 by omega] at this
        refine (hst.trans hs).quietTo hquiet fun id pl hid => ?_
        rcases hs.dom id pl hid with h1 | h1
        · rcases hplaced id pl h1 with h2 | h2
          · left; have := hnext1 i hin; omega
          · right; have := hle (firstW (Wr ops H) (Lof (listed.setIfInBounds i true)) ops.size 0) ops.size (by omega) (Nat.le_refl _); omega
        · exact .inl h1.2
      split
      · rename_i hw1
        rw [hwant] at hw1
        rw [if_pos hw1] at hstep
        left
        refine sim_one hC (h' := H (i + 1)) (v := V i) hst.hr hρ hfresh ?_ ?_
        · cases hc : acall? (A i).eval o.op with
          | none => simp only [hc] at hstep ⊢; exact hstep
          | some q =>
            cases q with
            | none => simp [hc] at hstep
            | some q => simp only [hc] at hstep ⊢; exact hstep.1
        · intro ι' w' v' hs hv
          exact ih _ ι' _ w' (next ι' w' v' hs.ext hv (hnext' ι' w' hs) hs.dom) hcount'
      · rename_i hw1
        rw [hwant] at hw1
        rw [if_neg hw1] at hstep
        have hs : Step ι (H i) w ι (H (i + 1)) w := by rw [hstep.2]; exact .refl hst.hr
        refine ih _ ι _ w (next ι w undef (fun _ _ h => h) (by rw [hstep.1]; exact .undef) (hnext' ι w hs) hs.dom) hcount'
    | false =>
      have hqeq : firstW (Wr ops H) (Lof (listed.setIfInBounds i true)) ops.size 0 = firstW (Wr ops H) (Lof listed) ops.size 0 :=
        firstW_congr (fun k hk => hLne k (fun e => by rw [e, hwr] at hk; cases hk)) _ _
      by_cases hpure : opKind ops i = .pure
      · -- a pure one
        have hkk : kindOf o.op = .pure := by rw [← opKind_eq ho]; exact hpure
        split
        · rename_i hw1
          rw [hwant] at hw1
          rw [if_pos hw1] at hstep
          left
          have hnc : acall? (A i).eval o.op = none := by
            cases hc : acall? (A i).eval o.op with
            | none => rfl
            | some q => rw [acall_kind hc] at hkk; cases hkk
          simp only [hnc] at hstep
          obtain ⟨h1, h2⟩ := aop_pure hkk hstep
          have hHi : H (i + 1) = H i := h1
          unfold Oper.wp
          obtain ⟨ι', w', v', y, hs, hv⟩ := sim_op (P := P) inv.step.hr (h2 (H (firstW (Wr ops H) (Lof listed) ops.size 0))) hρ (fun id g1 g2 => by omega)
          -- nothing is made
          have goal : wpAny P .any ops Q fuel (listed.setIfInBounds i true) (a'.put o.dst v') w' := by
            refine ih _ ι' _ w' (next ι' w' v' hs.ext hv ?_ ?_) hcount'
            · rw [hqeq]; exact inv.step.trans hs
            · intro id pl hid
              rcases hs.dom id pl hid with g | g
              · exact .inl g
              · omega
          rcases y with y | ⟨y, rfl⟩
          · rw [y]; exact goal
          · rw [y]; exact goal
        · rename_i hw1
          rw [hwant] at hw1
          rw [if_neg hw1] at hstep
          refine ih _ ι _ w (next ι w undef (fun _ _ h => h) (by rw [hstep.1]; exact .undef) (by rw [hqeq]; exact inv.step) (fun id pl h => .inl h)) hcount'
      · cases hlb : lookBase ops i with
        | some b =>
          -- it looks: at what no writer beside it turns
          split
          · rename_i hw1
            rw [hwant] at hw1
            left
            obtain ⟨hkk, hnc, hHi, hdefs, x, hx, hxlt, hat⟩ := look_at hT ho hlb hw1
            have hx0 : x < (H 0).next := by
              rcases hbase b x hx with h | h
              · exact h
              · have := hle i ops.size (by omega) (Nat.le_refl _); omega
            have hxk : ∀ k, k ≤ ops.size → vblk ((A k).tmps.getD b undef) = some x := fun k hk => by rw [never_written hA hdefs k hk]; exact hx
            have undone : ∀ k, firstW (Wr ops H) (Lof listed) ops.size 0 ≤ k → k < ops.size → Wr ops H k = true → Lof listed k = false := by
              intro k h1 h2 h3
              have hq := firstW_at (Wr ops H) (Lof listed) ops.size 0 (by omega)
              rcases Nat.eq_or_lt_of_le h1 with h4 | h4
              · rw [← h4]; exact hq.2
              · have hqo : ops[firstW (Wr ops H) (Lof listed) ops.size 0]? = some (ops[firstW (Wr ops H) (Lof listed) ops.size 0]'(by omega)) := Array.getElem?_eq_getElem _
                have hko : ops[k]? = some ops[k] := Array.getElem?_eq_getElem h2
                rcases pairW hT hle hB hok hqo hko h4 with h5 | ⟨_, h5, _⟩
                · cases hL : Lof listed k with
                  | false => rfl
                  | true =>
                    have := listed_before inv.closed (k + 1) k (by omega) _ hko (inv.closed k _ hko hL) _ h5
                    rw [show listed.getD (firstW (Wr ops H) (Lof listed) ops.size 0) false = Lof listed (firstW (Wr ops H) (Lof listed) ops.size 0) from rfl, hq.2] at this; cases this
                · exact ((h5 hq.1).no (Wr_kind h3).1 (Wr_kind h3).2).elim
            have one : ∀ k, k < ops.size → (Wr ops H k = true → Beside ops A H i k) → (H (k + 1)).get x = (H k).get x := by
              intro k hk hbs
              cases hwk : Wr ops H k with
              | false => exact (hT.quiet hk hwk).2 x (Nat.lt_of_lt_of_le hx0 (hle 0 k (by omega) (by omega)))
              | true =>
                rcases hbs hwk with h | ⟨_, h⟩
                · exact absurd h hpure
                · exact h i b hlb x (hxk k (by omega))
            have along : ∀ d a, a + d ≤ ops.size → (∀ k, a ≤ k → k < a + d → Wr ops H k = true → Beside ops A H i k) → (H (a + d)).get x = (H a).get x := by
              intro d
              induction d with
              | zero => intro a _ _; rfl
              | succ d ihd =>
                intro a h1 h2
                rw [← Nat.add_assoc, one (a + d) (by omega) (h2 (a + d) (by omega) (by omega)), ihd a (by omega) (fun k h3 h4 => h2 k h3 (by omega))]
            have same : (H (firstW (Wr ops H) (Lof listed) ops.size 0)).get x = (H i).get x := by
              rcases Nat.le_total i (firstW (Wr ops H) (Lof listed) ops.size 0) with h1 | h1
              · have := along (firstW (Wr ops H) (Lof listed) ops.size 0 - i) i (by omega) (fun k h2 h3 h4 => by
                  have hL := firstW_done (Wr ops H) (Lof listed) ops.size 0 k (by omega) (by omega) h4
                  have hki : k ≠ i := fun e => by rw [e, hLi] at hL; cases hL
                  have hko : ops[k]? = some ops[k] := Array.getElem?_eq_getElem (by omega)
                  rcases pairW hT hle hB hok ho hko (by omega) with h5 | ⟨_, _, h5⟩
                  · rw [haft k (by omega) h5] at hL; cases hL
                  · exact h5 h4)
                rwa [show i + (firstW (Wr ops H) (Lof listed) ops.size 0 - i) = firstW (Wr ops H) (Lof listed) ops.size 0 by omega] at this
              · have := along (i - firstW (Wr ops H) (Lof listed) ops.size 0) (firstW (Wr ops H) (Lof listed) ops.size 0) (by omega) (fun k h2 h3 h4 => by
                  have hL := undone k h2 (by omega) h4
                  have hko : ops[k]? = some ops[k] := Array.getElem?_eq_getElem (by omega)
                  rcases pairW hT hle hB hok hko ho (by omega) with h5 | ⟨_, h5, _⟩
                  · rw [hbef k h5] at hL; cases hL
                  · exact h5 h4)
                rw [show firstW (Wr ops H) (Lof listed) ops.size 0 + (i - firstW (Wr ops H) (Lof listed) ops.size 0) = i by omega] at this
                exact this.symm
            unfold Oper.wp
            obtain ⟨ι', w', v', y, hs, hv⟩ := sim_op (P := P) inv.step.hr (hat _ same) hρ (fun id g1 g2 => by omega)
            have goal : wpAny P .any ops Q fuel (listed.setIfInBounds i true) (a'.put o.dst v') w' := by
              refine ih _ ι' _ w' (next ι' w' v' hs.ext hv ?_ ?_) hcount'
              · rw [hqeq]; exact inv.step.trans hs
              · intro id pl hid
                rcases hs.dom id pl hid with g | g
                · exact .inl g
                · omega
            rcases y with y | ⟨y, rfl⟩
            · rw [y]; exact goal
            · rw [y]; exact goal
          · rename_i hw1
            rw [hwant] at hw1
            rw [if_neg hw1] at hstep
            refine ih _ ι _ w (next ι w undef (fun _ _ h => h) (by rw [hstep.1]; exact .undef) (by rw [hqeq]; exact inv.step) (fun id pl h => .inl h)) hcount'
        | none =>
        -- it reads, or makes: what writes ahead of it is done, what writes behind it is not
        have hiq : i < firstW (Wr ops H) (Lof listed) ops.size 0 := by
          rcases Nat.lt_or_ge i (firstW (Wr ops H) (Lof listed) ops.size 0) with h1 | h1
          · exact h1
          · exfalso
            have h2 := firstW_at (Wr ops H) (Lof listed) ops.size 0 (by omega)
            rcases Nat.eq_or_lt_of_le h1 with h3 | h3
            · rw [h3, hwr] at h2; cases h2.1
            · have hko : ops[firstW (Wr ops H) (Lof listed) ops.size 0]? = some (ops[firstW (Wr ops H) (Lof listed) ops.size 0]'(by omega)) := Array.getElem?_eq_getElem _
              rcases pairW hT hle hB hok hko ho h3 with h4 | ⟨_, h4, _⟩
              · rw [hbef _ h4] at h2; cases h2.2
              · exact (h4 h2.1).no hpure hlb
        have hnow : ∀ k, i ≤ k → k < firstW (Wr ops H) (Lof listed) ops.size 0 → Wr ops H k = false := by
          intro k h1 h2
          cases hwk : Wr ops H k with
          | false => rfl
          | true =>
            exfalso
            have h3 := firstW_done (Wr ops H) (Lof listed) ops.size 0 k (by omega) h2 hwk
            rcases Nat.eq_or_lt_of_le h1 with h4 | h4
            · rw [← h4, hLi] at h3; cases h3
            · have hko : ops[k]? = some ops[k] := Array.getElem?_eq_getElem (by omega)
              rcases pairW hT hle hB hok ho hko h4 with h5 | ⟨_, _, h5⟩
              · rw [haft k (by omega) h5] at h3; cases h3
              · exact (h5 hwk).no hpure hlb
        have q1 : (H i).quiet (H (i + 1)) := hT.quiet hin hwr
        have q2 : (H (i + 1)).quiet (H (firstW (Wr ops H) (Lof listed) ops.size 0)) := by
          have := hT.quiets (i := i + 1) (firstW (Wr ops H) (Lof listed) ops.size 0 - (i + 1)) (by omega) (fun k h1 h2 => hnow k (by omega) (by omega))
          rwa [show i + 1 + (firstW (Wr ops H) (Lof listed) ops.size 0 - (i + 1)) = firstW (Wr ops H) (Lof listed) ops.size 0 by omega] at this
        have hri : HR ι (H i) w := inv.step.hr.sub fun id pl hid => by
          rcases Nat.lt_or_ge id (H i).next with h1 | h1
          · left; rw [q2.2 id (Nat.lt_of_lt_of_le h1 q1.1), q1.2 id h1]
          · right; exact AHeap.get_ge _ h1
        split
        · rename_i hw1
          rw [hwant] at hw1
          rw [if_pos hw1] at hstep
          left
          refine sim_one hC (h' := H (i + 1)) (v := V i) hri hρ hfresh ?_ ?_
          · cases hc : acall? (A i).eval o.op with
            | none => simp only [hc] at hstep ⊢; exact hstep
            | some q =>
              cases q with
              | none => simp [hc] at hstep
              | some q => simp only [hc] at hstep ⊢; exact hstep.1
          · intro ι' w' v' hs hv
            refine ih _ ι' _ w' (next ι' w' v' hs.ext hv ?_ hs.dom) hcount'
            rw [hqeq]
            exact inv.step.beside hs q1 q2 (hle 0 i (by omega) (by omega))
        · rename_i hw1
          rw [hwant] at hw1
          rw [if_neg hw1] at hstep
          refine ih _ ι _ w (next ι w undef (fun _ _ h => h) (by rw [hstep.1]; exact .undef) (by rw [hqeq]; exact inv.step) (fun id pl h => .inl h)) hcount'

theorem replicate_false (m j : Nat) : (Array.replicate m false).getD j false = false := by
  rw [Array.getD_eq_getD_getElem?]
  rcases Nat.lt_or_ge j m with h | h
  · rw [Array.getElem?_eq_getElem (by simpa using h)]; simp
  · rw [Array.getElem?_eq_none (by simpa using h)]; rfl

/-- A region that draws its order. -/
theorem sim_drawA {C : CallRel} (hC : SimC P C) {ops : Array Oper} {K : Act → AHeap → Prop} {Q : Exit → Act → World → Prop} {a a' : Act} {h : AHeap} {ι : PMap} {w : World}
    (hok : okDraw ops (fun t => a.tmps.getD t undef)) (hops : okOps ops = true) (hw : wpA P C ops (chkOf ops (Region.before ops)) K 0 ops.toList a h) {N : Nat} (hKN : ∀ a h, K a h → h.next ≤ N) (hr : HR ι h w) (hb : Bd N ι h) (he : ER ι a a')
    (hK : ∀ ι' h' w' a₁ a₁', Step ι h w ι' h' w' → Bd N ι' h' → ER ι' a₁ a₁' → K a₁ h' → Q .normal a₁' w') : wpAny P .any ops Q ops.size (Array.replicate ops.size false) a' { w with drawn := w.drawn + 1 } := by
  obtain ⟨A, H, V, e1, e2, hKn, hs⟩ := wpA_trace ops.toList 0 a h (by simp) hw
  have hT : Trace P C ops A H V := ⟨fun k => hs k (Nat.zero_le _)⟩
  rw [Nat.zero_add, Array.length_toList] at hKn
  have hrd : HR ι h w.drew := hr.heap rfl
  have hdn : ∀ k, k ≤ ops.size → (A k).defers = [] ∧ (A k).tmps.size = (A 0).tmps.size := by
    intro k
    induction k with
    | zero => intro _; rw [e1]; exact ⟨he.d, rfl⟩
    | succ k ih =>
      intro hk
      rw [(hT.step k _ (Array.getElem?_eq_getElem (show k < ops.size by omega))).1]
      obtain ⟨g1, g2⟩ := ih (by omega)
      cases ops[k].dst with
      | none => exact ⟨g1, g2⟩
      | some d => exact ⟨g1, by simp [Act.put, g2]⟩
  have hbase : ∀ t x, vblk ((A 0).tmps.getD t undef) = some x → x < (H 0).next ∨ N ≤ x := by
    intro t x hx
    rw [e1] at hx
    rw [e2]
    have hs := he.slot t
    generalize a.tmps.getD t undef = v at hx hs
    generalize a'.tmps.getD t undef = v' at hs
    cases hs <;> simp [vblk] at hx
    rename_i id pl off hid
    subst hx
    rcases Nat.lt_or_ge id h.next with g | g
    · exact .inl g
    · right
      exact Nat.le_of_not_lt fun g2 => by rw [hb id g g2] at hid; cases hid
  refine sim_any hC hT (by rw [e1]; exact hok) hops (hKN _ _ hKn) hbase (ι₀ := ι) (w₀ := w.drew) ?_ ops.size _ ι a' _ ?_ (by simp [List.count_le_length])
  · intro ι' w' a₁' hst hbd hsz hd hsl
    rw [e2] at hst
    refine hK ι' (H ops.size) w' (A ops.size) a₁' (Step.heap (w₁ := w.drew) rfl rfl rfl rfl hst) hbd ⟨⟨by rw [hsz, (hdn _ (Nat.le_refl _)).2], fun i h1 h2 => ?_⟩, (hdn _ (Nat.le_refl _)).1, hd⟩ hKn
    have := hsl i
    rw [Array.getD_eq_getD_getElem?, Array.getD_eq_getD_getElem?, Array.getElem?_eq_getElem h1, Array.getElem?_eq_getElem h2] at this
    exact this
  · have hL : ∀ k, Lof (Array.replicate ops.size false) k = false := fun k => replicate_false _ _
    refine ⟨by simp, fun j oj _ hl => ?_, by rw [e1]; exact he.tmps.1.symm, he.d', fun t => ?_, ?_, fun id pl hid => ?_⟩
    · rw [replicate_false] at hl; cases hl
    · have : sv ops V (Lof (Array.replicate ops.size false)) (A 0) t ops.size = (A 0).tmps.getD t undef := by
        have : ∀ k, sv ops V (Lof (Array.replicate ops.size false)) (A 0) t k = (A 0).tmps.getD t undef := by
          intro k
          induction k with
          | zero => rfl
          | succ k ih => unfold sv; rw [if_neg (by rw [hL]; simp), ih]
        exact this _
      rw [this, e1]; exact he.slot t
    · -- nothing is done: the heap is what the first that writes will find
      have hq := firstW_le (Wr ops H) (Lof (Array.replicate ops.size false)) ops.size 0
      have hquiet : (H 0).quiet (H (firstW (Wr ops H) (Lof (Array.replicate ops.size false)) ops.size 0)) := by
        have := hT.quiets (i := 0) (firstW (Wr ops H) (Lof (Array.replicate ops.size false)) ops.size 0) (by omega) (fun k h1 h2 => by
          cases hwk : Wr ops H k with
          | false => rfl
          | true =>
            have := firstW_done (Wr ops H) (Lof (Array.replicate ops.size false)) ops.size 0 k (by omega) (by omega) hwk
            rw [hL] at this; cases this)
        rwa [Nat.zero_add] at this
      rw [e2] at hquiet ⊢
      refine Step.quietTo (.refl hrd) hquiet fun id pl hid => ?_
      rcases Nat.lt_or_ge id h.next with h1 | h1
      · exact .inl h1
      · right
        have hNid : N ≤ id := Nat.le_of_not_lt fun h2 => by rw [hb id h1 h2] at hid; cases hid
        have hqn := hKN _ _ hKn
        have hmono : ∀ d, firstW (Wr ops H) (Lof (Array.replicate ops.size false)) ops.size 0 + d ≤ ops.size → (H (firstW (Wr ops H) (Lof (Array.replicate ops.size false)) ops.size 0)).next ≤ (H (firstW (Wr ops H) (Lof (Array.replicate ops.size false)) ops.size 0 + d)).next := by
          intro d
          induction d with
          | zero => intro _; exact Nat.le_refl _
          | succ d ih => intro hd; exact Nat.le_trans (ih (by omega)) (hT.next (fun g args h v h' hc => (hC g args h v h' hc).2.1) (fun _ _ _ _ _ => aop_next) (by omega))
        have := hmono (ops.size - firstW (Wr ops H) (Lof (Array.replicate ops.size false)) ops.size 0) (by omega)
        rw [show firstW (Wr ops H) (Lof (Array.replicate ops.size false)) ops.size 0 + (ops.size - firstW (Wr ops H) (Lof (Array.replicate ops.size false)) ops.size 0) = ops.size by omega] at this
        omega
    · rw [e2]
      rcases Nat.lt_or_ge id h.next with h1 | h1
      · exact .inl h1
      · right; right
        exact Nat.le_of_not_lt fun h2 => by rw [hb id h1 h2] at hid; cases hid

theorem sim_draw {C : CallRel} (hC : SimC P C) (hm : P.follows .mixedOrders = true) {id : Nat} {ops : Array Oper} {K : Act → AHeap → Prop} {Q : Exit → Act → World → Prop} {a a' : Act} {h : AHeap} {ι : PMap} {w : World}
    (hok : okDraw ops (fun t => a.tmps.getD t undef)) (hops : okOps ops = true) (hw : wpA P C ops (chkOf ops (Region.before ops)) K 0 ops.toList a h) {N : Nat} (hKN : ∀ a h, K a h → h.next ≤ N) (hr : HR ι h w) (hb : Bd N ι h) (he : ER ι a a')
    (hK : ∀ ι' h' w' a₁ a₁', Step ι h w ι' h' w' → Bd N ι' h' → ER ι' a₁ a₁' → K a₁ h' → Q .normal a₁' w') : (Code.region id ops true).wp P Q a' w :=
  wp_region_any hm (sim_drawA hC hok hops hw hKN hr hb he hK)

end
end Go.AM
