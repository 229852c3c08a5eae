/- AM: the operations that hang on the slots alone. -/
import Derived.Test.YtfdbadpiklmbaaaAmOpsA
import Derived.Laws.Tables
import Derived.Great.BuildSlice
import Derived.Laws.Slices
set_option linter.unusedSimpArgs false
set_option linter.unusedVariables false
set_option linter.unnecessarySimpa false
set_option maxRecDepth 100000
namespace Go.AM
section
variable {P : Program} {ι : PMap} {w : World}

theorem intOf_inv {v v' : Value} {n : Int} (h : intOf? v = some n) (hv : VR ι v v') : ∃ k, v' = .int k n := by
  cases v <;> simp [intOf?] at h
  subst h
  exact ⟨_, hv.int_inv⟩

/-- What a bound of a slice expression says. -/
def bnd (v : Option Value) (d : Int) : Option Int :=
  match v with
  | none => some d
  | some v => intOf? v

theorem run_bounds2 {lo hi : Option Value} {b : Bool} {len cap : Nat} {l h : Int} (hl : bnd lo 0 = some l) (hh : bnd hi len = some h) (h0 : 0 ≤ l) (h1 : l ≤ h) (h2 : h ≤ cap) :
    (Instr.sliceBounds b len cap lo hi none).run P w = .ok (l.toNat, h.toNat, cap) w := by
  have key : ∀ {v : Value} {i : Int} {y : Nat} {code : BoundsCode}, intOf? v = some i → 0 ≤ i → i ≤ y → (Instr.sliceBound v y code).run P w = .ok i.toNat w := by
    intro v i y code hv a1 a2
    cases v <;> simp [intOf?] at hv
    subst hv
    simp [Instr.sliceBound, asIntOf, a1, a2]
  cases hi with
  | none =>
    simp only [bnd, Option.some.injEq] at hh
    subst hh
    cases lo with
    | none =>
      simp only [bnd, Option.some.injEq] at hl
      subst hl
      simp [Instr.sliceBounds]
    | some v =>
      have := key (code := .sliceB) (y := len) (show intOf? v = some l from hl) h0 (by omega)
      simp [Instr.sliceBounds, this]
  | some u =>
    have k1 := fun code => key (code := code) (y := cap) (show intOf? u = some h from hh) (by omega) h2
    cases lo with
    | none =>
      simp only [bnd, Option.some.injEq] at hl
      subst hl
      simp [Instr.sliceBounds, k1]
    | some v =>
      have := key (code := .sliceB) (y := h.toNat) (show intOf? v = some l from hl) h0 (by omega)
      simp [Instr.sliceBounds, k1, this]

theorem run_bounds3 {lo : Option Value} {u m' : Value} {b : Bool} {len cap : Nat} {l h m : Int} (hl : bnd lo 0 = some l) (hh : intOf? u = some h) (hm : intOf? m' = some m) (h0 : 0 ≤ l) (h1 : l ≤ h) (h2 : h ≤ m) (h3 : m ≤ cap) :
    (Instr.sliceBounds b len cap lo (some u) (some m')).run P w = .ok (l.toNat, h.toNat, m.toNat) w := by
  have key : ∀ {v : Value} {i : Int} {y : Nat} {code : BoundsCode}, intOf? v = some i → 0 ≤ i → i ≤ y → (Instr.sliceBound v y code).run P w = .ok i.toNat w := by
    intro v i y code hv a1 a2
    cases v <;> simp [intOf?] at hv
    subst hv
    simp [Instr.sliceBound, asIntOf, a1, a2]
  have k0 := fun code => key (code := code) (y := cap) hm (by omega) h3
  have k1 := fun code => key (code := code) (y := m.toNat) hh (by omega) (by omega)
  cases lo with
  | none =>
    simp only [bnd, Option.some.injEq] at hl
    subst hl
    simp [Instr.sliceBounds, k0, k1]
  | some v =>
    have := key (code := .slice3C) (y := h.toNat) (show intOf? v = some l from hl) h0 (by omega)
    simp [Instr.sliceBounds, k0, k1, this]

theorem bnd_vr {ρ ρ' : Operand → Value} {lo : Option Operand} (h : ∀ x ∈ lo, VR ι (ρ x) (ρ' x)) {d l : Int}
    (hl : (match lo.map (fun v => intOf? (ρ v)) with | none => some d | some v => v) = some l) : bnd (lo.map ρ') d = some l := by
  cases lo with
  | none => exact hl
  | some x =>
    simp only [Option.map_some] at hl
    obtain ⟨k, hk⟩ := intOf_inv hl (h x rfl)
    simp [bnd, hk, intOf?]

theorem sliced_eq (a : Option Addr) (l h m s : Nat) : sliced a l h m s = .slice (if m = l then a else a.map (·.add (l * s))) (h - l) (m - l) := rfl

theorem sim_slice {ρ ρ' : Operand → Value} {t : TypeId} {x : Operand} {lo hi mx : Option Operand} {v : Value}
    (h : aslice P t (ρ x) (lo.map fun v => intOf? (ρ v)) (hi.map fun v => intOf? (ρ v)) (mx.map fun v => intOf? (ρ v)) = some v)
    (hx : VR ι (ρ x) (ρ' x)) (hlo : ∀ x ∈ lo, VR ι (ρ x) (ρ' x)) (hhi : ∀ x ∈ hi, VR ι (ρ x) (ρ' x)) (hmx : ∀ x ∈ mx, VR ι (ρ x) (ρ' x)) :
    ∃ v', (Instr.sliceAt t (ρ' x) (lo.map ρ') (hi.map ρ') (mx.map ρ')).run P w = .ok v' w ∧ VR ι v v' := by
  generalize ρ' x = x' at hx ⊢
  unfold aslice at h
  split at h
  · -- a string
    rename_i s ht hs
    rw [hs] at hx
    rw [hx.string_inv]
    split at h
    · cases h
    · rename_i hm
      have hmx0 : mx = none := by cases mx <;> simp_all
      subst hmx0
      split at h
      · rename_i h' l' hh hl
        split at h
        · rename_i hc
          cases h
          have := run_bounds2 (P := P) (w := w) (b := false) (len := s.size) (cap := s.size) (bnd_vr hlo hl) (bnd_vr hhi hh) hc.1 hc.2.1 hc.2.2
          refine ⟨_, ?_, .string _⟩
          simp [Instr.sliceAt, Instr.slice, run_und ht, this]
        · cases h
      · cases h
  · rename_i e a len cap ht hs
    rw [hs] at hx
    split at h
    · cases h
    · rename_i i hi'
      have hel : P.elem t = e := by simp [Program.elem, ht]
      have run2 : ∀ {a' : Option Addr} {len' cap' : Nat} {l' h' : Int}, bnd (lo.map ρ') 0 = some l' → bnd (hi.map ρ') len' = some h' → 0 ≤ l' → l' ≤ h' → h' ≤ cap' →
          (Instr.sliceAt t (.slice a' len' cap') (lo.map ρ') (hi.map ρ') none).run P w = .ok (sliced a' l'.toNat h'.toNat cap' i.size) w := by
        intro a' len' cap' l' h' b1 b2 c1 c2 c3
        have := run_bounds2 (P := P) (w := w) (b := true) (len := len') (cap := cap') b1 b2 c1 c2 c3
        simp [Instr.sliceAt, Instr.slice, run_und ht, this, run_size hi', sliced]
      split at h
      · -- two bounds
        rename_i h' l' hh hl hm
        have hmx0 : mx = none := by cases mx <;> simp_all
        subst hmx0
        have bl := bnd_vr hlo hl
        split at h
        · -- nil
          split at h
          · rename_i hc
            cases h
            obtain ⟨c1, c2, c3, rfl⟩ := hc
            cases hx
            refine ⟨_, run2 bl (bnd_vr hhi hh) c1 c2 (by omega), ?_⟩
            have e1 : l'.toNat = 0 := by omega
            have e2 : h'.toNat = 0 := by omega
            rw [sliced_eq, e1, e2]; exact .sliceNil
          · cases h
        · rename_i ad
          split at h
          · rename_i hsp
            split at h
            · rename_i hc
              obtain ⟨c1, c2, c3⟩ := hc
              cases h
              obtain ⟨id, off, sp⟩ := ad
              simp only at hsp
              subst hsp
              have bh := bnd_vr hhi hh
              cases hx with
              | @sliceX id pl off len cap hι hlc =>
                refine ⟨_, run2 bl bh c1 c2 c3, ?_⟩
                rw [sliced_eq]
                split
                · exact .sliceX off _ _ hι (by omega)
                · rw [Option.map_some, add_lit, Nat.add_assoc]
                  exact .sliceX (off + l'.toNat * i.size) _ _ hι (by omega)
              | slice0 _ b =>
                refine ⟨_, run2 bl bh c1 c2 c3, ?_⟩
                have e1 : l'.toNat = 0 := by omega
                have e2 : h'.toNat = 0 := by omega
                rw [sliced_eq, e1, e2]; exact .slice0 _ _
            · cases h
          · rename_i sz hsp
            split at h
            · rename_i hc
              obtain ⟨c0, c1, c2, c3⟩ := hc
              cases h
              obtain ⟨id, off, sp⟩ := ad
              simp only at hsp
              subst hsp
              have bh := bnd_vr hhi hh
              cases hx with
              | @sliceU id pl off len kn cap' sz hι hlc hk hsz hb =>
                refine ⟨_, run2 bl bh c1 c2 (by omega), ?_⟩
                rw [sliced_eq]
                split
                · rename_i hcl
                  have e1 : h'.toNat - l'.toNat = 0 := by omega
                  have e2 : cap - l'.toNat = 0 := by omega
                  rw [e1, e2, hcl, Nat.sub_self]
                  exact .slice0 _ _
                · rw [Option.map_some, add_lit, Nat.add_assoc]
                  refine .sliceU (off + l'.toNat * i.size) _ _ _ sz hι (by omega) (by omega) hsz ?_
                  rw [← c0]
                  have : l'.toNat * sz + (cap' - l'.toNat) * sz = cap' * sz := by rw [← Nat.add_mul]; congr 1; omega
                  omega
              | slice0 _ b =>
                refine ⟨_, run2 bl bh c1 c2 (by omega), ?_⟩
                have e1 : l'.toNat = 0 := by omega
                have e2 : h'.toNat = 0 := by omega
                rw [sliced_eq, e1, e2]; exact .slice0 _ _
            · cases h
      · -- three bounds
        rename_i h' l' m' hh hl hm
        split at h
        · rename_i hiv ad hhi'
          cases hi with
          | none => simp at hhi'
          | some hio =>
          cases mx with
          | none => simp at hm
          | some mxo =>
          simp only [Option.map_some, Option.some.injEq] at hm
          simp only [Option.map_some] at hh
          obtain ⟨kh, eh⟩ := intOf_inv hh (hhi hio rfl)
          obtain ⟨km, em⟩ := intOf_inv hm (hmx mxo rfl)
          have bl := bnd_vr hlo hl
          have run3 : ∀ {a' : Option Addr} {len' cap' : Nat}, 0 ≤ l' → l' ≤ h' → h' ≤ m' → m' ≤ cap' →
              (Instr.sliceAt t (.slice a' len' cap') (lo.map ρ') (some (ρ' hio)) (some (ρ' mxo))).run P w = .ok (sliced a' l'.toNat h'.toNat m'.toNat i.size) w := by
            intro a' len' cap' c1 c2 c3 c4
            have := run_bounds3 (P := P) (w := w) (b := true) (len := len') (cap := cap') (u := ρ' hio) (m' := ρ' mxo) bl (by rw [eh]; rfl) (by rw [em]; rfl) c1 c2 c3 c4
            simp [Instr.sliceAt, Instr.slice, run_und ht, this, run_size hi', sliced]
          split at h
          · rename_i hsp
            split at h
            · rename_i hc
              obtain ⟨c1, c2, c3, c4⟩ := hc
              cases h
              obtain ⟨id, off, sp⟩ := ad
              simp only at hsp
              subst hsp
              cases hx with
              | @sliceX id pl off len cap hι hlc =>
                refine ⟨_, run3 c1 c2 c3 c4, ?_⟩
                rw [sliced_eq]
                split
                · exact .sliceX off _ _ hι (by omega)
                · rw [Option.map_some, add_lit, Nat.add_assoc]
                  exact .sliceX (off + l'.toNat * i.size) _ _ hι (by omega)
              | slice0 _ b =>
                refine ⟨_, run3 c1 c2 c3 c4, ?_⟩
                have e1 : l'.toNat = 0 := by omega
                have e2 : h'.toNat = 0 := by omega
                have e3 : m'.toNat = 0 := by omega
                rw [sliced_eq, e1, e2, e3]; exact .slice0 _ _
            · cases h
          · rename_i sz hsp
            split at h
            · rename_i hc
              obtain ⟨c1, c2, c3, c4, c5⟩ := hc
              cases h
              obtain ⟨id, off, sp⟩ := ad
              simp only at hsp
              subst hsp
              cases hx with
              | @sliceU id pl off len kn cap' sz hι hlc hk hsz hb =>
                refine ⟨_, run3 c1 c2 c3 (by omega), ?_⟩
                rw [sliced_eq, if_neg (by omega), Option.map_some, add_lit, Nat.add_assoc]
                exact .sliceX (off + l'.toNat * i.size) _ _ hι (by omega)
              | slice0 _ b => omega
            · cases h
        · cases h
      · cases h
  · cases h

theorem sim_fieldAddr {s : TypeId} {x x' : Value} {f : Nat} {v : Value} (h : afieldAddr P s x f = some v) (hx : VR ι x x') :
    ∃ v', (Instr.fieldAt s x' f).run P w = .ok v' w ∧ VR ι v v' := by
  unfold afieldAddr at h
  split at h
  · rename_i fs a ht
    split at h
    · rename_i fd hfd
      split at h
      · rename_i hc
        cases h
        obtain ⟨pl, hι, hsp, rfl⟩ := hx.ptr_inv
        refine ⟨.pointer (some ⟨pl.b, pl.base + (a.off + fd.offset), none⟩), ?_, .ptr _ hι⟩
        simp [Instr.fieldAt, run_und ht, hfd, Instr.sureAddr, fieldPlace, run_size' hc.1, hc.2.1, add_lit, Nat.add_assoc]
      · cases h
    · cases h
  · cases h

theorem sim_field {s : TypeId} {x x' : Value} {f : Nat} {v : Value} (h : afield P s x f = some v) (hx : VR ι x x') :
    ∃ v', (Instr.field s x' f).run P w = .ok v' w ∧ VR ι v v' := by
  unfold afield at h
  split at h
  · rename_i fs cs ht
    split at h
    · rename_i fd hfd
      obtain ⟨cs', rfl, hc⟩ := hx.agg_inv
      obtain ⟨v', h1, h2⟩ := sim_part (w := w) h hc
      exact ⟨v', by simp [Instr.field, run_und ht, hfd, asAgg, h1], h2⟩
    · cases h
  · cases h

theorem sim_indexAddr {t : TypeId} {x x' i i' : Value} {v : Value} (h : aindexAddr P t x i = some v) (hx : VR ι x x') (hi : VR ι i i') :
    ∃ v', (Instr.indexAt t x' i').run P w = .ok v' w ∧ VR ι v v' := by
  unfold aindexAddr at h
  split at h
  · rename_i e a len cap k n ht
    split at h
    · rename_i inf hinf
      split at h
      · rename_i hc
        cases h
        rw [hi.int_inv]
        cases hx with
        | @sliceX id pl off len cap hι hlc =>
          refine ⟨.pointer (some ⟨pl.b, pl.base + (off + n.toNat * inf.size), none⟩), ?_, .ptr _ hι⟩
          simp [Instr.indexAt, asIntOf, run_und ht, hc.1, hc.2, run_size hinf, add_lit, Nat.add_assoc]
        | @sliceU id pl off len kn cap' sz hι hlc hk hsz hb =>
          refine ⟨.pointer (some ⟨pl.b, pl.base + (off + n.toNat * inf.size), none⟩), ?_, .ptr _ hι⟩
          simp [Instr.indexAt, asIntOf, run_und ht, hc.1, hc.2, run_size hinf, add_lit, Nat.add_assoc]
        | slice0 => omega
      · cases h
    · cases h
  · rename_i m e a k n ht
    split at h
    · rename_i inf hinf
      split at h
      · rename_i hc
        cases h
        rw [hi.int_inv]
        obtain ⟨pl, hι, hsp, rfl⟩ := hx.ptr_inv
        refine ⟨.pointer (some ⟨pl.b, pl.base + (a.off + n.toNat * inf.size), none⟩), ?_, .ptr _ hι⟩
        simp [Instr.indexAt, asIntOf, run_und ht, Instr.sureAddr, hc.2.1, hc.2.2, run_size hinf, add_lit, Nat.add_assoc]
      · cases h
    · cases h
  · cases h

theorem sim_index {t : TypeId} {x x' i i' : Value} {v : Value} (h : aindex P t x i = some v) (hx : VR ι x x') (hi : VR ι i i') :
    ∃ v', (Instr.index t x' i').run P w = .ok v' w ∧ VR ι v v' := by
  unfold aindex at h
  split at h
  · rename_i m e cs k n ht
    split at h
    · rename_i inf hinf
      split at h
      · rename_i hc
        rw [hi.int_inv]
        obtain ⟨cs', rfl, hcs⟩ := hx.agg_inv
        obtain ⟨v', h1, h2⟩ := sim_part (w := w) h hcs
        exact ⟨v', by simp [Instr.index, asIntOf, run_und ht, hc.1, hc.2, run_size hinf, h1], h2⟩
      · cases h
    · cases h
  · rename_i s k n ht
    split at h
    · rename_i hc
      rw [hi.int_inv, hx.string_inv]
      cases hb : s[n.toNat]? with
      | none => simp [hb] at h
      | some b =>
        simp [hb] at h
        subst h
        exact ⟨.int .u8 b.toNat, by simp [Instr.index, asIntOf, run_und ht, hc, hb], .int _ _⟩
    · cases h
  · cases h

theorem foldl_set (cs : Array Value) (off : Nat) : ∀ (l : List Value) (i : Nat) (a : Array Value),
    ((l.zipIdx i).foldl (fun (cs : Array Value) (c : Value × Nat) => cs.setIfInBounds (off + c.2) c.1) a).toList = putCells a.toList (off + i) l
  | [], _, _ => rfl
  | v :: l, i, a => by
    simp only [List.zipIdx_cons, List.foldl_cons, putCells]
    rw [foldl_set cs off l (i + 1)]
    simp [Nat.add_assoc]

theorem sim_fill {place : Nat → Option (Nat × Nat)} : ∀ (parts parts' : List (Nat × Value)) (cells : List Value) (cells' : Array Value) (c : List Value),
    afill place cells parts = some c → VRL ι cells cells'.toList → parts.map (·.1) = parts'.map (·.1) → VRL ι (parts.map (·.2)) (parts'.map (·.2)) →
    ∃ c', Instr.fill place cells' parts' = some c' ∧ VRL ι c c'.toList
  | [], parts', cells, cells', c, h, hc, hp, _ => by
    cases parts' with
    | nil => simp [afill] at h; subst h; exact ⟨cells', rfl, hc⟩
    | cons => simp at hp
  | (i, v) :: rest, parts', cells, cells', c, h, hc, hp, hv => by
    cases parts' with
    | nil => simp at hp
    | cons p rest' =>
      obtain ⟨i', v'⟩ := p
      simp only [List.map_cons, List.cons.injEq] at hp
      obtain ⟨rfl, hp⟩ := hp
      simp only [List.map_cons] at hv
      obtain ⟨v'', c'', he, hv1, hv2⟩ := hv.cons_inv
      simp only [List.cons.injEq] at he
      obtain ⟨rfl, rfl⟩ := he
      unfold afill at h
      unfold Instr.fill
      split at h
      · cases h
      · rename_i off size hpl
        simp only [hpl]
        split at h
        · cases h
        · rename_i hno
          have hsz := hv1.cells_size
          have hlen : cells'.size = cells.length := by have := hc.1; simpa using this.symm
          rw [if_neg (by rw [hsz, hlen]; simpa using hno)]
          refine sim_fill rest rest' _ _ c h ?_ hp hv2
          have e1 : (v'.cells.zipIdx.foldl (fun (cs : Array Value) (x : Value × Nat) => match x with | (c, j) => cs.setIfInBounds (off + j) c) cells').toList = putCells cells'.toList off v'.cells.toList := by
            have := foldl_set cells' off v'.cells.toList 0 cells'
            rw [← Array.foldl_toList, Array.toList_zipIdx]
            simpa using this
          rw [e1]
          exact hc.putCells hv1.cells off

theorem mapM_places {fs : List Field} {pl : List (Nat × Nat)} (h : places P fs = some pl) : fs.mapM (fun f => (P.info? f.type).map fun i => (f.offset, i.size)) = some pl := by
  induction fs generalizing pl with
  | nil => simp [places] at h; subst h; rfl
  | cons f fs ih =>
    unfold places at h
    split at h
    · rename_i i r hi hr
      cases h
      simp [List.mapM_cons, hi, ih hr]
    · cases h

theorem sim_build {t : TypeId} {parts parts' : List (Nat × Value)} {v : Value} (h : abuild P t parts = some v) (hp : parts.map (·.1) = parts'.map (·.1)) (hv : VRL ι (parts.map (·.2)) (parts'.map (·.2))) :
    ∃ v', (Instr.build t parts'.toArray).run P w = .ok v' w ∧ VR ι v v' := by
  unfold abuild at h
  have zero : ∀ {z : Value}, plainV 3 z = true → VRL ι z.cells.toList z.cells.toList := fun hz => (VR.refl_plain ι 3 _ hz).cells
  split at h
  · rename_i z fs hz ht
    split at h
    · rename_i hpz
      split at h
      · rename_i pl hpl
        cases hf : afill (pl[·]?) z.cells.toList parts with
        | none => simp [hf] at h
        | some c =>
          simp [hf] at h
          subst h
          obtain ⟨c', h1, h2⟩ := sim_fill parts parts' _ z.cells c hf (zero hpz) hp hv
          refine ⟨.agg c', run_build w t _ c' ?_, .of_agg (VRA_iff.2 (by simpa using h2))⟩
          unfold zeroT at hz
          cases hi : P.info? t with
          | none => simp [hi] at hz
          | some it =>
            simp [hi] at hz
            simp only [Program.built, hi, ht, hz, mapM_places hpl]
            simpa using h1
      · cases h
    · cases h
  · rename_i z n e hz ht
    split at h
    · rename_i hpz
      split at h
      · rename_i i hi'
        cases hf : afill (fun k => some (k * i.size, i.size)) z.cells.toList parts with
        | none => simp [hf] at h
        | some c =>
          simp [hf] at h
          subst h
          obtain ⟨c', h1, h2⟩ := sim_fill parts parts' _ z.cells c hf (zero hpz) hp hv
          refine ⟨.agg c', run_build w t _ c' ?_, .of_agg (VRA_iff.2 (by simpa using h2))⟩
          unfold zeroT at hz
          cases hi : P.info? t with
          | none => simp [hi] at hz
          | some it =>
            simp [hi] at hz
            simp only [Program.built, hi, ht, hz, hi']
            simpa using h1
      · cases h
    · cases h
  · cases h

theorem sim_un {op : UnOp} {x x' v : Value} (h : aun op x = some v) (hx : VR ι x x') : (Op.unary op x').run P w = .ok v w ∧ VR ι v v := by
  unfold aun at h
  split at h
  · rw [hx.bool_inv]; cases h; exact ⟨rfl, .bool _⟩
  · rw [hx.int_inv]; cases h; exact ⟨rfl, .int _ _⟩
  · rw [hx.int_inv]; cases h; exact ⟨rfl, .int _ _⟩
  · cases h

theorem sim_minmax {mx : Bool} {f : Value → Value → Sem Value} (hf : f = if mx then Builtin.max2 else Builtin.min2) : ∀ (l l' : List Value) (x v : Value),
    l.foldlM (minmax mx) x = some v → VRL ι l l' → (∃ k n, x = .int k n) → (l'.foldlM f x).run P w = .ok v w ∧ VR ι v v
  | [], l', x, v, h, hl, hx => by
    obtain ⟨k, n, rfl⟩ := hx
    simp at h
    subst h
    rw [hl.nil_inv]
    exact ⟨rfl, .int _ _⟩
  | y :: l, l', x, v, h, hl, hx => by
    obtain ⟨k, n, rfl⟩ := hx
    obtain ⟨y', r', rfl, hy, hr⟩ := hl.cons_inv
    simp only [List.foldlM_cons, Option.bind_eq_bind] at h
    cases y with
    | int k' m =>
      rw [hy.int_inv]
      simp only [minmax] at h
      split at h
      · rename_i hk
        simp only [Option.bind_some] at h
        obtain ⟨h1, h2⟩ := sim_minmax hf l r' _ v h hr ⟨_, _, rfl⟩
        refine ⟨?_, h2⟩
        simp only [List.foldlM_cons, Sem.run_bind]
        subst hf
        cases mx <;> simpa [Builtin.max2, Builtin.min2] using h1
      · simp at h
    | _ => simp [minmax] at h

theorem sim_aminmax {mx : Bool} {ats : Array TypeId} {ty : TypeId} {l l' : Array Value} {v : Value} (h : aminmax mx l.toList = some v) (hl : VRA ι l l') :
    ((if mx then Builtin.max_ ats ty l' else Builtin.min_ ats ty l')).run P w = .ok v w ∧ VR ι v v := by
  have hl := VRA_iff.1 hl
  unfold aminmax at h
  split at h
  · cases h
  · rename_i k x rest hx
    rw [hx] at hl
    obtain ⟨x', r', he, h1, h2⟩ := hl.cons_inv
    rw [h1.int_inv] at he
    obtain ⟨h3, h4⟩ := sim_minmax (P := P) (w := w) (mx := mx) rfl rest r' _ v h h2 ⟨_, _, rfl⟩
    refine ⟨?_, h4⟩
    cases mx
    · simp only [Bool.false_eq_true, if_false, Builtin.min_, he] at h3 ⊢; exact h3
    · simp only [if_true, Builtin.max_, he] at h3 ⊢; exact h3
  · cases h

end
end Go.AM
