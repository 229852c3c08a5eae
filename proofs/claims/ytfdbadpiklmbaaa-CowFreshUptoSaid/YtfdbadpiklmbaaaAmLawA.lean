/- AM: what a law is handed in: its arguments as abstract values over read-only objects. -/
import Derived.Test.YtfdbadpiklmbaaaAmExec
import Derived.ChangeArms
import Derived.OpenShut
import Derived.WideShapes
import Derived.WideKeyArgs
import Derived.Below
import Derived.Carry
import Derived.ChangeSame
import Derived.RowKit
set_option linter.unusedSimpArgs false
set_option linter.unusedVariables false
set_option linter.unnecessarySimpa false
set_option maxRecDepth 100000
namespace Go.AM
open Go.ChangeShapes Go.WideShapes

/-- The shapes of arguments. -/
inductive Sh where
  | bool | int (k : IntKind) | str | slice (sz : Nat) (e : Sh) | pnil | pcons (sz : Nat) (s rest : Sh)

def Sh.ofParts : List (Nat × Sh) → Sh
  | [] => .pnil
  | (sz, s) :: r => .pcons sz s (ofParts r)

/-- Do the parts lie one behind the other, from a place to an end? -/
def tiles (P : Program) : Nat → List Field → Nat → Bool
  | at0, [], n => at0 == n
  | at0, f :: fs, n => f.offset == at0 && tiles P (at0 + P.cellsOf f.type) fs n

def shapeOf (P : Program) : Nat → TypeId → Option Sh
  | 0, _ => none
  | n + 1, t =>
    match P.underlying t with
    | some .bool => some .bool
    | some (.int k) => some (.int k)
    | some .string => some .str
    | some (.slice e) => if P.cellsOf e = 0 then none else (shapeOf P n e).map (.slice (P.cellsOf e))
    | some (.struct fs) => if tiles P 0 fs.toList (P.cellsOf t) then (fs.toList.mapM fun f => (shapeOf P n f.type).map fun s => (P.cellsOf f.type, s)).map Sh.ofParts else none
    | some (.array m e) => if P.cellsOf t = m * P.cellsOf e then (shapeOf P n e).map fun s => Sh.ofParts (List.replicate m (P.cellsOf e, s)) else none
    | _ => none

section
variable {H : Type}

/-- Cells of a shape that read as so. -/
def Rd (h : AHeap) : Sh → List Value → DataW H → Prop
  | .bool, cs, d => ∃ b : Bool, cs = [.bool b] ∧ d = .lit (.bool b)
  | .int k, cs, d => ∃ n : Int, cs = [.int k n] ∧ k.min ≤ n ∧ n ≤ k.max ∧ d = .lit (.int k n)
  | .str, cs, d => ∃ s : ByteArray, cs = [.string s] ∧ s.size ≤ maxLen ∧ d = .lit (.string s.data.toList)
  | .slice sz e, cs, d => (cs = [.slice none 0 0] ∧ d = .nil) ∨ ∃ (id len cap : Nat) (css : List (List Value)) (ds sp : List (DataW H)), cs = [.slice (some ⟨id, 0, none⟩) len cap] ∧ len ≤ cap ∧ cap ≤ maxLen ∧
      h.get id = .cells css.flatten .ro ∧ css.length = len ∧ ds.length = len ∧ d = .slice ds sp ∧ ∀ (i : Nat) (c : List Value) (d : DataW H), css[i]? = some c → ds[i]? = some d → c.length = sz ∧ Rd h e c d
  | .pnil, cs, d => cs = [] ∧ d = .agg []
  | .pcons sz s rest, cs, d => ∃ (a b : List Value) (d0 : DataW H) (ds : List (DataW H)), cs = a ++ b ∧ a.length = sz ∧ d = .agg (d0 :: ds) ∧ Rd h s a d0 ∧ Rd h rest b (.agg ds)

theorem Rd.mono {h h' : AHeap} (hq : h.quiet h') : ∀ {s : Sh} {cs : List Value} {d : DataW H}, Rd h s cs d → Rd h' s cs d := by
  intro s
  induction s with
  | bool => intro cs d hr; simpa only [Rd] using hr
  | int k => intro cs d hr; simpa only [Rd] using hr
  | str => intro cs d hr; simpa only [Rd] using hr
  | pnil => intro cs d hr; simpa only [Rd] using hr
  | slice sz e ih =>
    intro cs d hr
    rcases hr with hr | ⟨id, len, cap, css, ds, sp, h1, h2, h3, h4, h5, h6, h7, h8⟩
    · exact .inl hr
    · have hlt : id < h.next := AHeap.lt_of_alive h (by rw [h4]; simp)
      exact .inr ⟨id, len, cap, css, ds, sp, h1, h2, h3, by rw [hq.2 id hlt]; exact h4, h5, h6, h7, fun i c d hc hd => ⟨(h8 i c d hc hd).1, ih (h8 i c d hc hd).2⟩⟩
  | pcons sz s rest ih1 ih2 =>
    intro cs d hr
    obtain ⟨a, b, d0, ds, h1, h2, h3, h4, h5⟩ := hr
    exact ⟨a, b, d0, ds, h1, h2, h3, ih1 h4, ih2 h5⟩

/-- A heap at the start: read only. -/
structure Init (ι : PMap) (h : AHeap) (w : World) : Prop where
  hr : HR ι h w
  ro : ∀ id, (h.get id).own = false
  dom : ∀ id, h.next ≤ id → ι id = none

theorem Init.empty {w : World} (hl : LayW w) : Init (fun _ => none) .empty w :=
  ⟨⟨⟨fun _ _ h => (by cases h), fun _ _ _ _ h => (by cases h), fun _ _ h => (by cases h)⟩, fun p hp => ⟨hl p hp, fun ⟨_, _, h, _⟩ => by cases h⟩⟩, fun id => by rw [AHeap.get_ge _ (by simp [AHeap.next, AHeap.empty])]; rfl, fun _ _ => rfl⟩

theorem own_push {h : AHeap} (hro : ∀ id, (h.get id).own = false) (c : List Value) : ∀ id, ((h.push (.cells c .ro)).get id).own = false := by
  intro id
  by_cases e : id = h.next
  · subst e; rw [AHeap.get_push_self]; rfl
  · rw [AHeap.get_push_ne _ _ e]; exact hro id

/-- One read-only object more, behind nothing. -/
theorem Init.push0 {ι : PMap} {h : AHeap} {w : World} (hi : Init ι h w) (c : List Value) : Init ι (h.push (.cells c .ro)) w where
  hr := {
    obj := fun id pl h1 => by
      have e : id ≠ h.next := fun e => by rw [hi.dom id (by omega)] at h1; cases h1
      rw [AHeap.get_push_ne _ _ e]; exact hi.hr.obj id pl h1
    ex := fun id pl id' pl' h1 h2 h3 h4 => by rw [own_push hi.ro] at h4; cases h4
    lt := fun id pl h1 h2 => by
      have e : id ≠ h.next := fun e => by rw [hi.dom id (by omega)] at h1; cases h1
      rw [AHeap.get_push_ne _ _ e] at h2; exact hi.hr.lt id pl h1 h2
    lay := fun p hp => ⟨(hi.hr.lay p hp).1, fun ⟨id, _, _, h2, _⟩ => by rw [own_push hi.ro] at h2; cases h2⟩ }
  ro := own_push hi.ro c
  dom := fun id hid => hi.dom id (by simp at hid; omega)

/-- One read-only object more. -/
theorem Init.push1 {ι : PMap} {h : AHeap} {w : World} (hi : Init ι h w) {c : List Value} {pl : Place} (hb : pl.b < w.heap.size) (ho : ∀ (j : Nat) (v : Value), c[j]? = some v → ∃ u, w.cell? ⟨pl.b, pl.base + j, none⟩ = some u ∧ VR ι v u) :
    Init (ι.upd h.next pl) (h.push (.cells c .ro)) w := by
  have hle : ι.le (ι.upd h.next pl) := PMap.le_upd pl (hi.dom _ (Nat.le_refl _))
  refine ⟨{ obj := fun id p h1 => ?_, ex := fun id p id' p' h1 h2 h3 h4 => ?_, lt := fun id p h1 h2 => ?_, lay := fun p hp => ⟨(hi.hr.lay p hp).1, fun ⟨id, _, _, h2, _⟩ => by rw [own_push hi.ro] at h2; cases h2⟩ }, own_push hi.ro c, fun id hid => ?_⟩
  · by_cases e : id = h.next
    · subst e
      rw [PMap.upd_self] at h1; cases h1
      rw [AHeap.get_push_self]
      intro j v hj
      obtain ⟨u, h3, h4⟩ := ho j v hj
      exact ⟨u, h3, h4.mono hle⟩
    · rw [PMap.upd_ne _ _ _ e] at h1
      rw [AHeap.get_push_ne _ _ e]
      exact (hi.hr.obj id p h1).mono hle (fun _ => rfl)
  · rw [own_push hi.ro] at h4; cases h4
  · by_cases e : id = h.next
    · subst e; rw [PMap.upd_self] at h1; cases h1; exact hb
    · rw [PMap.upd_ne _ _ _ e] at h1
      rw [AHeap.get_push_ne _ _ e] at h2
      exact hi.hr.lt id p h1 h2
  · rw [PMap.upd_ne _ _ _ (by simp at hid; omega)]; exact hi.dom id (by simp at hid; omega)

/-- Cells that can be had as abstract cells, over any start. -/
def Emb (w : World) (s : Sh) (cs : List Value) (d : DataW H) : Prop :=
  ∀ ι h, Init ι h w → ∃ ι' h' acs, Init ι' h' w ∧ ι.le ι' ∧ h.quiet h' ∧ VRL ι' acs cs ∧ Rd h' s acs d

theorem PMap.le_trans {a b c : PMap} (h : a.le b) (k : b.le c) : a.le c := fun id pl hp => k id pl (h id pl hp)
theorem PMap.le_refl (a : PMap) : a.le a := fun _ _ h => h

theorem embL {w : World} {s : Sh} : ∀ (items : List (List Value × DataW H)), (∀ p ∈ items, Emb w s p.1 p.2) → ∀ ι h, Init ι h w →
    ∃ (ι' : PMap) (h' : AHeap) (acss : List (List Value)), Init ι' h' w ∧ ι.le ι' ∧ h.quiet h' ∧ acss.length = items.length ∧ ∀ (i : Nat) (a : List Value) (p : List Value × DataW H), acss[i]? = some a → items[i]? = some p → VRL ι' a p.1 ∧ Rd h' s a p.2
  | [], _, ι, h, hi => ⟨ι, h, [], hi, PMap.le_refl _, .refl _, rfl, fun i a p h1 => by simp at h1⟩
  | p :: ps, hp, ι, h, hi => by
    obtain ⟨ι₁, h₁, acs, k1, k2, k3, k4, k5⟩ := hp p (by simp) ι h hi
    obtain ⟨ι₂, h₂, acss, l1, l2, l3, l4, l5⟩ := embL ps (fun q hq => hp q (by simp [hq])) ι₁ h₁ k1
    refine ⟨ι₂, h₂, acs :: acss, l1, PMap.le_trans k2 l2, k3.trans l3, by simp [l4], fun i a q ha hq => ?_⟩
    cases i with
    | zero => simp at ha hq; subst ha hq; exact ⟨k4.mono l2, k5.mono l3⟩
    | succ i => exact l5 i a q (by simpa using ha) (by simpa using hq)

/-- Parts, one behind the other. -/
theorem embP {w : World} : ∀ (items : List (Nat × Sh × List Value × DataW H)), (∀ p ∈ items, p.2.2.1.length = p.1 ∧ Emb w p.2.1 p.2.2.1 p.2.2.2) →
    Emb w (Sh.ofParts (items.map fun p => (p.1, p.2.1))) (items.flatMap fun p => p.2.2.1) (.agg (items.map fun p => p.2.2.2))
  | [], _, ι, h, hi => ⟨ι, h, [], hi, PMap.le_refl _, .refl _, .nil _, rfl, rfl⟩
  | p :: ps, hp, ι, h, hi => by
    obtain ⟨hl, he⟩ := hp p (by simp)
    obtain ⟨ι₁, h₁, acs, k1, k2, k3, k4, k5⟩ := he ι h hi
    obtain ⟨ι₂, h₂, acs2, l1, l2, l3, l4, l5⟩ := embP ps (fun q hq => hp q (by simp [hq])) ι₁ h₁ k1
    exact ⟨ι₂, h₂, acs ++ acs2, l1, PMap.le_trans k2 l2, k3.trans l3, (k4.mono l2).append l4, acs, acs2, _, _, rfl, k4.1.trans hl, rfl, k5.mono l3, l5⟩

theorem cells?_some {w : World} {base : Nat} {a : Addr} {n : Nat} {cs : List Value} (h : w.cells? base a n = some cs) : cs.length = n ∧ ∀ (j : Nat) (v : Value), cs[j]? = some v → w.cell? (a.add j) = some v := by
  unfold World.cells? at h
  split at h
  · have key : ∀ (l : List Nat) (cs : List Value), (l.mapM fun i => w.cell? (a.add i)) = some cs → cs.length = l.length ∧ ∀ (j : Nat) (v : Value) (i : Nat), cs[j]? = some v → l[j]? = some i → w.cell? (a.add i) = some v := by
      intro l
      induction l with
      | nil => intro cs hc; simp at hc; subst hc; exact ⟨rfl, fun j v i h1 => by simp at h1⟩
      | cons x xs ih =>
        intro cs hc
        rw [List.mapM_cons] at hc
        cases hx : w.cell? (a.add x) with
        | none => simp [hx] at hc
        | some v =>
          cases hxs : xs.mapM (fun i => w.cell? (a.add i)) with
          | none => simp [hx, hxs] at hc
          | some vs =>
            simp [hx, hxs] at hc
            subst hc
            obtain ⟨i1, i2⟩ := ih vs hxs
            refine ⟨by simp [i1], fun j u i h1 h2 => ?_⟩
            cases j with
            | zero => simp at h1 h2; subst h1 h2; exact hx
            | succ j => exact i2 j u i (by simpa using h1) (by simpa using h2)
    obtain ⟨k1, k2⟩ := key _ _ h
    simp at k1
    refine ⟨k1, fun j v hj => k2 j v j hj ?_⟩
    have := (List.getElem?_eq_some_iff.1 hj).1
    exact List.getElem?_range (by omega)
  · cases h

theorem cell?_lt {w : World} {a : Addr} {v : Value} (h : w.cell? a = some v) : a.block < w.heap.size ∧ a.spot = none := by
  refine ⟨?_, ?_⟩
  · rcases Nat.lt_or_ge a.block w.heap.size with h1 | h1
    · exact h1
    · unfold World.cell? at h; rw [Array.getElem?_eq_none h1] at h; cases h
  · unfold World.cell? at h
    cases hs : a.spot with
    | none => rfl
    | some x => simp [hs] at h; split at h <;> cases h

theorem mapM_parts {P : Program} {n : Nat} : ∀ (fs : List Field) (parts : List (Nat × Sh)), (fs.mapM fun (f : Field) => (shapeOf P n f.type).map fun s => (P.cellsOf f.type, s)) = some parts →
    parts.length = fs.length ∧ ∀ (i : Nat) (p : Nat × Sh) (f : Field), parts[i]? = some p → fs[i]? = some f → p.1 = P.cellsOf f.type ∧ shapeOf P n f.type = some p.2
  | [], parts, h => by simp at h; subst h; exact ⟨rfl, fun i p f h1 => by simp at h1⟩
  | f :: fs, parts, h => by
    rw [List.mapM_cons] at h
    cases hf : shapeOf P n f.type with
    | none => simp [hf] at h
    | some s =>
      cases hfs : fs.mapM (fun (f : Field) => (shapeOf P n f.type).map fun s => (P.cellsOf f.type, s)) with
      | none => simp [hf, hfs] at h
      | some ps =>
        simp [hf, hfs] at h
        subst h
        obtain ⟨i1, i2⟩ := mapM_parts fs ps hfs
        refine ⟨by simp [i1], fun i p g h1 h2 => ?_⟩
        cases i with
        | zero => simp at h1 h2; subst h1 h2; exact ⟨rfl, hf⟩
        | succ i => exact i2 i p g (by simpa using h1) (by simpa using h2)

theorem tiles_flat {P : Program} (cs : List Value) (n : Nat) (hn : cs.length = n) : ∀ (fs : List Field) (at0 : Nat), tiles P at0 fs n = true → at0 ≤ n → (fs.flatMap fun f => (cs.drop f.offset).take (P.cellsOf f.type)) = cs.drop at0 ∧ ∀ f ∈ fs, ((cs.drop f.offset).take (P.cellsOf f.type)).length = P.cellsOf f.type := by
  have mono : ∀ (fs : List Field) (at0 : Nat), tiles P at0 fs n = true → at0 ≤ n := by
    intro fs
    induction fs with
    | nil => intro at0 h; simp [tiles] at h; omega
    | cons f fs ih => intro at0 h; simp [tiles] at h; have := ih _ h.2; omega
  intro fs
  induction fs with
  | nil => intro at0 h _; simp [tiles] at h; subst h; simp [hn]
  | cons f fs ih =>
    intro at0 h hle
    simp [tiles] at h
    obtain ⟨h1, h2⟩ := h
    have h3 := mono _ _ h2
    obtain ⟨i1, i2⟩ := ih _ h2 h3
    subst h1
    refine ⟨?_, fun g hg => ?_⟩
    · rw [List.flatMap_cons, i1, ← List.drop_drop, List.take_append_drop]
    · rcases List.mem_cons.1 hg with rfl | hg
      · simp; omega
      · exact i2 g hg

theorem range_flatMap {α β : Type} : ∀ (l : List α) (g : α → List β), (List.range l.length).flatMap (fun i => ((l[i]?).map g).getD []) = l.flatMap g
  | [], _ => rfl
  | x :: xs, g => by
    rw [List.length_cons, List.range_succ_eq_map, List.flatMap_cons, List.flatMap_map, List.flatMap_cons, ← range_flatMap xs g]
    rfl

theorem emb {enc : TypeId × Value → H} {P : Program} {w : World} {held : Bool} : ∀ (n : Nat) {t : TypeId} {s : Sh} {cs : List Value} {fuel : Nat} {d : DataW H} {ps : List MemPlace}, shapeOf P n t = some s →
    DataW.trod enc P w 0 (fun _ => true) held fuel t cs = some (d, ps) → Emb w s cs d := by
  intro n
  induction n with
  | zero => intro t s cs fuel d ps h; cases h
  | succ n ih =>
    intro t s cs fuel d ps hs ht
    unfold shapeOf at hs
    split at hs
    · rename_i hu
      cases hs
      obtain ⟨b, rfl, hx⟩ := DataW.trod_bool hu ht
      cases hx
      exact fun ι h hi => ⟨ι, h, _, hi, PMap.le_refl _, .refl _, .cons (.bool b) (.nil _), b, rfl, rfl⟩
    · rename_i k hu
      cases hs
      obtain ⟨m, rfl, hx, hw⟩ := DataW.trod_int hu ht
      cases hx
      simp only [Lit.wf, Bool.and_eq_true, decide_eq_true_eq] at hw
      exact fun ι h hi => ⟨ι, h, _, hi, PMap.le_refl _, .refl _, .cons (.int k m) (.nil _), m, rfl, hw.1, hw.2, rfl⟩
    · rename_i hu
      cases hs
      obtain ⟨b, rfl, hx, hw⟩ := DataW.trod_string hu ht
      cases hx
      exact fun ι h hi => ⟨ι, h, _, hi, PMap.le_refl _, .refl _, .cons (.string b) (.nil _), b, rfl, hw, rfl⟩
    · rename_i e hu
      split at hs
      · cases hs
      · rename_i hsz
        cases hse : shapeOf P n e with
        | none => simp [hse] at hs
        | some se =>
          simp [hse] at hs
          subst hs
          rcases DataW.trod_slice hu ht with ⟨rfl, hx⟩ | ⟨a, len, cap, elems, rest, m, _, rfl, hx, _, hlc, hcm, hel, hels, hrest, _⟩
          · cases hx
            exact fun ι h hi => ⟨ι, h, _, hi, PMap.le_refl _, .refl _, .cons .sliceNil (.nil _), .inl ⟨rfl, rfl⟩⟩
          · cases hx
            -- the elements
            have hev : ∀ i, i < len → ∃ c y, w.cells? 0 (a.add (i * P.cellsOf e)) (P.cellsOf e) = some c ∧ DataW.trod enc P w 0 (fun _ => true) held m e c = some y ∧ elems[i]? = some y := by
              intro i hi
              have h1 := hels i hi
              rw [List.getElem?_eq_getElem (by omega)] at h1
              obtain ⟨c, hc, hy⟩ := Option.bind_eq_some_iff.1 h1
              exact ⟨c, _, hc, hy, List.getElem?_eq_getElem (by omega)⟩
            let items : List (List Value × DataW H) := (List.range len).map fun i => (((w.cells? 0 (a.add (i * P.cellsOf e)) (P.cellsOf e)).getD []), ((elems[i]?).map (·.1)).getD .nil)
            have hitems : ∀ p ∈ items, Emb w se p.1 p.2 := by
              intro p hp
              obtain ⟨i, hi, rfl⟩ := List.mem_map.1 hp
              obtain ⟨c, y, h1, h2, h3⟩ := hev i (by simpa using hi)
              simp only [h1, h3, Option.getD_some, Option.map_some]
              exact ih hse (d := y.1) (ps := y.2) h2
            intro ι h hi
            obtain ⟨ι₁, h₁, acss, k1, k2, k3, k4, k5⟩ := embL items hitems ι h hi
            have hlen : items.length = len := by simp [items]
            have hac : ∀ (i : Nat) (a' : List Value), acss[i]? = some a' → ∃ c y, w.cells? 0 (a.add (i * P.cellsOf e)) (P.cellsOf e) = some c ∧ elems[i]? = some y ∧ VRL ι₁ a' c ∧ Rd h₁ se a' y.1 := by
              intro i a' ha'
              have hlt : i < len := by have := (List.getElem?_eq_some_iff.1 ha').1; omega
              obtain ⟨c, y, h1, h2, h3⟩ := hev i hlt
              have hit : items[i]? = some (c, y.1) := by
                simp only [items, List.getElem?_map, List.getElem?_range hlt, Option.map_some, h1, h3, Option.getD_some]
              obtain ⟨v1, v2⟩ := k5 i a' _ ha' hit
              exact ⟨c, y, h1, h3, v1, v2⟩
            have hfl : ∀ a' ∈ acss, a'.length = P.cellsOf e := by
              intro a' ha'
              obtain ⟨i, hi'⟩ := List.getElem?_of_mem ha'
              obtain ⟨c, y, h1, _, h3, _⟩ := hac i a' hi'
              rw [h3.1]; exact (cells?_some h1).1
            have hro : ∀ (j : Nat) (v : Value), acss.flatten[j]? = some v → ∃ u, w.cell? (a.add j) = some u ∧ VR ι₁ v u := by
              -- the cell j is the (j % sz)th of the (j / sz)th element
              have flat : ∀ (l : List (List Value)) (sz : Nat), 0 < sz → (∀ x ∈ l, x.length = sz) → ∀ (j : Nat) (v : Value), l.flatten[j]? = some v → ∃ (i : Nat) (x : List Value) (r : Nat), j = i * sz + r ∧ l[i]? = some x ∧ x[r]? = some v := by
                intro l sz hpos
                induction l with
                | nil => intro _ j v hj; simp at hj
                | cons x xs ihx =>
                  intro hl j v hj
                  rw [List.flatten_cons] at hj
                  rcases Nat.lt_or_ge j x.length with h1 | h1
                  · rw [List.getElem?_append_left h1] at hj
                    exact ⟨0, x, j, by simp, rfl, hj⟩
                  · rw [List.getElem?_append_right h1] at hj
                    obtain ⟨i, y, r, e1, e2, e3⟩ := ihx (fun y hy => hl y (by simp [hy])) _ _ hj
                    have := hl x (by simp)
                    exact ⟨i + 1, y, r, by rw [Nat.add_mul]; omega, by simpa using e2, e3⟩
              intro j v hj
              obtain ⟨i, x, r, rfl, hx, hr⟩ := flat acss (P.cellsOf e) (Nat.pos_of_ne_zero hsz) hfl j v hj
              obtain ⟨c, y, h1, _, h3, _⟩ := hac i x hx
              obtain ⟨u, h4, h5⟩ := h3.getElem? hr
              exact ⟨u, by have := (cells?_some h1).2 r u h4; rwa [Addr.add_add] at this, h5⟩
            have hds : (elems.map (·.1)).length = len := by simp [hel]
            have hrd : ∀ h₂, h₁.quiet h₂ → ∀ (i : Nat) (c : List Value) (d : DataW H), acss[i]? = some c → (elems.map (·.1))[i]? = some d → c.length = P.cellsOf e ∧ Rd h₂ se c d := by
              intro h₂ hq i c d hc hd
              obtain ⟨c', y, _, h2, _, h4⟩ := hac i c hc
              rw [List.getElem?_map, h2, Option.map_some, Option.some.injEq] at hd
              subst hd
              exact ⟨hfl c (List.mem_of_getElem? hc), h4.mono hq⟩
            by_cases hcap : cap = 0
            · have hl0 : len = 0 := by omega
              refine ⟨ι₁, h₁.push (.cells acss.flatten .ro), [.slice (some ⟨h₁.next, 0, none⟩) len cap], k1.push0 _, k2, k3.trans (.push _ _), .cons ?_ (.nil _), .inr ⟨h₁.next, len, cap, acss, elems.map (·.1), rest.map (·.1), rfl, hlc, hcm, AHeap.get_push_self _ _, by omega, hds, rfl, hrd _ (.push _ _)⟩⟩
              subst hcap hl0
              exact .slice0 _ _
            · -- the row stands in memory
              have hrow : ∃ v, w.cell? (a.add 0) = some v := by
                by_cases h0 : 0 < len
                · obtain ⟨c, y, h1, _, _⟩ := hev 0 h0
                  have h2 := (cells?_some h1)
                  obtain ⟨v, hv⟩ : ∃ v, c[0]? = some v := ⟨c[0]'(by omega), List.getElem?_eq_getElem _⟩
                  have := h2.2 0 v hv
                  rw [Addr.add_add] at this
                  exact ⟨v, by simpa using this⟩
                · have hr0 := (hrest rfl).2 0 (by omega)
                  rw [List.getElem?_eq_getElem (by have := (hrest rfl).1; omega)] at hr0
                  obtain ⟨c, hc, _⟩ := Option.bind_eq_some_iff.1 hr0
                  have h2 := (cells?_some hc)
                  obtain ⟨v, hv⟩ : ∃ v, c[0]? = some v := ⟨c[0]'(by omega), List.getElem?_eq_getElem _⟩
                  have := h2.2 0 v hv
                  rw [Addr.add_add] at this
                  have e0 : len = 0 := by omega
                  subst e0
                  exact ⟨v, by simpa using this⟩
              obtain ⟨v0, hv0⟩ := hrow
              obtain ⟨hb, hsp⟩ := cell?_lt hv0
              obtain ⟨b, off, sp⟩ := a
              have hsp' : sp = none := hsp
              subst hsp'
              refine ⟨ι₁.upd h₁.next ⟨b, off, 0, 0⟩, h₁.push (.cells acss.flatten .ro), [.slice (some ⟨h₁.next, 0, none⟩) len cap], k1.push1 hb (fun j v hj => ?_), PMap.le_trans k2 (PMap.le_upd _ (k1.dom _ (Nat.le_refl _))), k3.trans (.push _ _), .cons ?_ (.nil _),
                .inr ⟨h₁.next, len, cap, acss, elems.map (·.1), rest.map (·.1), rfl, hlc, hcm, AHeap.get_push_self _ _, by omega, hds, rfl, hrd _ (.push _ _)⟩⟩
              · have := hro j v hj
                rw [add_lit] at this
                exact this
              · exact .sliceX 0 len cap (PMap.upd_self _ _ _) hlc
    · rename_i fs hu
      split at hs
      · rename_i htl
        cases hp : (fs.toList.mapM fun (f : Field) => (shapeOf P n f.type).map fun s => (P.cellsOf f.type, s)) with
        | none => simp [hp] at hs
        | some parts =>
          simp [hp] at hs
          subst hs
          obtain ⟨xs, m, _, hx, hcl, hxl, hxs⟩ := DataW.trod_struct hu ht
          cases hx
          obtain ⟨p1, p2⟩ := mapM_parts _ _ hp
          obtain ⟨t1, t2⟩ := tiles_flat cs _ hcl fs.toList 0 htl (by omega)
          let items : List (Nat × Sh × List Value × DataW H) := (List.range fs.size).map fun i => ((parts.getD i (0, .pnil)).1, (parts.getD i (0, .pnil)).2, ((fs[i]?).map fun f => (cs.drop f.offset).take (P.cellsOf f.type)).getD [], ((xs[i]?).map (·.1)).getD .nil)
          have key := embP (w := w) items (fun p hp => by
            obtain ⟨i, hi, rfl⟩ := List.mem_map.1 hp
            have hi' : i < fs.size := by simpa using hi
            have hf : fs[i]? = some fs[i] := Array.getElem?_eq_getElem hi'
            have hf' : fs.toList[i]? = some fs[i] := by simpa using hf
            have hpl : i < parts.length := by rw [p1]; simpa using hi'
            have hpi : parts[i]? = some parts[i] := List.getElem?_eq_getElem hpl
            obtain ⟨q1, q2⟩ := p2 i _ _ hpi hf'
            have hxi := hxs i _ hf
            rw [List.getElem?_eq_getElem (by omega)] at hxi
            simp only [List.getD, hpi, hf, Option.map_some, Option.getD_some, List.getElem?_eq_getElem (show i < xs.length by omega)]
            exact ⟨by rw [q1]; exact t2 _ (List.mem_of_getElem? hf'), ih q2 (d := xs[i].1) (ps := xs[i].2) hxi⟩)
          have e1 : items.map (fun p => (p.1, p.2.1)) = parts := by
            apply List.ext_getElem?
            intro i
            simp only [items, List.map_map, List.getElem?_map]
            rcases Nat.lt_or_ge i fs.size with h1 | h1
            · have hpl : i < parts.length := by rw [p1]; simpa using h1
              simp [List.getElem?_range h1, List.getD, List.getElem?_eq_getElem hpl]
            · have hpl : parts.length ≤ i := by rw [p1]; simpa using h1
              rw [List.getElem?_eq_none hpl, List.getElem?_eq_none (by simpa using h1)]; rfl
          have e2 : items.flatMap (fun p => p.2.2.1) = cs := by
            rw [List.drop_zero] at t1
            rw [← t1]
            simp only [items, List.flatMap_map]
            have := range_flatMap fs.toList (fun f => (cs.drop f.offset).take (P.cellsOf f.type))
            rw [← this]
            simp
          have e3 : items.map (fun p => p.2.2.2) = xs.map (·.1) := by
            apply List.ext_getElem?
            intro i
            simp only [items, List.map_map, List.getElem?_map]
            rcases Nat.lt_or_ge i fs.size with h1 | h1
            · simp [List.getElem?_range h1, List.getElem?_eq_getElem (show i < xs.length by omega)]
            · rw [List.getElem?_eq_none (show xs.length ≤ i by omega), List.getElem?_eq_none (by simpa using h1)]; rfl
          rw [e1, e2, e3] at key
          exact key
      · cases hs
    · rename_i m e hu
      split at hs
      · rename_i hsz
        cases hse : shapeOf P n e with
        | none => simp [hse] at hs
        | some se =>
          simp [hse] at hs
          subst hs
          obtain ⟨xs, m', _, hx, hcl, hxl, hxs⟩ := DataW.trod_array hu ht
          cases hx
          let items : List (Nat × Sh × List Value × DataW H) := (List.range m).map fun i => (P.cellsOf e, se, (cs.drop (i * P.cellsOf e)).take (P.cellsOf e), ((xs[i]?).map (·.1)).getD .nil)
          have key := embP (w := w) items (fun p hp => by
            obtain ⟨i, hi, rfl⟩ := List.mem_map.1 hp
            have hi' : i < m := by simpa using hi
            have hxi := hxs i hi'
            rw [List.getElem?_eq_getElem (by omega)] at hxi
            simp only [Option.map_some, Option.getD_some, List.getElem?_eq_getElem (show i < xs.length by omega)]
            refine ⟨?_, ih hse (d := xs[i].1) (ps := xs[i].2) hxi⟩
            have : i * P.cellsOf e + P.cellsOf e ≤ m * P.cellsOf e := by rw [← Nat.succ_mul]; exact Nat.mul_le_mul_right _ hi'
            simp; omega)
          have e1 : items.map (fun p => (p.1, p.2.1)) = List.replicate m (P.cellsOf e, se) := by
            simp [items, List.eq_replicate_iff]
          have e2 : items.flatMap (fun p => p.2.2.1) = cs := by
            have gen : ∀ (k : Nat) (cs : List Value), cs.length = k * P.cellsOf e → ((List.range k).flatMap fun i => (cs.drop (i * P.cellsOf e)).take (P.cellsOf e)) = cs := by
              intro k
              induction k with
              | zero => intro cs hc; simp at hc; simp [hc]
              | succ k ihk =>
                intro cs hc
                rw [List.range_succ_eq_map, List.flatMap_cons, List.flatMap_map]
                have := ihk (cs.drop (P.cellsOf e)) (by rw [List.length_drop, hc, Nat.succ_mul]; omega)
                simp only [Nat.zero_mul, List.drop_zero]
                rw [show (List.range k).flatMap (fun i => (cs.drop ((i + 1) * P.cellsOf e)).take (P.cellsOf e)) = cs.drop (P.cellsOf e) from ?_, List.take_append_drop]
                rw [← this]
                simp only [List.drop_drop]
                congr 1
                funext i
                rw [Nat.succ_mul, Nat.add_comm]
            simp only [items, List.flatMap_map]
            exact gen m cs (by rw [hcl, hsz])
          have e3 : items.map (fun p => p.2.2.2) = xs.map (·.1) := by
            apply List.ext_getElem?
            intro i
            simp only [items, List.map_map, List.getElem?_map]
            rcases Nat.lt_or_ge i m with h1 | h1
            · simp [List.getElem?_range h1, List.getElem?_eq_getElem (show i < xs.length by omega)]
            · rw [List.getElem?_eq_none (show xs.length ≤ i by omega), List.getElem?_eq_none (by simpa using h1)]; rfl
          rw [e1, e2, e3] at key
          exact key
      · cases hs
    · cases hs

end
end Go.AM
