/- AM: reading and writing cells of an object, in the model. -/
import Derived.Test.YtfdbadpiklmbaaaAmStep
import Derived.Laws.Cells
import Derived.Laws.Entries
import Derived.Laws.Small
import Derived.Laws.Append
set_option linter.unusedSimpArgs false
set_option linter.unusedVariables false
set_option linter.unnecessarySimpa false
set_option maxRecDepth 100000
namespace Go.AM

theorem one_eq (v : Value) : v.oneCell' = one v := by cases v <;> rfl

theorem add_lit (b o j : Nat) : (⟨b, o, none⟩ : Addr).add j = ⟨b, o + j, none⟩ := by
  unfold Addr.add; split
  · rename_i h; subst h; rfl
  · rfl

section
variable {P : Program}

theorem run_und {w : World} {t : TypeId} {d : TypeDesc} (h : P.underlying t = some d) : (underlying t).run P w = .ok d w := by
  simp [underlying, h]
theorem run_info {w : World} {t : TypeId} {i : TypeInfo} (h : P.info? t = some i) : (typeInfo t).run P w = .ok i w := by
  simp [typeInfo, h]
theorem run_size {w : World} {t : TypeId} {i : TypeInfo} (h : P.info? t = some i) : (sizeOf t).run P w = .ok i.size w := by
  simp [sizeOf, run_info h]
theorem run_size' {w : World} {t : TypeId} (h : (P.info? t).isSome = true) : (sizeOf t).run P w = .ok (P.cellsOf t) w := by
  obtain ⟨i, hi⟩ := Option.isSome_iff_exists.1 h
  rw [run_size hi]; simp [Program.cellsOf, hi]
theorem run_zero {w : World} {t : TypeId} {z : Value} (h : zeroT P t = some z) : (zeroValue t).run P w = .ok z w := by
  unfold zeroT at h
  cases hi : P.info? t with
  | none => simp [hi] at h
  | some i => simp [hi] at h; simp [zeroValue, run_info hi, h]
theorem info_of_und {t : TypeId} {d : TypeDesc} (h : P.underlying t = some d) : (P.info? t).isSome = true := by
  unfold Program.underlying at h
  cases hi : P.info? t with
  | none => simp [hi] at h
  | some i => rfl
theorem run_agg {w : World} {t : TypeId} {b : Bool} (h : aggT P t = some b) : (isAgg t).run P w = .ok b w := by
  unfold aggT at h
  cases hu : P.underlying t with
  | none => simp [hu] at h
  | some d =>
    rw [hu, Option.map_some, Option.some.injEq] at h
    subst h
    simp only [isAgg, Sem.run_bind, run_und hu, Result.andThen_ok]
    cases d <;> rfl
theorem info_of_agg {t : TypeId} {b : Bool} (h : aggT P t = some b) : (P.info? t).isSome = true := by
  unfold aggT at h
  cases hu : P.underlying t with
  | none => simp [hu] at h
  | some d => exact info_of_und hu

/-- A cell of an object. -/
theorem ORel.cell {ι : PMap} {w : World} {pl : Place} {c : List Value} {md : Md} (h : ORel ι w pl (.cells c md)) {j : Nat} {v : Value} (hj : c[j]? = some v) :
    ∃ u, w.cell? ⟨pl.b, pl.base + j, none⟩ = some u ∧ VR ι v u := by
  cases md with
  | ro => exact h j v hj
  | rw =>
    obtain ⟨h0, cs, e, h1, h2⟩ := h
    obtain ⟨u, h3, h4⟩ := h2.getElem? hj
    exact ⟨u, by simp [World.cell?, h1, h0]; simpa using h3, h4⟩
  | tail sz =>
    obtain ⟨_, _, cs, e, fz, h1, _, _, h4⟩ := h
    obtain ⟨u, h5, h6⟩ := h4 j v hj
    exact ⟨u, by simp [World.cell?, h1]; exact h5, h6⟩

/-- Cells of an object, one behind the other. -/
theorem run_cells {ι : PMap} {w : World} {pl : Place} {c : List Value} {md : Md} (h : ORel ι w pl (.cells c md)) (off n : Nat) (hn : off + n ≤ c.length) :
    ∃ l, (loadCells ⟨pl.b, pl.base + off, none⟩ n).run P w = .ok l.toArray w ∧ VRL ι ((c.drop off).take n) l := by
  have hx : ∃ f : Nat → Value, ∀ j, j < n → w.cell? ⟨pl.b, pl.base + (off + j), none⟩ = some (f j) ∧ ∀ v, c[off + j]? = some v → VR ι v (f j) := by
    have : ∀ j, ∃ u, j < n → w.cell? ⟨pl.b, pl.base + (off + j), none⟩ = some u ∧ ∀ v, c[off + j]? = some v → VR ι v u := by
      intro j
      by_cases hj : j < n
      · have hlt : off + j < c.length := by omega
        obtain ⟨u, h1, h2⟩ := h.cell (List.getElem?_eq_getElem hlt)
        exact ⟨u, fun _ => ⟨h1, fun v hv => by rw [List.getElem?_eq_getElem hlt] at hv; cases hv; exact h2⟩⟩
      · exact ⟨undef, fun h => absurd h hj⟩
    exact ⟨fun j => Classical.choose (this j), fun j hj => Classical.choose_spec (this j) hj⟩
  obtain ⟨f, hf⟩ := hx
  have hl := run_loadCells (P := P) w ⟨pl.b, pl.base + off, none⟩ n f (fun j hj => by rw [add_lit, Nat.add_assoc]; exact (hf j hj).1)
  refine ⟨(List.range n).map f, ?_, by simp; omega, fun i h1 h2 => ?_⟩
  · rw [hl]
  · simp at h1 h2
    have hlt : off + i < c.length := by omega
    simp only [List.getElem_take, List.getElem_drop, List.getElem_map, List.getElem_range]
    exact (hf i (by omega)).2 _ (List.getElem?_eq_getElem hlt)

/-- Nothing but one block of cells has turned. -/
structure Put (w w' : World) (b : Nat) : Prop where
  size : w'.heap.size = w.heap.size
  keep : ∀ k, k ≠ b → w'.heap[k]? = w.heap[k]?
  os : w'.os = w.os
  tape : w'.tape = w.tape
  output : w'.output = w.output

theorem Put.refl (w : World) (b : Nat) : Put w w b := ⟨rfl, fun _ _ => rfl, rfl, rfl, rfl⟩
theorem Put.trans {w₁ w₂ w₃ : World} {b : Nat} (h : Put w₁ w₂ b) (k : Put w₂ w₃ b) : Put w₁ w₃ b :=
  ⟨k.size.trans h.size, fun i hi => (k.keep i hi).trans (h.keep i hi), k.os.trans h.os, k.tape.trans h.tape, k.output.trans h.output⟩
theorem Put.setCell (w : World) (b o : Nat) (v : Value) : Put w (w.setCell ⟨b, o, none⟩ v) b :=
  ⟨by simp, fun k hk => by simp only [World.setCell, Array.getElem?_modify]; rw [if_neg (Ne.symm hk)], rfl, rfl, rfl⟩

theorem heap_setCell {w : World} {b o : Nat} {v : Value} {cs : Array Value} {e : TypeId} {fz : Nat × Nat} (h : w.heap[b]? = some (.cells cs e fz)) :
    (w.setCell ⟨b, o, none⟩ v).heap[b]? = some (.cells (cs.setIfInBounds o v) e fz) := by
  simp [World.setCell, Array.getElem?_modify, h]

/-- One store into an object's own cell. -/
theorem store_one {ι : PMap} {w : World} {pl : Place} {c : List Value} {md : Md} (h : ORel ι w pl (.cells c md)) (hmd : md ≠ .ro) {off : Nat} (ho : off < c.length) {v v' : Value}
    (hv : VR ι v v') (h1 : one v = true) :
    (store ⟨pl.b, pl.base + off, none⟩ v').run P w = .ok () (w.setCell ⟨pl.b, pl.base + off, none⟩ v') ∧
      ORel ι (w.setCell ⟨pl.b, pl.base + off, none⟩ v') pl (.cells (c.set off v) md) := by
  have h1' : v'.oneCell' = true := by rw [one_eq, hv.one_eq]; exact h1
  cases md with
  | ro => exact absurd rfl hmd
  | rw =>
    obtain ⟨h0, cs, e, hb, hc⟩ := h
    have hlt : off < cs.size := by have := hc.1; simp at this; omega
    refine ⟨?_, h0, _, e, heap_setCell hb, ?_⟩
    · rw [run_store _ _ _ _ _ h1']
      simp [World.cell?, World.frozen?, hb, h0, hlt]
    · rw [h0]; simpa using hc.set hv off
  | tail sz =>
    obtain ⟨h0, hl, cs, e, fz, hb, hs, hf, hc⟩ := h
    have hlt : pl.base + off < cs.size := by omega
    refine ⟨?_, h0, by simpa using hl, _, e, fz, heap_setCell hb, by simpa using hs, fun j hj => ?_, fun j u hj => ?_⟩
    · rw [run_store _ _ _ _ _ h1']
      have := hf off (by omega)
      simp only [this]
      simp [World.cell?, hb, hlt]
    · rw [World.frozen?_setCell]; exact hf j hj
    · by_cases e' : j = off
      · subst e'
        rw [List.getElem?_set_self (by simpa using ho)] at hj
        cases hj
        exact ⟨v', by simp [hlt], hv⟩
      · rw [List.getElem?_set_ne (Ne.symm e')] at hj
        obtain ⟨u', h5, h6⟩ := hc j u hj
        exact ⟨u', by rw [Array.getElem?_setIfInBounds_ne (by omega)]; exact h5, h6⟩

/-- Stores into an object's own cells, one behind the other. -/
theorem store_cells {ι : PMap} {pl : Place} {md : Md} (hmd : md ≠ .ro) : ∀ (vs vs' : List Value) (c : List Value) (off i : Nat) (w : World), ORel ι w pl (.cells c md) →
    off + i + vs.length ≤ c.length → VRL ι vs vs' → vs.all one = true →
    ∃ w', (storeCells ⟨pl.b, pl.base + off, none⟩ vs' i).run P w = .ok () w' ∧ Put w w' pl.b ∧ ORel ι w' pl (.cells (putCells c (off + i) vs) md)
  | [], vs', c, off, i, w, h, _, hv, _ => ⟨w, by rw [hv.nil_inv]; rfl, .refl _ _, h⟩
  | v :: vs, vs', c, off, i, w, h, hl, hv, h1 => by
    obtain ⟨v', r', rfl, hv1, hv2⟩ := hv.cons_inv
    simp only [List.all_cons, Bool.and_eq_true] at h1
    simp only [List.length_cons] at hl
    obtain ⟨hs, ho⟩ := store_one (P := P) h hmd (off := off + i) (by omega) hv1 h1.1
    obtain ⟨w', h2, h3, h4⟩ := store_cells hmd vs r' (c.set (off + i) v) off (i + 1) _ ho (by simp; omega) hv2 h1.2
    refine ⟨w', ?_, (Put.setCell _ _ _ _).trans h3, ?_⟩
    · simp only [storeCells, Sem.run_bind, add_lit, Nat.add_assoc]
      rw [hs]; exact h2
    · simp only [putCells]; rw [Nat.add_assoc]; exact h4

/-- One store behind the end of a row that has room. -/
theorem tail_one {ι : PMap} {w : World} {pl : Place} {c : List Value} {sz : Nat} (h : ORel ι w pl (.cells c (.tail sz))) (ho : c.length < pl.lim) {v v' : Value}
    (hv : VR ι v v') (h1 : one v = true) :
    (store ⟨pl.b, pl.base + c.length, none⟩ v').run P w = .ok () (w.setCell ⟨pl.b, pl.base + c.length, none⟩ v') ∧
      ORel ι (w.setCell ⟨pl.b, pl.base + c.length, none⟩ v') pl (.cells (c ++ [v]) (.tail sz)) := by
  have h1' : v'.oneCell' = true := by rw [one_eq, hv.one_eq]; exact h1
  obtain ⟨h0, hl, cs, e, fz, hb, hs, hf, hc⟩ := h
  have hlt : pl.base + c.length < cs.size := by omega
  refine ⟨?_, h0, by simp; omega, _, e, fz, heap_setCell hb, by simpa using hs, fun j hj => ?_, fun j u hj => ?_⟩
  · rw [run_store _ _ _ _ _ h1']
    have := hf c.length (by omega)
    simp only [this]
    simp [World.cell?, hb, hlt]
  · rw [World.frozen?_setCell]; exact hf j hj
  · by_cases e' : j = c.length
    · subst e'
      rw [List.getElem?_append_right (Nat.le_refl _)] at hj
      simp at hj
      subst hj
      exact ⟨v', by simp [hlt], hv⟩
    · have hj' : j < c.length := by
        have := (List.getElem?_eq_some_iff.1 hj).1
        simp at this; omega
      rw [List.getElem?_append_left hj'] at hj
      obtain ⟨u', h5, h6⟩ := hc j u hj
      exact ⟨u', by rw [Array.getElem?_setIfInBounds_ne (by omega)]; exact h5, h6⟩

theorem tail_cells {ι : PMap} {pl : Place} {sz : Nat} : ∀ (vs vs' : List Value) (c : List Value) (off i : Nat) (w : World), ORel ι w pl (.cells c (.tail sz)) →
    off + i = c.length → c.length + vs.length ≤ pl.lim → VRL ι vs vs' → vs.all one = true →
    ∃ w', (storeCells ⟨pl.b, pl.base + off, none⟩ vs' i).run P w = .ok () w' ∧ Put w w' pl.b ∧ ORel ι w' pl (.cells (c ++ vs) (.tail sz))
  | [], vs', c, off, i, w, h, _, _, hv, _ => ⟨w, by rw [hv.nil_inv]; rfl, .refl _ _, by simpa using h⟩
  | v :: vs, vs', c, off, i, w, h, he, hl, hv, h1 => by
    obtain ⟨v', r', rfl, hv1, hv2⟩ := hv.cons_inv
    simp only [List.all_cons, Bool.and_eq_true] at h1
    simp only [List.length_cons] at hl
    obtain ⟨hs, ho⟩ := tail_one (P := P) h (by omega) hv1 h1.1
    obtain ⟨w', h2, h3, h4⟩ := tail_cells vs r' (c ++ [v]) off (i + 1) _ ho (by simp; omega) (by simp; omega) hv2 h1.2
    refine ⟨w', ?_, (Put.setCell _ _ _ _).trans h3, ?_⟩
    · simp only [storeCells, Sem.run_bind, add_lit, Nat.add_assoc, he]
      rw [hs]; exact h2
    · simpa using h4

/-- A row that has room, from a cell on. -/
theorem tail_shift {ι : PMap} {w : World} {pl : Place} {c : List Value} {sz : Nat} (h : ORel ι w pl (.cells c (.tail sz))) (off : Nat) (ho : off ≤ c.length) :
    ORel ι w ⟨pl.b, pl.base + off, pl.lim - off, sz⟩ (.cells (c.drop off) (.tail sz)) := by
  obtain ⟨h0, hl, cs, e, fz, hb, hs, hf, hc⟩ := h
  refine ⟨rfl, by simp; omega, cs, e, fz, hb, by simp; omega, fun j hj => ?_, fun j u hj => ?_⟩
  · have := hf (off + j) (by simp at hj; omega)
    rwa [← Nat.add_assoc] at this
  · rw [List.getElem?_drop] at hj
    obtain ⟨u', h5, h6⟩ := hc _ u hj
    exact ⟨u', by rw [← Nat.add_assoc] at h5; exact h5, h6⟩

end
end Go.AM
