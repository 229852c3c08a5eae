/- AM: how an abstract value and an abstract heap stand to the model's. -/
import Derived.Test.YtfdbadpiklmbaaaAmDefs
import Derived.Laws.World
import Derived.Laws.OwnMore
set_option linter.unusedSimpArgs false
set_option linter.unusedVariables false
set_option linter.unnecessarySimpa false
set_option maxRecDepth 100000
namespace Go.AM

/-- Where an object lies: the block, the first cell; of a row that may have room: how many cells it may take, and an element's cells. -/
structure Place where
  b : Nat
  base : Nat
  lim : Nat
  sz : Nat

abbrev PMap := Nat → Option Place

inductive VR (ι : PMap) : Value → Value → Prop
  | bool (b : Bool) : VR ι (.bool b) (.bool b)
  | int (k : IntKind) (n : Int) : VR ι (.int k n) (.int k n)
  | float (k : FloatKind) (n : Nat) : VR ι (.float k n) (.float k n)
  | complex (k : FloatKind) (a b : Nat) : VR ι (.complex k a b) (.complex k a b)
  | string (s : ByteArray) : VR ι (.string s) (.string s)
  | ptrNil : VR ι (.pointer none) (.pointer none)
  | ptr {id : Nat} {pl : Place} (off : Nat) : ι id = some pl → VR ι (.pointer (some ⟨id, off, none⟩)) (.pointer (some ⟨pl.b, pl.base + off, none⟩))
  | sliceNil : VR ι (.slice none 0 0) (.slice none 0 0)
  | sliceX {id : Nat} {pl : Place} (off len cap : Nat) : ι id = some pl → len ≤ cap → VR ι (.slice (some ⟨id, off, none⟩) len cap) (.slice (some ⟨pl.b, pl.base + off, none⟩) len cap)
  | sliceU {id : Nat} {pl : Place} (off len kn cap sz : Nat) : ι id = some pl → len ≤ kn → kn ≤ cap → pl.sz = sz → off + cap * sz ≤ pl.lim →
      VR ι (.slice (some ⟨id, off, some sz⟩) len kn) (.slice (some ⟨pl.b, pl.base + off, none⟩) len cap)
  | slice0 (a b : Addr) : VR ι (.slice (some a) 0 0) (.slice (some b) 0 0)
  | mapNil : VR ι (.map none) (.map none)
  | map {id : Nat} {pl : Place} : ι id = some pl → VR ι (.map (some id)) (.map (some pl.b))
  | func (fn : Fn) (f f' c c' : Array Value) : f.size = f'.size → c.size = c'.size → (∀ (i : Nat) (h1 : i < f.size) (h2 : i < f'.size), VR ι (f[i]'h1) (f'[i]'h2)) → (∀ (i : Nat) (h1 : i < c.size) (h2 : i < c'.size), VR ι (c[i]'h1) (c'[i]'h2)) → VR ι (.func fn f c) (.func fn f' c')
  | nilFunc : VR ι .nilFunc .nilFunc
  | iface (t : TypeId) (v v' : Value) : VR ι v v' → VR ι (.iface t v) (.iface t v')
  | nilIface : VR ι .nilIface .nilIface
  | agg (c c' : Array Value) : c.size = c'.size → (∀ (i : Nat) (h1 : i < c.size) (h2 : i < c'.size), VR ι (c[i]'h1) (c'[i]'h2)) → VR ι (.agg c) (.agg c')
  | tuple (c c' : Array Value) : c.size = c'.size → (∀ (i : Nat) (h1 : i < c.size) (h2 : i < c'.size), VR ι (c[i]'h1) (c'[i]'h2)) → VR ι (.tuple c) (.tuple c')

def VRA (ι : PMap) (c c' : Array Value) : Prop := c.size = c'.size ∧ ∀ (i : Nat) (h1 : i < c.size) (h2 : i < c'.size), VR ι (c[i]'h1) (c'[i]'h2)

def VRL (ι : PMap) (c c' : List Value) : Prop := c.length = c'.length ∧ ∀ (i : Nat) (h1 : i < c.length) (h2 : i < c'.length), VR ι (c[i]'h1) (c'[i]'h2)

def PMap.le (ι ι' : PMap) : Prop := ∀ id pl, ι id = some pl → ι' id = some pl

theorem VR.mono {ι ι' : PMap} (hm : ι.le ι') {v v' : Value} (h : VR ι v v') : VR ι' v v' := by
  induction h with
  | bool b => exact .bool b
  | int k n => exact .int k n
  | float k n => exact .float k n
  | complex k a b => exact .complex k a b
  | string s => exact .string s
  | ptrNil => exact .ptrNil
  | ptr off hi => exact .ptr off (hm _ _ hi)
  | sliceNil => exact .sliceNil
  | sliceX off len cap hi hl => exact .sliceX off len cap (hm _ _ hi) hl
  | sliceU off len kn cap sz hi hl hk hs hb => exact .sliceU off len kn cap sz (hm _ _ hi) hl hk hs hb
  | slice0 a b => exact .slice0 a b
  | mapNil => exact .mapNil
  | map hi => exact .map (hm _ _ hi)
  | func fn f f' c c' h1 h2 _ _ ih1 ih2 => exact .func fn f f' c c' h1 h2 ih1 ih2
  | nilFunc => exact .nilFunc
  | iface t v v' _ ih => exact .iface t v v' ih
  | nilIface => exact .nilIface
  | agg c c' h1 _ ih => exact .agg c c' h1 ih
  | tuple c c' h1 _ ih => exact .tuple c c' h1 ih

theorem VRA.mono {ι ι' : PMap} (hm : ι.le ι') {c c' : Array Value} (h : VRA ι c c') : VRA ι' c c' := ⟨h.1, fun i h1 h2 => (h.2 i h1 h2).mono hm⟩
theorem VRL.mono {ι ι' : PMap} (hm : ι.le ι') {c c' : List Value} (h : VRL ι c c') : VRL ι' c c' := ⟨h.1, fun i h1 h2 => (h.2 i h1 h2).mono hm⟩

theorem VRL.nil (ι : PMap) : VRL ι [] [] := ⟨rfl, fun i h1 => absurd h1 (by simp)⟩
theorem VRL.cons {ι : PMap} {v v' : Value} {c c' : List Value} (h : VR ι v v') (hc : VRL ι c c') : VRL ι (v :: c) (v' :: c') := by
  refine ⟨by simp [hc.1], fun i h1 h2 => ?_⟩
  cases i with
  | zero => exact h
  | succ i => exact hc.2 i (by simpa using h1) (by simpa using h2)
theorem VRL.cons_inv {ι : PMap} {v : Value} {c l : List Value} (h : VRL ι (v :: c) l) : ∃ v' c', l = v' :: c' ∧ VR ι v v' ∧ VRL ι c c' := by
  cases l with
  | nil => exact absurd h.1 (by simp)
  | cons v' c' =>
    refine ⟨v', c', rfl, h.2 0 (by simp) (by simp), by simpa using h.1, fun i h1 h2 => ?_⟩
    exact h.2 (i + 1) (by simpa using h1) (by simpa using h2)
theorem VRL.nil_inv {ι : PMap} {l : List Value} (h : VRL ι [] l) : l = [] := List.eq_nil_of_length_eq_zero (by simpa using h.1.symm)
theorem VRL.append {ι : PMap} {a a' b b' : List Value} (h1 : VRL ι a a') (h2 : VRL ι b b') : VRL ι (a ++ b) (a' ++ b') := by
  induction a generalizing a' with
  | nil => rw [h1.nil_inv]; exact h2
  | cons v a ih =>
    obtain ⟨v', c', rfl, hv, hc⟩ := h1.cons_inv
    exact .cons hv (ih hc)
theorem VRL.take {ι : PMap} {a a' : List Value} (h : VRL ι a a') (n : Nat) : VRL ι (a.take n) (a'.take n) :=
  ⟨by simp [h.1], fun i h1 h2 => by simp only [List.getElem_take]; exact h.2 i (by simp at h1; omega) (by simp at h2; omega)⟩
theorem VRL.drop {ι : PMap} {a a' : List Value} (h : VRL ι a a') (n : Nat) : VRL ι (a.drop n) (a'.drop n) :=
  ⟨by simp [h.1], fun i h1 h2 => by simp only [List.getElem_drop]; exact h.2 (n + i) (by simp at h1; omega) (by simp at h2; omega)⟩
theorem VRL.set {ι : PMap} {a a' : List Value} (h : VRL ι a a') {v v' : Value} (hv : VR ι v v') (i : Nat) : VRL ι (a.set i v) (a'.set i v') := by
  refine ⟨by simp [h.1], fun j h1 h2 => ?_⟩
  simp only [List.getElem_set]
  split
  · exact hv
  · exact h.2 j (by simpa using h1) (by simpa using h2)
theorem VRL.getElem? {ι : PMap} {a a' : List Value} (h : VRL ι a a') {i : Nat} {v : Value} (hv : a[i]? = some v) : ∃ v', a'[i]? = some v' ∧ VR ι v v' := by
  obtain ⟨hlt, rfl⟩ := List.getElem?_eq_some_iff.1 hv
  exact ⟨a'[i]'(by rw [← h.1]; exact hlt), List.getElem?_eq_getElem _, h.2 i hlt _⟩
theorem VRL.putCells {ι : PMap} {vs vs' : List Value} : ∀ {a a' : List Value}, VRL ι a a' → VRL ι vs vs' → ∀ off, VRL ι (putCells a off vs) (putCells a' off vs') := by
  induction vs generalizing vs' with
  | nil => intro a a' h hv off; rw [hv.nil_inv]; exact h
  | cons v vs ih =>
    intro a a' h hv off
    obtain ⟨v', c', rfl, h1, h2⟩ := hv.cons_inv
    exact ih (h.set h1 off) h2 (off + 1)

theorem VRA_iff {ι : PMap} {c c' : Array Value} : VRA ι c c' ↔ VRL ι c.toList c'.toList := by
  constructor
  · intro h; exact ⟨by simpa using h.1, fun i h1 h2 => by simpa using h.2 i (by simpa using h1) (by simpa using h2)⟩
  · intro h
    refine ⟨by simpa using h.1, fun i h1 h2 => ?_⟩
    have := h.2 i (by simpa using h1) (by simpa using h2)
    rw [Array.getElem_toList, Array.getElem_toList] at this
    exact this

theorem VRA.toArray {ι : PMap} {c c' : List Value} (h : VRL ι c c') : VRA ι c.toArray c'.toArray := VRA_iff.2 (by simpa using h)
theorem VRA.append {ι : PMap} {a a' b b' : Array Value} (h1 : VRA ι a a') (h2 : VRA ι b b') : VRA ι (a ++ b) (a' ++ b') := by
  rw [VRA_iff] at *; simpa using h1.append h2
theorem VRA.getElem? {ι : PMap} {a a' : Array Value} (h : VRA ι a a') {i : Nat} {v : Value} (hv : a[i]? = some v) : ∃ v', a'[i]? = some v' ∧ VR ι v v' := by
  have := (VRA_iff.1 h).getElem? (i := i) (v := v) (by simpa using hv)
  simpa using this
theorem VRA.map {ι : PMap} {α : Type} {f g : α → Value} {l : Array α} (h : ∀ x ∈ l, VR ι (f x) (g x)) : VRA ι (l.map f) (l.map g) :=
  ⟨by simp, fun i h1 h2 => by simp only [Array.getElem_map]; exact h _ (Array.getElem_mem _)⟩
theorem VRL.map {ι : PMap} {α : Type} {f g : α → Value} {l : List α} (h : ∀ x ∈ l, VR ι (f x) (g x)) : VRL ι (l.map f) (l.map g) :=
  ⟨by simp, fun i h1 h2 => by simp only [List.getElem_map]; exact h _ (List.getElem_mem _)⟩

theorem VR.of_agg {ι : PMap} {c c' : Array Value} (h : VRA ι c c') : VR ι (.agg c) (.agg c') := .agg _ _ h.1 h.2
theorem VR.of_tuple {ι : PMap} {c c' : Array Value} (h : VRA ι c c') : VR ι (.tuple c) (.tuple c') := .tuple _ _ h.1 h.2
theorem VR.agg_inv {ι : PMap} {c : Array Value} {v : Value} (h : VR ι (.agg c) v) : ∃ c', v = .agg c' ∧ VRA ι c c' := by cases h; exact ⟨_, rfl, ‹_›, ‹_›⟩
theorem VR.tuple_inv {ι : PMap} {c : Array Value} {v : Value} (h : VR ι (.tuple c) v) : ∃ c', v = .tuple c' ∧ VRA ι c c' := by cases h; exact ⟨_, rfl, ‹_›, ‹_›⟩
theorem VR.int_inv {ι : PMap} {k : IntKind} {n : Int} {v : Value} (h : VR ι (.int k n) v) : v = .int k n := by cases h; rfl
theorem VR.bool_inv {ι : PMap} {b : Bool} {v : Value} (h : VR ι (.bool b) v) : v = .bool b := by cases h; rfl
theorem VR.string_inv {ι : PMap} {s : ByteArray} {v : Value} (h : VR ι (.string s) v) : v = .string s := by cases h; rfl
theorem VR.ptr_inv {ι : PMap} {a : Addr} {v : Value} (h : VR ι (.pointer (some a)) v) : ∃ pl, ι a.block = some pl ∧ a.spot = none ∧ v = .pointer (some ⟨pl.b, pl.base + a.off, none⟩) := by
  cases h; exact ⟨_, ‹_›, rfl, rfl⟩
theorem VR.map_inv {ι : PMap} {r : Nat} {v : Value} (h : VR ι (.map (some r)) v) : ∃ pl, ι r = some pl ∧ v = .map (some pl.b) := by cases h; exact ⟨_, ‹_›, rfl⟩
theorem VR.func_inv {ι : PMap} {fn : Fn} {f c : Array Value} {v : Value} (h : VR ι (.func fn f c) v) : ∃ f' c', v = .func fn f' c' ∧ VRA ι f f' ∧ VRA ι c c' := by
  cases h; exact ⟨_, _, rfl, ⟨‹_›, ‹_›⟩, ⟨‹_›, ‹_›⟩⟩

theorem VR.one_eq {ι : PMap} {v v' : Value} (h : VR ι v v') : one v' = one v := by cases h <;> rfl

/-- The cells of a value. -/
theorem VR.cells {ι : PMap} {v v' : Value} (h : VR ι v v') : VRL ι v.cells.toList v'.cells.toList := by
  have single : ∀ {x y : Value}, VR ι x y → VRL ι [x] [y] := fun h => .cons h (.nil ι)
  cases h with
  | agg c c' h1 h2 => exact VRA_iff.1 ⟨h1, h2⟩
  | bool => exact single (.bool _)
  | int => exact single (.int _ _)
  | float => exact single (.float _ _)
  | complex => exact single (.complex _ _ _)
  | string => exact single (.string _)
  | ptrNil => exact single .ptrNil
  | ptr off hi => exact single (.ptr off hi)
  | sliceNil => exact single .sliceNil
  | sliceX a b c hi hl => exact single (.sliceX a b c hi hl)
  | sliceU a b k c d hi hl hk hs hb => exact single (.sliceU a b k c d hi hl hk hs hb)
  | slice0 a b => exact single (.slice0 a b)
  | mapNil => exact single .mapNil
  | map hi => exact single (.map hi)
  | func fn f f' c c' h1 h2 h3 h4 => exact single (.func fn f f' c c' h1 h2 h3 h4)
  | nilFunc => exact single .nilFunc
  | iface t v v' hv => exact single (.iface t v v' hv)
  | nilIface => exact single .nilIface
  | tuple c c' h1 h2 => exact single (.tuple c c' h1 h2)

theorem VR.cells_size {ι : PMap} {v v' : Value} (h : VR ι v v') : v'.cells.size = v.cells.size := by
  have := h.cells.1; simpa using this.symm

theorem VR.refl_plain (ι : PMap) : ∀ (n : Nat) (v : Value), plainV n v = true → VR ι v v := by
  intro n
  induction n with
  | zero =>
    intro v h
    match v, h with
    | .bool _, _ => exact .bool _
    | .int _ _, _ => exact .int _ _
    | .float _ _, _ => exact .float _ _
    | .complex _ _ _, _ => exact .complex _ _ _
    | .string _, _ => exact .string _
    | .pointer none, _ => exact .ptrNil
    | .slice none 0 0, _ => exact .sliceNil
    | .map none, _ => exact .mapNil
    | .nilFunc, _ => exact .nilFunc
    | .nilIface, _ => exact .nilIface
  | succ n ih =>
    intro v h
    match v, h with
    | .bool _, _ => exact .bool _
    | .int _ _, _ => exact .int _ _
    | .float _ _, _ => exact .float _ _
    | .complex _ _ _, _ => exact .complex _ _ _
    | .string _, _ => exact .string _
    | .pointer none, _ => exact .ptrNil
    | .slice none 0 0, _ => exact .sliceNil
    | .map none, _ => exact .mapNil
    | .nilFunc, _ => exact .nilFunc
    | .nilIface, _ => exact .nilIface
    | .func fn f c, h =>
      simp [plainV] at h
      exact .func fn f f c c rfl rfl (fun i h1 _ => ih _ (h.1 i h1)) (fun i h1 _ => ih _ (h.2 i h1))
    | .iface t v, h => exact .iface t v v (ih _ (by simpa [plainV] using h))
    | .agg cs, h => simp [plainV] at h; exact .agg cs cs rfl (fun i h1 _ => ih _ (h i h1))
    | .tuple cs, h => simp [plainV] at h; exact .tuple cs cs rfl (fun i h1 _ => ih _ (h i h1))

/-- Map entries. -/
def ERL (ι : PMap) (es es' : List MapEntry) : Prop :=
  es.length = es'.length ∧ ∀ (i : Nat) (h1 : i < es.length) (h2 : i < es'.length), VR ι (es[i]'h1).key (es'[i]'h2).key ∧ VR ι (es[i]'h1).val (es'[i]'h2).val ∧ (es'[i]'h2).born = (es[i]'h1).born

theorem ERL.mono {ι ι' : PMap} (hm : ι.le ι') {c c' : List MapEntry} (h : ERL ι c c') : ERL ι' c c' :=
  ⟨h.1, fun i h1 h2 => ⟨(h.2 i h1 h2).1.mono hm, (h.2 i h1 h2).2.1.mono hm, (h.2 i h1 h2).2.2⟩⟩

/-- What the model holds where an object lies. -/
def ORel (ι : PMap) (w : World) (pl : Place) : AObj → Prop
  | .dead => True
  | .cells c .ro => ∀ j v, c[j]? = some v → ∃ u, w.cell? ⟨pl.b, pl.base + j, none⟩ = some u ∧ VR ι v u
  | .cells c .rw => pl.base = 0 ∧ ∃ cs e, w.heap[pl.b]? = some (.cells cs e (0, 0)) ∧ VRL ι c cs.toList
  | .cells c (.tail sz) => pl.sz = sz ∧ c.length ≤ pl.lim ∧ ∃ cs e fz, w.heap[pl.b]? = some (.cells cs e fz) ∧ pl.base + pl.lim ≤ cs.size ∧
      (∀ j, j < pl.lim → w.frozen? ⟨pl.b, pl.base + j, none⟩ = false) ∧ ∀ j v, c[j]? = some v → ∃ u, cs[pl.base + j]? = some u ∧ VR ι v u
  | .map es clock => ∃ es', w.heap[pl.b]? = some (.map es' clock) ∧ ERL ι es es'.toList

theorem frozen?_same {w w' : World} {b : Nat} (h : w'.heap[b]? = w.heap[b]?) (o : Nat) : w'.frozen? ⟨b, o, none⟩ = w.frozen? ⟨b, o, none⟩ := by simp [World.frozen?, h]
theorem cell?_same {w w' : World} {b : Nat} (h : w'.heap[b]? = w.heap[b]?) (o : Nat) : w'.cell? ⟨b, o, none⟩ = w.cell? ⟨b, o, none⟩ := by simp [World.cell?, h]

theorem ORel.mono {ι ι' : PMap} (hm : ι.le ι') {w w' : World} {pl : Place} {o : AObj} (h : ORel ι w pl o) (hb : o.alive = true → w'.heap[pl.b]? = w.heap[pl.b]?) : ORel ι' w' pl o := by
  cases o with
  | dead => trivial
  | cells c md =>
    replace hb := hb rfl
    cases md with
    | ro =>
      intro j v hj
      obtain ⟨u, h1, h2⟩ := h j v hj
      exact ⟨u, by rw [cell?_same hb]; exact h1, h2.mono hm⟩
    | rw =>
      obtain ⟨h0, cs, e, h1, h2⟩ := h
      exact ⟨h0, cs, e, by rw [hb]; exact h1, h2.mono hm⟩
    | tail sz =>
      obtain ⟨h0, hl, cs, e, fz, h1, h2, h3, h4⟩ := h
      refine ⟨h0, hl, cs, e, fz, by rw [hb]; exact h1, h2, fun j hj => by rw [frozen?_same hb]; exact h3 j hj, fun j v hj => ?_⟩
      obtain ⟨u, h5, h6⟩ := h4 j v hj
      exact ⟨u, h5, h6.mono hm⟩
  | map es clock =>
    replace hb := hb rfl
    obtain ⟨es', h1, h2⟩ := h
    exact ⟨es', by rw [hb]; exact h1, h2.mono hm⟩

structure HR0 (ι : PMap) (h : AHeap) (w : World) : Prop where
  obj : ∀ id pl, ι id = some pl → ORel ι w pl (h.get id)
  ex : ∀ id pl id' pl', ι id = some pl → ι id' = some pl' → id ≠ id' → (h.get id).own = true → (h.get id').alive = true → pl.b ≠ pl'.b
  lt : ∀ id pl, ι id = some pl → (h.get id).alive = true → pl.b < w.heap.size

/-- The blocks that may be written. -/
def Own (ι : PMap) (h : AHeap) (k : Nat) : Prop := ∃ id pl, ι id = some pl ∧ (h.get id).own = true ∧ pl.b = k

/-- Package-level variables that hold something from the start: which, and what. -/
def lays : List (Nat × Value) := []
def LayW (w : World) : Prop := ∀ p ∈ lays, w.cell? ⟨p.1, 0, none⟩ = some p.2
/-- They hold it, and no object lies there that may be written. -/
def Lay (ι : PMap) (h : AHeap) (w : World) : Prop := ∀ p ∈ lays, w.cell? ⟨p.1, 0, none⟩ = some p.2 ∧ ¬ Own ι h p.1
theorem cell?_size {w : World} {b o : Nat} {v : Value} (h : w.cell? ⟨b, o, none⟩ = some v) : b < w.heap.size := by
  rcases Nat.lt_or_ge b w.heap.size with h1 | h1
  · exact h1
  · simp [World.cell?, Array.getElem?_eq_none h1] at h
theorem Lay.next {ι ι' : PMap} {h h' : AHeap} {w w' : World} (l : Lay ι h w) (keep : ∀ k, k < w.heap.size → ¬ Own ι h k → w'.heap[k]? = w.heap[k]?) (own : ∀ k, k < w.heap.size → Own ι' h' k → Own ι h k) : Lay ι' h' w' := fun p hp => by
  obtain ⟨h1, h2⟩ := l p hp
  have h3 := cell?_size h1
  exact ⟨by rw [cell?_same (keep _ h3 h2)]; exact h1, fun e => h2 (own _ h3 e)⟩
theorem Lay.same {ι : PMap} {h : AHeap} {w w' : World} (l : Lay ι h w) (keep : ∀ k, k < w.heap.size → ¬ Own ι h k → w'.heap[k]? = w.heap[k]?) : Lay ι h w' := l.next keep fun _ _ e => e

structure HR (ι : PMap) (h : AHeap) (w : World) : Prop extends HR0 ι h w where
  lay : Lay ι h w
theorem HR.notLaid {ι : PMap} {h : AHeap} {w : World} (hr : HR ι h w) {k : Nat} {o : Obj} (hk : w.heap[k]? = some o) (ho : ∀ c e f, o ≠ .cells c e f) : ∀ p ∈ lays, p.1 ≠ k := fun p hp e => by
  have := (hr.lay p hp).1
  unfold World.cell? at this
  simp only [e, hk] at this
  cases o with
  | cells c e f => exact ho c e f rfl
  | _ => cases this

theorem own_alive {o : AObj} (h : o.own = true) : o.alive = true := by cases o <;> simp_all [AObj.own, AObj.alive]

/-- .. but for what is laid. -/
structure Step0 (ι : PMap) (h : AHeap) (w : World) (ι' : PMap) (h' : AHeap) (w' : World) : Prop where
  ext : ι.le ι'
  dom : ∀ id pl, ι' id = some pl → ι id = some pl ∨ (h.next ≤ id ∧ id < h'.next)
  next : h.next ≤ h'.next
  os : w'.os = w.os
  tape : w'.tape = w.tape
  output : w'.output = w.output
  size : w.heap.size ≤ w'.heap.size
  keep : ∀ k, k < w.heap.size → ¬ Own ι h k → w'.heap[k]? = w.heap[k]?
  newb : ∀ id pl, ι' id = some pl → ι id = none → (h'.get id).alive = true → w.heap.size ≤ pl.b ∨ Own ι h pl.b
  old : ∀ id pl, ι id = some pl → (h'.get id).own = true → (h.get id).own = true
  dead : ∀ id pl, ι id = some pl → h.get id = .dead → h'.get id = .dead
  hr : HR0 ι' h' w'

/-- A step of the model that an abstract step has foreseen. -/
structure Step (ι : PMap) (h : AHeap) (w : World) (ι' : PMap) (h' : AHeap) (w' : World) : Prop where
  ext : ι.le ι'
  dom : ∀ id pl, ι' id = some pl → ι id = some pl ∨ (h.next ≤ id ∧ id < h'.next)
  next : h.next ≤ h'.next
  os : w'.os = w.os
  tape : w'.tape = w.tape
  output : w'.output = w.output
  size : w.heap.size ≤ w'.heap.size
  keep : ∀ k, k < w.heap.size → ¬ Own ι h k → w'.heap[k]? = w.heap[k]?
  newb : ∀ id pl, ι' id = some pl → ι id = none → (h'.get id).alive = true → w.heap.size ≤ pl.b ∨ Own ι h pl.b
  old : ∀ id pl, ι id = some pl → (h'.get id).own = true → (h.get id).own = true
  dead : ∀ id pl, ι id = some pl → h.get id = .dead → h'.get id = .dead
  hr : HR ι' h' w'

theorem Step.refl {ι : PMap} {h : AHeap} {w : World} (hr : HR ι h w) : Step ι h w ι h w where
  ext := fun _ _ h => h
  dom := fun _ _ h => .inl h
  next := Nat.le_refl _
  os := rfl
  tape := rfl
  output := rfl
  size := Nat.le_refl _
  keep := fun _ _ _ => rfl
  newb := fun id pl h1 h2 => by rw [h1] at h2; cases h2
  old := fun _ _ _ h => h
  dead := fun _ _ _ h => h
  hr := hr

theorem Step0.own {ι ι' : PMap} {h h' : AHeap} {w w' : World} (s : Step0 ι h w ι' h' w') {k : Nat} (hk : k < w.heap.size) (ho : Own ι' h' k) : Own ι h k := by
  obtain ⟨id, pl, h1, h2, h3⟩ := ho
  cases hi : ι id with
  | some pl' =>
    have := s.ext _ _ hi
    rw [h1] at this
    cases this
    exact ⟨id, pl, hi, s.old id pl hi h2, h3⟩
  | none =>
    rcases s.newb id pl h1 hi (own_alive h2) with h4 | h4
    · omega
    · exact h3 ▸ h4

theorem Step.zero {ι ι' : PMap} {h h' : AHeap} {w w' : World} (s : Step ι h w ι' h' w') : Step0 ι h w ι' h' w' := ⟨s.ext, s.dom, s.next, s.os, s.tape, s.output, s.size, s.keep, s.newb, s.old, s.dead, s.hr.toHR0⟩
theorem Step.of0 {ι ι' : PMap} {h h' : AHeap} {w w' : World} (hr : HR ι h w) (s : Step0 ι h w ι' h' w') : Step ι h w ι' h' w' :=
  ⟨s.ext, s.dom, s.next, s.os, s.tape, s.output, s.size, s.keep, s.newb, s.old, s.dead, ⟨s.hr, hr.lay.next s.keep fun _ hk ho => s.own hk ho⟩⟩
theorem Step.own {ι ι' : PMap} {h h' : AHeap} {w w' : World} (s : Step ι h w ι' h' w') {k : Nat} (hk : k < w.heap.size) (ho : Own ι' h' k) : Own ι h k := s.zero.own hk ho

theorem Step.trans {ι₁ ι₂ ι₃ : PMap} {h₁ h₂ h₃ : AHeap} {w₁ w₂ w₃ : World} (s : Step ι₁ h₁ w₁ ι₂ h₂ w₂) (t : Step ι₂ h₂ w₂ ι₃ h₃ w₃) : Step ι₁ h₁ w₁ ι₃ h₃ w₃ where
  ext := fun id pl h => t.ext _ _ (s.ext _ _ h)
  dom := fun id pl h => by
    rcases t.dom _ _ h with h1 | ⟨h1, h2⟩
    · rcases s.dom _ _ h1 with h3 | ⟨h3, h4⟩
      · exact .inl h3
      · exact .inr ⟨h3, Nat.lt_of_lt_of_le h4 t.next⟩
    · exact .inr ⟨Nat.le_trans s.next h1, h2⟩
  next := Nat.le_trans s.next t.next
  os := t.os.trans s.os
  tape := t.tape.trans s.tape
  output := t.output.trans s.output
  size := Nat.le_trans s.size t.size
  keep := fun k hk ho => (t.keep k (Nat.lt_of_lt_of_le hk s.size) (fun h => ho (s.own hk h))).trans (s.keep k hk ho)
  newb := fun id pl h1 h2 h3 => by
    have sz := s.size
    have conv : ∀ k, Own ι₂ h₂ k → w₁.heap.size ≤ k ∨ Own ι₁ h₁ k := fun k hk => by
      rcases Nat.lt_or_ge k w₁.heap.size with h4 | h4
      · exact .inr (s.own h4 hk)
      · exact .inl h4
    cases hi : ι₂ id with
    | none =>
      rcases t.newb id pl h1 hi h3 with h4 | h4
      · exact .inl (by omega)
      · exact conv _ h4
    | some pl' =>
      have := t.ext _ _ hi
      rw [h1] at this
      cases this
      -- the object lay there already behind the first step
      by_cases h4 : w₁.heap.size ≤ pl.b
      · exact .inl h4
      · rcases Classical.em ((h₂.get id).alive = true) with h5 | h5
        · exact s.newb id pl hi h2 h5
        · exact absurd h3 (by
            -- dead stays dead
            intro h6
            have h7 : h₂.get id = .dead := by cases hg : h₂.get id <;> simp_all [AObj.alive]
            rw [t.dead id pl hi h7] at h6; cases h6)
  old := fun id pl h1 h2 => s.old id pl h1 (t.old id pl (s.ext _ _ h1) h2)
  dead := fun id pl h1 h2 => t.dead id pl (s.ext _ _ h1) (s.dead id pl h1 h2)
  hr := t.hr

end Go.AM
