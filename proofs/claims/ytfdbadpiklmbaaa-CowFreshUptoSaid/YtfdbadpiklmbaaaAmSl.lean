/- AM: data of a program's types, as they stand in the heap. -/
import Derived.Test.YtfdbadpiklmbaaaAmRep
set_option linter.unusedSimpArgs false
set_option linter.unusedVariables false
set_option linter.unnecessarySimpa false
set_option maxRecDepth 100000
namespace Go.AM

@[go_sem] theorem minmax_min {k : IntKind} {x y : Int} : minmax false (.int k x) (.int k y) = some (.int k (min x y)) := by
  show (if k = k then _ else _) = _
  rw [if_pos rfl]
  simp only [Bool.false_eq_true, if_false]
  split <;> congr 2 <;> omega
@[go_sem] theorem minmax_max {k : IntKind} {x y : Int} : minmax true (.int k x) (.int k y) = some (.int k (max x y)) := by
  show (if k = k then _ else _) = _
  rw [if_pos rfl]
  simp only [if_true]
  split <;> congr 2 <;> omega
attribute [go_sem] List.foldlM_cons List.foldlM_nil Option.bind_eq_bind Option.bind_some Option.pure_def
/-- The cells of a slice, by what stands there (where nothing better is known). -/
def acs (sz n off : Nat) : AObj → Option (List Value)
  | .cells c _ => if n * sz = 0 then some [] else if off + n * sz ≤ c.length then some ((c.drop off).take (n * sz)) else none
  | _ => if n * sz = 0 then some [] else none
@[go_sem low] theorem acells_acs {h : AHeap} {sz n m cap b o : Nat} {sp : Option Nat} : acells h sz n (.slice (some ⟨b, o, sp⟩) m cap) = acs sz n o (h.get b) := by
  unfold acells acs
  cases hg : h.get b <;> simp only [hg]
@[go_sem] theorem acs_cells {c : List Value} {md : Md} {sz n off : Nat} : acs sz n off (.cells c md) = if n * sz = 0 then some [] else if off + n * sz ≤ c.length then some ((c.drop off).take (n * sz)) else none := rfl
theorem go_gen {Γ : Cx} {c : Code} {k : List Fr} {ρ : Env} {h : AHeap} (H : ∀ h', h' = h → go Γ c k ρ h') : go Γ c k ρ h := H h rfl
theorem cl_gen {Γ : Cx} {g : FuncId} {args : Array Value} {ops : Array Oper} {chk : Nat → Bool} {i : Nat} {d : Option Nat} {l : List Oper} {k : List Fr} {ρ : Env} {h : AHeap} (H : ∀ h', h' = h → cl Γ g args ops chk i d l k ρ h') : cl Γ g args ops chk i d l k ρ h := H h rfl
theorem gd_split {Γ : Cx} {ops : Array Oper} {chk : Nat → Bool} {i : Nat} {o : Oper} {l : List Oper} {k : List Fr} {ρ : Env} {h : AHeap} {b : Bool} (h1 : b = true → gd Γ ops chk i o l k ρ h true) (h2 : b = false → gd Γ ops chk i o l k ρ h false) : gd Γ ops chk i o l k ρ h b := by
  cases b with
  | true => exact h1 rfl
  | false => exact h2 rfl
@[go_sem] theorem some_beq_true {b : Bool} : ((some b : Option Bool) == some true) = b := by cases b <;> rfl
@[go_sem] theorem some_beq_false {b : Bool} : ((some b : Option Bool) == some false) = !b := by cases b <;> rfl
theorem bool_ext {a b : Bool} (h : a = true ↔ b = true) : Value.bool a = Value.bool b := by cases a <;> cases b <;> simp_all
theorem dec_t {p : Prop} [Decidable p] : (decide p = true) = p := by simp
theorem dec_f {p : Prop} [Decidable p] : (decide p = false) = ¬ p := by simp
theorem AHeap.quiet.push' {h h' : AHeap} (q : h.quiet h') (o : AObj) : h.quiet (h'.push o) := q.trans (.push _ _)

section
variable {h : AHeap} {o₁ o₂ o₃ o₄ o₅ : AObj}
@[go_sem] theorem quiet_p0 : h.quiet h = True := eq_true (.refl _)
@[go_sem] theorem quiet_p1 : h.quiet (h.push o₁) = True := eq_true (.push _ _)
@[go_sem] theorem quiet_p2 : h.quiet ((h.push o₁).push o₂) = True := eq_true ((AHeap.quiet.push _ _).push' _)
@[go_sem] theorem quiet_p3 : h.quiet (((h.push o₁).push o₂).push o₃) = True := eq_true (((AHeap.quiet.push _ _).push' _).push' _)
@[go_sem] theorem quiet_p4 : h.quiet ((((h.push o₁).push o₂).push o₃).push o₄) = True := eq_true ((((AHeap.quiet.push _ _).push' _).push' _).push' _)
end
theorem drop_cons {α : Type} {l : List α} {i : Nat} {x : α} (h : l[i]? = some x) : l.drop i = x :: l.drop (i + 1) := by
  obtain ⟨hl, rfl⟩ := List.getElem?_eq_some_iff.1 h
  exact List.drop_eq_getElem_cons hl
theorem AHeap.quiet.set' {h h' : AHeap} (q : h.quiet h') {id : Nat} (hid : h.next ≤ id) (o : AObj) : h.quiet (h'.set id o) :=
  ⟨by simpa using q.1, fun j hj => by rw [AHeap.get_set_ne _ _ (by omega)]; exact q.2 j hj⟩
theorem AHeap.quiet.box {h k : AHeap} {o : AObj} (q : (h.push o).quiet k) : k.get h.next = o ∧ h.next < k.next ∧ h.quiet k :=
  ⟨by rw [q.2 _ (by simp)]; simp, by have := q.1; simp at this; omega, (AHeap.quiet.push _ _).trans q⟩

/-! What is left as it was. -/

/-- What was there, but for some objects, is as it was. -/
def Fw (W : Nat → Prop) (h h' : AHeap) : Prop := h.next ≤ h'.next ∧ ∀ j, j < h.next → ¬ W j → h'.get j = h.get j

theorem Fw.refl (W : Nat → Prop) (h : AHeap) : Fw W h h := ⟨Nat.le_refl _, fun _ _ _ => rfl⟩
theorem Fw.of_quiet {W : Nat → Prop} {h h' : AHeap} (q : h.quiet h') : Fw W h h' := ⟨q.1, fun j hj _ => q.2 j hj⟩
theorem Fw.quiet {W : Nat → Prop} {h h' : AHeap} (f : Fw W h h') (hw : ∀ j, j < h.next → ¬ W j) : h.quiet h' := ⟨f.1, fun j hj => f.2 j hj (hw j hj)⟩
theorem Fw.trans {W W' V : Nat → Prop} {a b c : AHeap} (f : Fw W a b) (g : Fw W' b c) (h1 : ∀ j, j < a.next → W j → V j) (h2 : ∀ j, j < a.next → W' j → V j) : Fw V a c :=
  ⟨Nat.le_trans f.1 g.1, fun j hj hv => (g.2 j (Nat.lt_of_lt_of_le hj f.1) (fun hw => hv (h2 j hj hw))).trans (f.2 j hj (fun hw => hv (h1 j hj hw)))⟩
theorem Fw.mono {W V : Nat → Prop} {a b : AHeap} (f : Fw W a b) (h1 : ∀ j, j < a.next → W j → V j) : Fw V a b := ⟨f.1, fun j hj hv => f.2 j hj (fun hw => hv (h1 j hj hw))⟩
theorem Fw.after {W : Nat → Prop} {h h₁ h₂ : AHeap} (q : h.quiet h₁) (f : Fw W h₁ h₂) : Fw W h h₂ := (Fw.of_quiet (W := W) q).trans f (fun _ _ e => e) (fun _ _ e => e)
theorem Fw.then {W : Nat → Prop} {h h₁ h₂ : AHeap} (f : Fw W h h₁) (q : h₁.quiet h₂) : Fw W h h₂ := f.trans (Fw.of_quiet (W := W) q) (fun _ _ e => e) (fun _ _ e => e)
theorem Fw.behind {W : Nat → Prop} {h h₁ h₂ : AHeap} (q : h.quiet h₁) (f : Fw W h₁ h₂) (hw : ∀ j, W j → h.next ≤ j) : h.quiet h₂ :=
  ⟨Nat.le_trans q.1 f.1, fun j hj => (f.2 j (Nat.lt_of_lt_of_le hj q.1) (fun h => by have := hw j h; omega)).trans (q.2 j hj)⟩
theorem AHeap.quiet.push_set (h : AHeap) (o o' : AObj) : h.quiet ((h.push o).set h.next o') :=
  ⟨by simp, fun i hi => by rw [AHeap.get_set_ne _ _ (by omega), AHeap.get_push_lt _ _ hi]⟩
theorem Fw.set {h : AHeap} {id : Nat} (o : AObj) : Fw (· = id) h (h.set id o) := ⟨by simp, fun j _ hj => AHeap.get_set_ne h o (Ne.symm hj)⟩
theorem Fw.push {W : Nat → Prop} {h : AHeap} (o : AObj) : Fw W h (h.push o) := .of_quiet (.push _ _)

/-! Two lists, one by one. -/

def All2 {α β : Type} (R : α → β → Prop) (xs : List α) (ys : List β) : Prop := xs.length = ys.length ∧ ∀ (i : Nat) (x : α) (y : β), xs[i]? = some x → ys[i]? = some y → R x y

section
variable {α β : Type} {R R' : α → β → Prop}
theorem All2.nil : All2 R [] [] := ⟨rfl, fun i x y h => by simp at h⟩
theorem All2.cons {x : α} {y : β} {xs : List α} {ys : List β} (h : R x y) (t : All2 R xs ys) : All2 R (x :: xs) (y :: ys) := by
  refine ⟨by simp [t.1], fun i a b h1 h2 => ?_⟩
  cases i with
  | zero => simp at h1 h2; subst h1 h2; exact h
  | succ i => exact t.2 i a b (by simpa using h1) (by simpa using h2)
theorem All2.head {x : α} {y : β} {xs : List α} {ys : List β} (t : All2 R (x :: xs) (y :: ys)) : R x y ∧ All2 R xs ys :=
  ⟨t.2 0 x y rfl rfl, by simpa using t.1, fun i a b h1 h2 => t.2 (i + 1) a b (by simpa using h1) (by simpa using h2)⟩
theorem All2.cons_inv {x : α} {xs : List α} {l : List β} (t : All2 R (x :: xs) l) : ∃ y ys, l = y :: ys ∧ R x y ∧ All2 R xs ys := by
  cases l with
  | nil => exact absurd t.1 (by simp)
  | cons y ys => exact ⟨y, ys, rfl, t.head⟩
theorem All2.nil_inv {l : List β} (t : All2 R ([] : List α) l) : l = [] := List.eq_nil_of_length_eq_zero t.1.symm
theorem All2.append : ∀ {xs : List α} {ys : List β} {xs' : List α} {ys' : List β}, All2 R xs ys → All2 R xs' ys' → All2 R (xs ++ xs') (ys ++ ys')
  | [], ys, _, _, h, h' => by rw [h.nil_inv]; exact h'
  | x :: xs, ys, _, _, h, h' => by obtain ⟨y, ys, rfl, h1, h2⟩ := h.cons_inv; exact .cons h1 (h2.append h')
theorem All2.mono {xs : List α} {ys : List β} (h : All2 R xs ys) (hr : ∀ x y, x ∈ xs → y ∈ ys → R x y → R' x y) : All2 R' xs ys :=
  ⟨h.1, fun i x y h1 h2 => hr x y (List.mem_of_getElem? h1) (List.mem_of_getElem? h2) (h.2 i x y h1 h2)⟩
theorem All2.drop {xs : List α} {ys : List β} (h : All2 R xs ys) (n : Nat) : All2 R (xs.drop n) (ys.drop n) :=
  ⟨by simp [h.1], fun i x y h1 h2 => h.2 (n + i) x y (by simpa using h1) (by simpa using h2)⟩
theorem All2.take {xs : List α} {ys : List β} (h : All2 R xs ys) (n : Nat) : All2 R (xs.take n) (ys.take n) :=
  ⟨by simp [h.1], fun i x y h1 h2 => by
    rw [List.getElem?_take] at h1 h2
    split at h1
    · rename_i hi; rw [if_pos hi] at h2; exact h.2 i x y h1 h2
    · cases h1⟩
theorem All2.get {xs : List α} {ys : List β} (h : All2 R xs ys) {i : Nat} {x : α} (hi : xs[i]? = some x) : ∃ y, ys[i]? = some y ∧ R x y := by
  have : i < ys.length := by rw [← h.1]; exact (List.getElem?_eq_some_iff.1 hi).1
  exact ⟨ys[i], List.getElem?_eq_getElem this, h.2 i x _ hi (List.getElem?_eq_getElem this)⟩
theorem All2.set {xs : List α} {ys : List β} (h : All2 R xs ys) {i : Nat} {x : α} {y : β} (hr : R x y) : All2 R (xs.set i x) (ys.set i y) := by
  refine ⟨by simp [h.1], fun j a b h1 h2 => ?_⟩
  rw [List.getElem?_set] at h1 h2
  split at h1
  · rename_i e; rw [if_pos e] at h2; split at h1 <;> split at h2 <;> simp_all
  · rename_i e; rw [if_neg e] at h2; exact h.2 j a b h1 h2
theorem All2.map_right {γ : Type} {f : β → γ} {Q : α → γ → Prop} {xs : List α} {ys : List β} (h : All2 R xs ys) (hr : ∀ x y, R x y → Q x (f y)) : All2 Q xs (ys.map f) := by
  refine ⟨by simp [h.1], fun i x z h1 h2 => ?_⟩
  rw [List.getElem?_map, Option.map_eq_some_iff] at h2
  obtain ⟨y, h3, rfl⟩ := h2
  exact hr x y (h.2 i x y h1 h3)
theorem All2.of_map {f : α → β} (xs : List α) (hr : ∀ x ∈ xs, R x (f x)) : All2 R xs (xs.map f) := by
  refine ⟨by simp, fun i x y h1 h2 => ?_⟩
  rw [List.getElem?_map, h1] at h2
  cases h2
  exact hr x (List.mem_of_getElem? h1)
end

/-! How data of a type stand in cells: in objects of S alone. -/

structure Rep (α : Type) where
  sz : Nat
  R : (Nat → Prop) → AHeap → α → List Value → Prop
  pos : 0 < sz
  len : ∀ {S h x c}, R S h x c → c.length = sz
  one : ∀ {S h x c}, R S h x c → c.all one = true
  mono : ∀ {S S' h h' x c}, R S h x c → (∀ j, S j → j < h.next → S' j ∧ h'.get j = h.get j) → R S' h' x c

section
variable {α β : Type}

theorem Rep.weaken (r : Rep α) {S S' : Nat → Prop} {h : AHeap} {x : α} {c : List Value} (hr : r.R S h x c) (hs : ∀ j, S j → S' j) : r.R S' h x c := r.mono hr fun j hj _ => ⟨hs j hj, rfl⟩
theorem Rep.quiet (r : Rep α) {S : Nat → Prop} {h h' : AHeap} {x : α} {c : List Value} (hr : r.R S h x c) (hq : h.quiet h') : r.R S h' x c := r.mono hr fun j hj hl => ⟨hj, hq.2 j hl⟩
theorem Rep.fr (r : Rep α) {S W : Nat → Prop} {h h' : AHeap} {x : α} {c : List Value} (hr : r.R S h x c) (hq : Fw W h h') (hd : ∀ j, S j → j < h.next → ¬ W j) : r.R S h' x c := r.mono hr fun j hj hl => ⟨hj, hq.2 j hl (hd j hj hl)⟩

def Rep.int (k : IntKind) : Rep Int where
  sz := 1
  R _ _ n c := c = [.int k n] ∧ k.min ≤ n ∧ n ≤ k.max
  pos := by decide
  len := by rintro S h x c ⟨rfl, _⟩; rfl
  one := by rintro S h x c ⟨rfl, _⟩; rfl
  mono := fun h _ => h

def Rep.nat (k : IntKind) : Rep Nat where
  sz := 1
  R _ _ n c := c = [.int k (n : Nat)] ∧ (n : Int) ≤ k.max
  pos := by decide
  len := by rintro S h x c ⟨rfl, _⟩; rfl
  one := by rintro S h x c ⟨rfl, _⟩; rfl
  mono := fun h _ => h

def Rep.bool : Rep Bool where
  sz := 1
  R _ _ n c := c = [.bool n]
  pos := by decide
  len := by rintro S h x c rfl; rfl
  one := by rintro S h x c rfl; rfl
  mono := fun h _ => h

/-- A pointer, whatever stands there. -/
def Rep.ptr : Rep (Option Nat) where
  sz := 1
  R _ _ n c := c = [.pointer (n.map fun id => ⟨id, 0, none⟩)]
  pos := by decide
  len := by rintro S h x c rfl; rfl
  one := by rintro S h x c rfl; rfl
  mono := fun h _ => h

def Rep.pair (a : Rep α) (b : Rep β) : Rep (α × β) where
  sz := a.sz + b.sz
  R S h x c := ∃ c1 c2, c = c1 ++ c2 ∧ a.R S h x.1 c1 ∧ b.R S h x.2 c2
  pos := Nat.lt_of_lt_of_le a.pos (Nat.le_add_right _ _)
  len := by rintro S h x c ⟨c1, c2, rfl, h1, h2⟩; rw [List.length_append, a.len h1, b.len h2]
  one := by rintro S h x c ⟨c1, c2, rfl, h1, h2⟩; rw [List.all_append, a.one h1, b.one h2]; rfl
  mono := by rintro S S' h h' x c ⟨c1, c2, rfl, h1, h2⟩ hm; exact ⟨c1, c2, rfl, a.mono h1 hm, b.mono h2 hm⟩

def Rep.via (r : Rep α) (f : β → α) : Rep β where
  sz := r.sz
  R S h x c := r.R S h (f x) c
  pos := r.pos
  len := r.len
  one := r.one
  mono := r.mono

/-! Slices. -/

theorem flat_length {sz : Nat} : ∀ {css : List (List Value)}, (∀ c ∈ css, c.length = sz) → css.flatten.length = css.length * sz
  | [], _ => by simp
  | c :: css, h => by
    rw [List.flatten_cons, List.length_append, flat_length (fun c hc => h c (by simp [hc])), h c (by simp), List.length_cons, Nat.add_mul]; omega

theorem flat_drop {sz : Nat} : ∀ {css : List (List Value)} (l : Nat), (∀ c ∈ css, c.length = sz) → css.flatten.drop (l * sz) = (css.drop l).flatten
  | [], l, _ => by simp
  | c :: css, 0, _ => by simp
  | c :: css, l + 1, h => by
    have hc := h c (by simp)
    rw [List.flatten_cons, Nat.add_mul, Nat.one_mul, List.drop_append, List.drop_eq_nil_of_le (by omega), List.nil_append, hc, Nat.add_sub_cancel]
    rw [flat_drop l (fun c hc => h c (by simp [hc]))]; rfl

theorem flat_take {sz : Nat} : ∀ {css : List (List Value)} (l : Nat), (∀ c ∈ css, c.length = sz) → css.flatten.take (l * sz) = (css.take l).flatten
  | [], l, _ => by simp
  | c :: css, 0, _ => by simp
  | c :: css, l + 1, h => by
    have hc := h c (by simp)
    rw [List.flatten_cons, Nat.add_mul, Nat.one_mul, List.take_append, List.take_of_length_le (by omega), hc, Nat.add_sub_cancel]
    rw [flat_take l (fun c hc => h c (by simp [hc]))]; rfl

theorem flat_at {sz : Nat} {css : List (List Value)} {i : Nat} {c : List Value} (h : ∀ c ∈ css, c.length = sz) (hi : css[i]? = some c) : (css.flatten.drop (i * sz)).take sz = c := by
  rw [flat_drop i h]
  have hl := (List.getElem?_eq_some_iff.1 hi)
  obtain ⟨hl, rfl⟩ := hl
  rw [List.drop_eq_getElem_cons hl, List.flatten_cons]
  have := h css[i] (List.getElem_mem hl)
  rw [List.take_append, List.take_of_length_le (by omega), this, Nat.sub_self, List.take_zero, List.append_nil]

/-- A slice of data. -/
def IsSl (r : Rep α) (S : Nat → Prop) (h : AHeap) (xs : List α) (v : Value) : Prop :=
  ∃ (a : Option Addr) (cap : Nat) (css : List (List Value)), v = .slice a xs.length cap ∧ xs.length ≤ cap ∧ xs.length ≤ 9223372036854775807 ∧ (a = none → cap = 0) ∧ (∀ ad, a = some ad → ad.spot = none ∨ ad.spot = some r.sz) ∧ All2 (r.R S h) xs css ∧
    (xs ≠ [] → ∃ ad c md, a = some ad ∧ S ad.block ∧ h.get ad.block = .cells c md ∧ ad.off + xs.length * r.sz ≤ c.length ∧ (c.drop ad.off).take (xs.length * r.sz) = css.flatten)

theorem All2.lens {r : Rep α} {S : Nat → Prop} {h : AHeap} {xs : List α} {css : List (List Value)} (ha : All2 (r.R S h) xs css) : ∀ c ∈ css, c.length = r.sz := by
  intro c hc
  obtain ⟨i, hi, rfl⟩ := List.getElem_of_mem hc
  exact r.len (ha.2 i (xs[i]'(by rw [ha.1]; exact hi)) _ (List.getElem?_eq_getElem _) (List.getElem?_eq_getElem hi))
theorem All2.ones {r : Rep α} {S : Nat → Prop} {h : AHeap} {xs : List α} {css : List (List Value)} (ha : All2 (r.R S h) xs css) : css.flatten.all one = true := by
  rw [List.all_flatten, List.all_eq_true]
  intro c hc
  obtain ⟨i, hi, rfl⟩ := List.getElem_of_mem hc
  exact r.one (ha.2 i (xs[i]'(by rw [ha.1]; exact hi)) _ (List.getElem?_eq_getElem _) (List.getElem?_eq_getElem hi))
theorem All2.flat {r : Rep α} {S : Nat → Prop} {h : AHeap} {xs : List α} {css : List (List Value)} (ha : All2 (r.R S h) xs css) : css.flatten.length = xs.length * r.sz := by
  rw [flat_length ha.lens, ha.1]
theorem All2.moves {r : Rep α} {S S' : Nat → Prop} {h h' : AHeap} {xs : List α} {css : List (List Value)} (ha : All2 (r.R S h) xs css) (hm : ∀ j, S j → j < h.next → S' j ∧ h'.get j = h.get j) : All2 (r.R S' h') xs css :=
  ha.mono fun _ _ _ _ hr => r.mono hr hm

theorem IsSl.mono {r : Rep α} {S S' : Nat → Prop} {h h' : AHeap} {xs : List α} {v : Value} (hs : IsSl r S h xs v) (hm : ∀ j, S j → j < h.next → S' j ∧ h'.get j = h.get j) : IsSl r S' h' xs v := by
  obtain ⟨a, cap, css, h1, h2, h3, h4, h5, h6, h7⟩ := hs
  refine ⟨a, cap, css, h1, h2, h3, h4, h5, h6.moves hm, fun hne => ?_⟩
  obtain ⟨ad, c, md, k1, k2, k3, k4, k5⟩ := h7 hne
  obtain ⟨l1, l2⟩ := hm _ k2 (AHeap.lt_of_alive h (by rw [k3]; simp))
  exact ⟨ad, c, md, k1, l1, by rw [l2]; exact k3, k4, k5⟩
theorem IsSl.weaken {r : Rep α} {S S' : Nat → Prop} {h : AHeap} {xs : List α} {v : Value} (hs : IsSl r S h xs v) (hm : ∀ j, S j → S' j) : IsSl r S' h xs v := hs.mono fun j hj _ => ⟨hm j hj, rfl⟩
theorem IsSl.bound {r : Rep α} {S : Nat → Prop} {h : AHeap} {xs : List α} {v : Value} (hs : IsSl r S h xs v) : IsSl r (fun j => S j ∧ j < h.next) h xs v := hs.mono fun j hj hl => ⟨⟨hj, hl⟩, rfl⟩
theorem IsSl.quiet {r : Rep α} {S : Nat → Prop} {h h' : AHeap} {xs : List α} {v : Value} (hs : IsSl r S h xs v) (hq : h.quiet h') : IsSl r S h' xs v := hs.mono fun j hj hl => ⟨hj, hq.2 j hl⟩
theorem IsSl.fr {r : Rep α} {S W : Nat → Prop} {h h' : AHeap} {xs : List α} {v : Value} (hs : IsSl r S h xs v) (hq : Fw W h h') (hd : ∀ j, S j → j < h.next → ¬ W j) : IsSl r S h' xs v := hs.mono fun j hj hl => ⟨hj, hq.2 j hl (hd j hj hl)⟩

def Rep.list (r : Rep α) : Rep (List α) where
  sz := 1
  R S h xs c := ∃ v, c = [v] ∧ IsSl r S h xs v
  pos := by decide
  len := by rintro S h x c ⟨v, rfl, _⟩; rfl
  one := by rintro S h x c ⟨v, rfl, a, cap, css, rfl, _⟩; rfl
  mono := by rintro S S' h h' x c ⟨v, rfl, hv⟩ hm; exact ⟨v, rfl, hv.mono hm⟩

theorem IsSl.shape {r : Rep α} {S : Nat → Prop} {h : AHeap} {xs : List α} {v : Value} (hs : IsSl r S h xs v) : ∃ a cap, v = .slice a xs.length cap := by
  obtain ⟨a, cap, css, h1, _⟩ := hs; exact ⟨a, cap, h1⟩
theorem IsSl.len {r : Rep α} {S : Nat → Prop} {h : AHeap} {xs : List α} {a : Option Addr} {n cap : Nat} (hs : IsSl r S h xs (.slice a n cap)) : n = xs.length ∧ n ≤ 9223372036854775807 ∧ n ≤ cap := by
  obtain ⟨a', cap', css, h1, h2, h3, _⟩ := hs; cases h1; exact ⟨rfl, h3, h2⟩

theorem IsSl.nil (r : Rep α) (S : Nat → Prop) (h : AHeap) : IsSl r S h [] (.slice none 0 0) :=
  ⟨none, 0, [], rfl, Nat.le_refl _, Nat.zero_le _, fun _ => rfl, fun _ h => by simp at h, All2.nil, fun h => absurd rfl h⟩

/-- What stands at a place. -/
theorem IsSl.at {r : Rep α} {S : Nat → Prop} {h : AHeap} {xs : List α} {a : Option Addr} {n cap : Nat} (hs : IsSl r S h xs (.slice a n cap)) (sz : Nat) (hsz : r.sz = sz) {i : Nat} (hi : i < n) :
    ∃ b off sp c md cs x, a = some ⟨b, off, sp⟩ ∧ S b ∧ h.get b = .cells c md ∧ xs[i]? = some x ∧ r.R S h x cs ∧ off + i * sz + sz ≤ c.length ∧ (c.drop (off + i * sz)).take sz = cs := by
  obtain ⟨a', cap', css, h1, h2, h3, h4, h5, h6, h7⟩ := hs
  cases h1
  subst hsz
  obtain ⟨ad, c, md, rfl, k2, k3, k4, k5⟩ := h7 (fun e => by simp [e] at hi)
  have hx : xs[i]? = some xs[i] := List.getElem?_eq_getElem hi
  obtain ⟨cs, hc, hr⟩ := h6.get hx
  have hle : i * r.sz + r.sz ≤ xs.length * r.sz := by rw [← Nat.succ_mul]; exact Nat.mul_le_mul_right _ hi
  refine ⟨ad.block, ad.off, ad.spot, c, md, cs, xs[i], rfl, k2, k3, hx, hr, by omega, ?_⟩
  rw [← flat_at h6.lens hc, ← k5, List.drop_take, List.take_take, List.drop_drop]
  congr 1
  omega

theorem IsSl.at1 {r : Rep α} {S : Nat → Prop} {h : AHeap} {xs : List α} {a : Option Addr} {n cap : Nat} (hs : IsSl r S h xs (.slice a n cap)) (hsz : r.sz = 1) {i : Nat} (hi : i < n) :
    ∃ b off sp c md v x, a = some ⟨b, off, sp⟩ ∧ S b ∧ h.get b = .cells c md ∧ xs[i]? = some x ∧ r.R S h x [v] ∧ c[off + i]? = some v := by
  obtain ⟨b, off, sp, c, md, cs, x, h1, h2, h3, h4, h5, h6, h7⟩ := hs.at 1 hsz hi
  simp only [Nat.mul_one] at h6 h7
  rw [List.drop_eq_getElem_cons (by omega), List.take_succ_cons, List.take_zero] at h7
  subst h7
  exact ⟨b, off, sp, c, md, _, x, h1, h2, h3, h4, h5, List.getElem?_eq_getElem (by omega)⟩

/-- A cell of a segment. -/
theorem seg_get {c cs : List Value} {o sz : Nat} (h : (c.drop o).take sz = cs) {k : Nat} (hk : k < sz) : c[o + k]? = cs[k]? := by
  rw [← h, List.getElem?_take, if_pos hk, List.getElem?_drop]

theorem IsSl.acells {r : Rep α} {S : Nat → Prop} {h : AHeap} {xs : List α} {a : Option Addr} {n cap : Nat} (hs : IsSl r S h xs (.slice a n cap)) (sz : Nat) (hsz : r.sz = sz) : ∃ css, AM.acells h sz n (.slice a n cap) = some css.flatten ∧ All2 (r.R S h) xs css := by
  obtain ⟨a', cap', css, h1, h2, h3, h4, h5, h6, h7⟩ := hs
  cases h1
  subst hsz
  refine ⟨css, ?_, h6⟩
  unfold AM.acells
  cases xs with
  | nil => cases a <;> simp [h6.nil_inv]
  | cons x xs =>
    obtain ⟨ad, c, md, rfl, k2, k3, k4, k5⟩ := h7 (by simp)
    have := Nat.mul_pos (show 0 < (x :: xs).length by simp) r.pos
    simp only [k3]
    rw [if_neg (by omega), if_pos k4, k5]

/-- A part of a slice. -/
theorem IsSl.slice {r : Rep α} {S : Nat → Prop} {h : AHeap} {xs : List α} {a : Option Addr} {n cap : Nat} (hs : IsSl r S h xs (.slice a n cap)) (sz : Nat) (hsz : r.sz = sz) {l m : Nat} (h1 : l ≤ m) (h2 : m ≤ n) :
    ∃ a' cap', slI sz a n cap (some (l : Int)) (some (m : Int)) = some (.slice a' (m - l) cap') ∧ IsSl r S h ((xs.drop l).take (m - l)) (.slice a' (m - l) cap') := by
  obtain ⟨a', cap', css, e, k2, k3, k4, k5, k6, k7⟩ := hs
  cases e
  subst hsz
  have hlen : ((xs.drop l).take (m - l)).length = m - l := by simp; omega
  have ha2 : All2 (r.R S h) ((xs.drop l).take (m - l)) ((css.drop l).take (m - l)) := (k6.drop l).take _
  cases a with
  | none =>
    have hc0 := k4 rfl
    have e1 : m = 0 := by omega
    have e2 : l = 0 := by omega
    subst e1 e2
    refine ⟨none, 0, by simp [slI, hc0], ?_⟩
    simpa using IsSl.nil r S h
  | some ad =>
    have hseg : ∀ (b o : Nat) (sp : Option Nat), b = ad.block → (m - l ≠ 0 → o = ad.off + l * r.sz) → (sp = none ∨ sp = some r.sz) → IsSl r S h ((xs.drop l).take (m - l)) (.slice (some ⟨b, o, sp⟩) (m - l) (cap - l)) := by
      rintro b o sp rfl ho hsp
      refine ⟨some ⟨ad.block, o, sp⟩, cap - l, _, by rw [hlen], by omega, by omega, fun h => by simp at h, fun ad' h => by cases h; exact hsp, ha2, fun hne => ?_⟩
      have hml : m - l ≠ 0 := fun e => hne (List.eq_nil_of_length_eq_zero (by omega))
      have hnx : xs ≠ [] := fun e => by simp [e] at h2; omega
      obtain ⟨ad', c, md, e1, l2, l3, l4, l5⟩ := k7 hnx
      cases e1
      have hle : l * r.sz + (m - l) * r.sz ≤ xs.length * r.sz := by rw [← Nat.add_mul]; exact Nat.mul_le_mul_right _ (by omega)
      refine ⟨_, c, md, rfl, l2, l3, by rw [hlen]; simp only [ho hml]; omega, ?_⟩
      rw [hlen]; simp only [ho hml]
      have := congrArg (fun z => (z.drop (l * r.sz)).take ((m - l) * r.sz)) l5
      simp only [List.drop_take, List.take_take, List.drop_drop] at this
      rw [show min ((m - l) * r.sz) (xs.length * r.sz - l * r.sz) = (m - l) * r.sz by omega] at this
      rw [this, flat_drop l k6.lens, flat_take _ (fun c hc => k6.lens c (List.mem_of_mem_drop hc))]
    cases hsp : ad.spot with
    | none =>
      refine ⟨some (if cap = l then ad else ⟨ad.block, ad.off + l * r.sz, none⟩), cap - l, ?_, ?_⟩
      · unfold slI; simp only [hsp]; rw [if_pos (by omega)]; simp
      · by_cases hcl : cap = l
        · rw [if_pos hcl]; exact hseg ad.block ad.off ad.spot rfl (fun h0 => by exfalso; omega) (.inl hsp)
        · rw [if_neg hcl]; exact hseg _ _ _ rfl (fun _ => rfl) (.inl rfl)
    | some s =>
      have hs : s = r.sz := by have := k5 _ rfl; simpa [hsp] using this
      subst hs
      refine ⟨some ⟨ad.block, ad.off + l * r.sz, some r.sz⟩, cap - l, ?_, hseg _ _ _ rfl (fun _ => rfl) (.inr rfl)⟩
      unfold slI; simp only [hsp]; rw [if_pos ⟨trivial, by omega, by omega, by omega⟩]; simp

/-! Lists that are made: in an object of their own. -/

def blk : Value → Option Nat
  | .slice (some a) _ _ => some a.block
  | _ => none
@[simp] theorem blk_nil {n c : Nat} : blk (.slice none n c) = none := rfl
@[simp] theorem blk_some {a : Addr} {n c : Nat} : blk (.slice (some a) n c) = some a.block := rfl

/-- A list that grows: at or behind lo; its elements in T, apart from it. -/
def Lst (r : Rep α) (lo : Nat) (T : Nat → Prop) (h : AHeap) (xs : List α) (v : Value) : Prop :=
  ∃ css, All2 (r.R (fun j => T j ∧ blk v ≠ some j) h) xs css ∧ xs.length ≤ 281474976710656 ∧
    ((∃ a, v = .slice a 0 0 ∧ xs = [] ∧ ∀ ad, a = some ad → ad.spot = none ∧ lo ≤ ad.block ∧ ad.block < h.next) ∨ ∃ ob, v = .slice (some ⟨ob, 0, some r.sz⟩) xs.length xs.length ∧ lo ≤ ob ∧ h.get ob = .cells css.flatten (.tail r.sz))

theorem Lst.nil (r : Rep α) (lo : Nat) (T : Nat → Prop) (h : AHeap) : Lst r lo T h [] (.slice none 0 0) := ⟨[], .nil, by simp, .inl ⟨none, rfl, rfl, fun _ h => by cases h⟩⟩
theorem Lst.empty (r : Rep α) {lo : Nat} (T : Nat → Prop) {h : AHeap} {b o : Nat} (h1 : lo ≤ b) (h2 : b < h.next) : Lst r lo T h [] (.slice (some ⟨b, o, none⟩) 0 0) := ⟨[], .nil, by simp, .inl ⟨_, rfl, rfl, fun _ h => by cases h; exact ⟨rfl, h1, h2⟩⟩⟩

theorem Lst.len {r : Rep α} {lo : Nat} {T : Nat → Prop} {h : AHeap} {xs : List α} {v : Value} (hl : Lst r lo T h xs v) : ∃ a cap, v = .slice a xs.length cap ∧ xs.length ≤ 281474976710656 := by
  obtain ⟨css, h1, h0, ⟨a, rfl, rfl, _⟩ | ⟨ob, rfl, _⟩⟩ := hl
  · exact ⟨_, _, rfl, h0⟩
  · exact ⟨_, _, rfl, h0⟩

theorem IsSl.empty {r : Rep α} {S : Nat → Prop} {h : AHeap} {a : Option Addr} (ha : ∀ ad, a = some ad → ad.spot = none ∨ ad.spot = some r.sz) : IsSl r S h [] (.slice a 0 0) :=
  ⟨a, 0, [], rfl, Nat.le_refl _, Nat.zero_le _, fun _ => rfl, ha, All2.nil, fun h => absurd rfl h⟩

theorem Lst.isSl {r : Rep α} {lo : Nat} {T S : Nat → Prop} {h : AHeap} {xs : List α} {v : Value} (hl : Lst r lo T h xs v) (h1 : ∀ j, T j → j < h.next → S j) (h2 : ∀ j, lo ≤ j → S j) : IsSl r S h xs v := by
  obtain ⟨css, ha, h0, ⟨a, rfl, rfl, k⟩ | ⟨ob, rfl, hlo, hg⟩⟩ := hl
  · exact .empty fun ad e => .inl (k ad e).1
  · refine ⟨_, _, css, rfl, Nat.le_refl _, Nat.le_trans h0 (by decide), (fun h => by cases h), (fun ad h => by cases h; exact .inr rfl), ?_, fun _ => ⟨_, _, _, rfl, h2 _ hlo, hg, ?_, ?_⟩⟩
    · exact ha.moves fun j hj hl => ⟨h1 j hj.1 hl, rfl⟩
    · rw [ha.flat]; simp
    · rw [List.drop_zero, List.take_of_length_le]; rw [ha.flat]; exact Nat.le_refl _

theorem Lst.mono {r : Rep α} {lo lo' : Nat} {T T' : Nat → Prop} {h h' : AHeap} {xs : List α} {v : Value} (hl : Lst r lo T h xs v) (hlo : lo' ≤ lo) (hn : h.next ≤ h'.next) (h1 : ∀ j, T j → j < h.next → blk v ≠ some j → T' j ∧ h'.get j = h.get j) (h2 : ∀ j, blk v = some j → j < h.next → h'.get j = h.get j) : Lst r lo' T' h' xs v := by
  obtain ⟨css, ha, h0, hv⟩ := hl
  refine ⟨css, ha.moves fun j hj hl => ⟨⟨(h1 j hj.1 hl hj.2).1, hj.2⟩, (h1 j hj.1 hl hj.2).2⟩, h0, ?_⟩
  rcases hv with ⟨a, k1, k2, k3⟩ | ⟨ob, rfl, k1, k2⟩
  · exact .inl ⟨a, k1, k2, fun ad e => ⟨(k3 ad e).1, Nat.le_trans hlo (k3 ad e).2.1, Nat.lt_of_lt_of_le (k3 ad e).2.2 hn⟩⟩
  · refine .inr ⟨ob, rfl, Nat.le_trans hlo k1, ?_⟩
    rw [h2 ob rfl (AHeap.lt_of_alive h (by rw [k2]; simp))]; exact k2
theorem Lst.quiet {r : Rep α} {lo : Nat} {T : Nat → Prop} {h h' : AHeap} {xs : List α} {v : Value} (hl : Lst r lo T h xs v) (hq : h.quiet h') : Lst r lo T h' xs v :=
  hl.mono (Nat.le_refl _) hq.1 (fun j hj hl _ => ⟨hj, hq.2 j hl⟩) (fun j _ hl => hq.2 j hl)
theorem Lst.weaken {r : Rep α} {lo : Nat} {T T' : Nat → Prop} {h : AHeap} {xs : List α} {v : Value} (hl : Lst r lo T h xs v) (ht : ∀ j, T j → T' j) : Lst r lo T' h xs v :=
  hl.mono (Nat.le_refl _) (Nat.le_refl _) (fun j hj _ _ => ⟨ht j hj, rfl⟩) (fun _ _ _ => rfl)
theorem Lst.blk_ge {r : Rep α} {lo : Nat} {T : Nat → Prop} {h : AHeap} {xs : List α} {v : Value} (hl : Lst r lo T h xs v) {j : Nat} (hj : blk v = some j) : lo ≤ j ∧ j < h.next := by
  obtain ⟨css, ha, h0, ⟨a, rfl, rfl, k⟩ | ⟨ob, rfl, hlo, hg⟩⟩ := hl
  · cases a with
    | none => cases hj
    | some ad => cases hj; exact (k ad rfl).2
  · cases hj; exact ⟨hlo, AHeap.lt_of_alive h (by rw [hg]; simp)⟩

/-- More behind a list. -/
theorem Lst.app {r : Rep α} {lo : Nat} {T : Nat → Prop} {h : AHeap} {xs ys : List α} {v : Value} {css' : List (List Value)} {bytes n : Nat} (hl : Lst r lo T h xs v) (sz : Nat) (hsz : r.sz = sz)
    (hy : All2 (r.R (fun j => T j ∧ blk v ≠ some j) h) ys css') (hn : ys.length = n) (hb : (xs.length + n) * bytes ≤ 140737488355328) (h62 : xs.length + n ≤ 281474976710656) (hlo : lo ≤ h.next) :
    ∃ v' h', aappend h sz bytes v n css'.flatten = some (v', h') ∧ Lst r lo T h' (xs ++ ys) v' ∧ Fw (fun j => blk v = some j) h h' ∧ (blk v' = blk v ∨ ∃ ob, blk v' = some ob ∧ h.next ≤ ob) := by
  subst hsz
  obtain ⟨css, ha, h0, hv⟩ := hl
  by_cases hn0 : n = 0
  · have hys : ys = [] := List.eq_nil_of_length_eq_zero (by omega)
    subst hys
    refine ⟨v, h, ?_, ⟨css, by simpa using ha, by simpa using h0, ?_⟩, .refl _ _, .inl rfl⟩
    · rcases hv with ⟨a, rfl, rfl, k⟩ | ⟨ob, rfl, k1, k2⟩
      · rcases a with _ | ⟨b, o, sp⟩
        · rw [aappend_nil, if_pos hn0]
        · have := (k _ rfl).1; simp only at this; subst this
          rw [aappend_x, if_pos (by omega), if_pos hn0]
      · rw [aappend_u, if_pos hn0]
    · simpa using hv
  · have hpush : ∀ (h₁ : AHeap) (hge : h.next ≤ h₁.next) (hold : ∀ j, T j → blk v ≠ some j → j < h.next → h₁.get j = h.get j), Lst r lo T (h₁.push (.cells (css.flatten ++ css'.flatten) (.tail r.sz))) (xs ++ ys) (.slice (some ⟨h₁.next, 0, some r.sz⟩) (xs.length + n) (xs.length + n)) := by
      intro h₁ hge hold
      refine ⟨css ++ css', ?_, by simp; omega, .inr ⟨h₁.next, by simp [hn], by omega, by simp⟩⟩
      refine (ha.append hy).moves fun j hj hl => ⟨⟨hj.1, by simp; omega⟩, ?_⟩
      rw [AHeap.get_push_lt _ _ (by omega)]; exact hold j hj.1 hj.2 hl
    rcases hv with ⟨a, rfl, rfl, k⟩ | ⟨ob, rfl, k1, k2⟩
    · have := ha.nil_inv; subst this
      refine ⟨.slice (some ⟨h.next, 0, some r.sz⟩) n n, h.push (.cells css'.flatten (.tail r.sz)), ?_, ?_, .push _, .inr ⟨_, rfl, Nat.le_refl _⟩⟩
      · rcases a with _ | ⟨b, o, sp⟩
        · rw [aappend_nil, if_neg hn0, if_pos (by simp at hb h62 ⊢; omega)]
        · have := (k _ rfl).1; simp only at this; subst this
          rw [aappend_x, if_neg (by omega), if_pos (by simp at hb h62 ⊢; omega), acells_zero]
          simp [appNew]
      have := hpush h (Nat.le_refl _) (fun _ _ _ _ => rfl)
      simpa using this
    · have hlt : ob < h.next := AHeap.lt_of_alive h (by rw [k2]; simp)
      refine ⟨.slice (some ⟨(h.set ob .dead).next, 0, some r.sz⟩) (xs.length + n) (xs.length + n), (h.set ob .dead).push (.cells (css.flatten ++ css'.flatten) (.tail r.sz)), ?_, hpush _ (by simp) (fun j _ hj _ => AHeap.get_set_ne _ _ (by intro e; subst e; simp at hj)), ?_, .inr ⟨_, rfl, by simp⟩⟩
      · rw [aappend_u, if_neg hn0, if_neg (by omega), if_pos (by omega), k2, appMove_cells, if_pos (by rw [ha.flat]; exact ⟨rfl, rfl, by omega⟩)]
        simp only [AHeap.next_set, List.drop_zero]
        rw [List.take_of_length_le (by rw [ha.flat]; exact Nat.le_refl _)]
      · refine ⟨by simp, fun j hj hne => ?_⟩
        rw [AHeap.get_push_lt _ _ (by simpa using hj), AHeap.get_set_ne _ _ (by intro e; subst e; simp at hne)]

theorem Lst.app1 {r : Rep α} {lo : Nat} {T : Nat → Prop} {h : AHeap} {xs : List α} {y : α} {v : Value} {cs : List Value} {bytes : Nat} (hl : Lst r lo T h xs v) (sz : Nat) (hsz : r.sz = sz)
    (hy : r.R (fun j => T j ∧ blk v ≠ some j) h y cs) (hb : (xs.length + 1) * bytes ≤ 140737488355328) (h62 : xs.length + 1 ≤ 281474976710656) (hlo : lo ≤ h.next) :
    ∃ v' h', aappend h sz bytes v 1 cs = some (v', h') ∧ Lst r lo T h' (xs ++ [y]) v' ∧ Fw (fun j => blk v = some j) h h' ∧ (blk v' = blk v ∨ ∃ ob, blk v' = some ob ∧ h.next ≤ ob) := by
  have := hl.app (ys := [y]) (css' := [cs]) sz hsz (.cons hy .nil) rfl hb h62 hlo
  simpa using this

end

/-! Writing in place. -/
theorem flat_set {sz : Nat} : ∀ {css : List (List Value)} {i k : Nat} {c : List Value} (v : Value), (∀ c ∈ css, c.length = sz) → css[i]? = some c → k < sz → css.flatten.set (i * sz + k) v = (css.set i (c.set k v)).flatten
  | [], i, k, c, v, _, hi, _ => by simp at hi
  | c0 :: css, 0, k, c, v, h, hi, hk => by
    simp only [List.getElem?_cons_zero, Option.some.injEq] at hi
    subst hi
    have := h c0 (by simp)
    simp only [List.flatten_cons, List.set_cons_zero, Nat.zero_mul, Nat.zero_add]
    rw [List.set_append_left _ _ (by omega)]
  | c0 :: css, i + 1, k, c, v, h, hi, hk => by
    have h0 := h c0 (by simp)
    simp only [List.flatten_cons, List.set_cons_succ]
    rw [List.set_append_right _ _ (by rw [h0, Nat.add_mul]; omega), h0, ← flat_set v (fun c hc => h c (by simp [hc])) (by simpa using hi) hk]
    congr 2
    rw [Nat.add_mul]; omega
theorem putCells_append (c d : List Value) : ∀ (vs : List Value) (c : List Value) (o : Nat), c.length ≤ o → putCells (c ++ d) o vs = c ++ putCells d (o - c.length) vs
  | vs, c, o, h => by
    induction vs generalizing d o with
    | nil => rfl
    | cons v vs ih =>
      simp only [putCells]
      rw [List.set_append_right _ _ h, ih _ _ (by omega)]
      congr 2; omega
theorem putCells_le : ∀ (vs c d : List Value) (o : Nat), o + vs.length ≤ c.length → putCells (c ++ d) o vs = putCells c o vs ++ d
  | [], c, d, o, _ => rfl
  | v :: vs, c, d, o, h => by
    simp only [List.length_cons] at h
    simp only [putCells]
    rw [List.set_append_left _ _ (by omega), putCells_le vs _ _ _ (by simp; omega)]
theorem putCells_all : ∀ (vs : List Value) (pre c : List Value), vs.length = c.length → putCells (pre ++ c) pre.length vs = pre ++ vs
  | [], pre, c, h => by have : c = [] := List.eq_nil_of_length_eq_zero h.symm; simp [putCells, this]
  | v :: vs, pre, [], h => by simp at h
  | v :: vs, pre, x :: c, h => by
    have := putCells_all vs (pre ++ [v]) c (by simpa using h)
    simp only [putCells]
    rw [List.set_append_right _ _ (Nat.le_refl _), Nat.sub_self, List.set_cons_zero]
    simpa using this
theorem flat_put {sz : Nat} : ∀ {css : List (List Value)} {i : Nat} {cs : List Value}, (∀ c ∈ css, c.length = sz) → i < css.length → cs.length = sz → putCells css.flatten (i * sz) cs = (css.set i cs).flatten
  | [], i, cs, _, hi, _ => by simp at hi
  | c0 :: css, 0, cs, h, hi, hk => by
    have h0 := h c0 (by simp)
    simp only [List.flatten_cons, List.set_cons_zero, Nat.zero_mul]
    rw [putCells_le _ _ _ _ (by omega)]
    have := putCells_all cs [] c0 (by omega)
    simpa using this
  | c0 :: css, i + 1, cs, h, hi, hk => by
    have h0 := h c0 (by simp)
    simp only [List.flatten_cons, List.set_cons_succ]
    rw [putCells_append c0 _ _ _ _ (by rw [h0, Nat.add_mul]; omega), ← flat_put (fun c hc => h c (by simp [hc])) (by simpa using hi) hk]
    congr 2
    rw [Nat.add_mul]; omega

/-- An element of a list of one's own: where it stands, and another one in its place. -/
theorem Lst.put {α : Type} {r : Rep α} {lo : Nat} {T : Nat → Prop} {h : AHeap} {xs : List α} {a : Option Addr} {n cap : Nat} (hl : Lst r lo T h xs (.slice a n cap)) (sz : Nat) (hsz : r.sz = sz) {i : Nat} (hi : i < n) :
    ∃ (ob : Nat) (css : List (List Value)) (cs : List Value) (x : α), a = some ⟨ob, 0, some sz⟩ ∧ lo ≤ ob ∧ h.get ob = .cells css.flatten (.tail sz) ∧ (∀ c ∈ css, c.length = sz) ∧ css[i]? = some cs ∧ xs[i]? = some x ∧ r.R (fun j => T j ∧ some ob ≠ some j) h x cs ∧ n = xs.length ∧ css.length = n ∧
      ∀ x' cs', r.R (fun j => T j ∧ some ob ≠ some j) h x' cs' → Lst r lo T (h.set ob (.cells (css.set i cs').flatten (.tail sz))) (xs.set i x') (.slice a n cap) := by
  subst hsz
  obtain ⟨css, ha, h0, hv⟩ := hl
  rcases hv with ⟨a', e, rfl, k3⟩ | ⟨ob, e, k1, k2⟩
  · cases e; omega
  · cases e
    have hx : xs[i]? = some xs[i] := List.getElem?_eq_getElem hi
    obtain ⟨cs, hc, hr⟩ := ha.get hx
    have hlt : ob < h.next := AHeap.lt_of_alive h (by rw [k2]; simp)
    refine ⟨ob, css, cs, xs[i], rfl, k1, k2, ha.lens, hc, hx, hr, rfl, ha.1.symm, fun x' cs' hr' => ?_⟩
    refine ⟨css.set i cs', (ha.set hr').moves fun j hj hjl => ⟨hj, AHeap.get_set_ne _ _ (fun e => hj.2 (by rw [e]; rfl))⟩, by simpa using h0, .inr ⟨ob, by simp, k1, AHeap.get_set_self _ _ hlt⟩⟩

/-! Plain kinds. -/
abbrev rB : Rep Nat := .nat .u8
abbrev rW : Rep Nat := .nat .u64
abbrev rI : Rep Int := .int .i64
abbrev Bytes (S : Nat → Prop) (h : AHeap) (bs : List Nat) (v : Value) : Prop := IsSl rB S h bs v
abbrev Words (S : Nat → Prop) (h : AHeap) (bs : List Nat) (v : Value) : Prop := IsSl rW S h bs v
abbrev Ints (S : Nat → Prop) (h : AHeap) (bs : List Int) (v : Value) : Prop := IsSl rI S h bs v

theorem i64_max : IntKind.i64.max = 9223372036854775807 := by decide
theorem i64_min : IntKind.i64.min = -9223372036854775808 := by decide
theorem u64_max : IntKind.u64.max = 18446744073709551615 := by decide
theorem u8_max : IntKind.u8.max = 255 := by decide

/-- The cells of plain numbers are the numbers. -/
theorem nat_cells {k : IntKind} {S : Nat → Prop} {h : AHeap} : ∀ {xs : List Nat} {css : List (List Value)}, All2 ((Rep.nat k).R S h) xs css → css.flatten = xs.map (fun n => .int k (n : Nat)) ∧ ∀ n ∈ xs, (n : Int) ≤ k.max
  | [], css, ha => by rw [ha.nil_inv]; exact ⟨rfl, by simp⟩
  | x :: xs, css, ha => by
    obtain ⟨y, ys, rfl, h1, h2⟩ := ha.cons_inv
    obtain ⟨k1, k2⟩ := nat_cells h2
    obtain ⟨rfl, h3⟩ := h1
    exact ⟨by simp [k1], fun n hn => by rcases List.mem_cons.1 hn with rfl | hn <;> first | exact h3 | exact k2 n hn⟩
theorem nat_all2 {k : IntKind} {S : Nat → Prop} {h : AHeap} {xs : List Nat} (hx : ∀ n ∈ xs, (n : Int) ≤ k.max) : All2 ((Rep.nat k).R S h) xs (xs.map fun n => [.int k (n : Nat)]) := .of_map _ fun x h => ⟨rfl, hx x h⟩
theorem nat_flat {k : IntKind} (xs : List Nat) : (xs.map fun n => ([.int k (n : Nat)] : List Value)).flatten = xs.map fun n => .int k (n : Nat) := by
  induction xs with
  | nil => rfl
  | cons x xs ih => simp [ih]
theorem int_cells {k : IntKind} {S : Nat → Prop} {h : AHeap} : ∀ {xs : List Int} {css : List (List Value)}, All2 ((Rep.int k).R S h) xs css → css.flatten = xs.map (fun n => .int k n) ∧ ∀ n ∈ xs, k.min ≤ n ∧ n ≤ k.max
  | [], css, ha => by rw [ha.nil_inv]; exact ⟨rfl, by simp⟩
  | x :: xs, css, ha => by
    obtain ⟨y, ys, rfl, h1, h2⟩ := ha.cons_inv
    obtain ⟨k1, k2⟩ := int_cells h2
    obtain ⟨rfl, h3⟩ := h1
    exact ⟨by simp [k1], fun n hn => by rcases List.mem_cons.1 hn with rfl | hn <;> first | exact h3 | exact k2 n hn⟩

theorem IsSl.atN {k : IntKind} {S : Nat → Prop} {h : AHeap} {xs : List Nat} {a : Option Addr} {n cap : Nat} (hs : IsSl (.nat k) S h xs (.slice a n cap)) {i : Nat} (hi : i < n) :
    ∃ b off sp c md x, a = some ⟨b, off, sp⟩ ∧ S b ∧ h.get b = .cells c md ∧ xs[i]? = some x ∧ (x : Int) ≤ k.max ∧ c[off + i]? = some (.int k (x : Nat)) := by
  obtain ⟨b, off, sp, c, md, u, x, h1, h2, h3, h4, h5, h6⟩ := hs.at1 rfl hi
  obtain ⟨h7, h8⟩ := h5
  cases h7
  exact ⟨b, off, sp, c, md, x, h1, h2, h3, h4, h8, h6⟩
theorem IsSl.atI {k : IntKind} {S : Nat → Prop} {h : AHeap} {xs : List Int} {a : Option Addr} {n cap : Nat} (hs : IsSl (.int k) S h xs (.slice a n cap)) {i : Nat} (hi : i < n) :
    ∃ b off sp c md x, a = some ⟨b, off, sp⟩ ∧ S b ∧ h.get b = .cells c md ∧ xs[i]? = some x ∧ (k.min ≤ x ∧ x ≤ k.max) ∧ c[off + i]? = some (.int k x) := by
  obtain ⟨b, off, sp, c, md, u, x, h1, h2, h3, h4, h5, h6⟩ := hs.at1 rfl hi
  obtain ⟨h7, h8⟩ := h5
  cases h7
  exact ⟨b, off, sp, c, md, x, h1, h2, h3, h4, h8, h6⟩
/-- Elements that are themselves slices. -/
theorem IsSl.atL {α : Type} {r : Rep α} {S : Nat → Prop} {h : AHeap} {xs : List (List α)} {a : Option Addr} {n cap : Nat} (hs : IsSl r.list S h xs (.slice a n cap)) {i : Nat} (hi : i < n) :
    ∃ b off sp c md x u, a = some ⟨b, off, sp⟩ ∧ S b ∧ h.get b = .cells c md ∧ xs[i]? = some x ∧ IsSl r S h x u ∧ c[off + i]? = some u := by
  obtain ⟨b, off, sp, c, md, u, x, h1, h2, h3, h4, h5, h6⟩ := hs.at1 rfl hi
  obtain ⟨u', h7, h8⟩ := h5
  cases h7
  exact ⟨b, off, sp, c, md, x, u, h1, h2, h3, h4, h8, h6⟩

theorem IsSl.vals {r : Rep Nat} {k : IntKind} (hr : r = .nat k) {S : Nat → Prop} {h : AHeap} {xs : List Nat} {v : Value} (hs : IsSl r S h xs v) : ∀ n ∈ xs, (n : Int) ≤ k.max := by
  subst hr
  obtain ⟨a, cap, css, h1, h2, h3, h4, h5, h6, h7⟩ := hs
  exact (nat_cells h6).2
theorem IsSl.ints {k : IntKind} {S : Nat → Prop} {h : AHeap} {xs : List Int} {v : Value} (hs : IsSl (.int k) S h xs v) : ∀ n ∈ xs, k.min ≤ n ∧ n ≤ k.max := by
  obtain ⟨a, cap, css, h1, h2, h3, h4, h5, h6, h7⟩ := hs
  exact (int_cells h6).2

/-- A number of a list of one's own. -/
theorem Lst.setN {k : IntKind} {lo : Nat} {T : Nat → Prop} {h : AHeap} {xs : List Nat} {a : Option Addr} {n cap : Nat} (hl : Lst (.nat k) lo T h xs (.slice a n cap)) {i : Nat} (hi : i < n) :
    ∃ (ob : Nat) (c : List Value) (x : Nat), a = some ⟨ob, 0, some 1⟩ ∧ lo ≤ ob ∧ ob < h.next ∧ h.get ob = .cells c (.tail 1) ∧ c[i]? = some (.int k (x : Nat)) ∧ c.length = n ∧ xs[i]? = some x ∧ (x : Int) ≤ k.max ∧
      ∀ y : Nat, (y : Int) ≤ k.max → Lst (.nat k) lo T (h.set ob (.cells (c.set i (.int k (y : Nat))) (.tail 1))) (xs.set i y) (.slice a n cap) := by
  obtain ⟨ob, css, cs, x, h1, h2, h3, h4, h5, h6, ⟨rfl, h7⟩, h8, h9, h10⟩ := hl.put 1 rfl hi
  have e := flat_at (sz := 1) h4 h5
  rw [Nat.mul_one] at e
  have hlen : css.flatten.length = n := by rw [flat_length h4]; omega
  refine ⟨ob, css.flatten, x, h1, h2, AHeap.lt_of_alive h (by rw [h3]; simp), h3, ?_, hlen, h6, h7, fun y hy => ?_⟩
  · have := seg_get e (k := 0) (by omega)
    simpa using this
  · have := h10 y [.int k (y : Nat)] ⟨rfl, hy⟩
    rw [← flat_put h4 (by omega) rfl] at this
    simpa [putCells] using this

@[go_sem] theorem map_nat_ones {k : IntKind} (xs : List Nat) : (xs.map fun n => Value.int k (n : Nat)).all one = true := by simp [one]
@[go_sem] theorem map_int_ones {k : IntKind} (xs : List Int) : (xs.map fun n => Value.int k n).all one = true := by simp [one]

theorem IsSl.acellsN {k : IntKind} {S : Nat → Prop} {h : AHeap} {xs : List Nat} {a : Option Addr} {n cap : Nat} (hs : IsSl (.nat k) S h xs (.slice a n cap)) : AM.acells h 1 n (.slice a n cap) = some (xs.map fun n => .int k (n : Nat)) := by
  obtain ⟨css, h1, h2⟩ := hs.acells 1 rfl
  rw [h1, (nat_cells h2).1]
theorem IsSl.acellsI {k : IntKind} {S : Nat → Prop} {h : AHeap} {xs : List Int} {a : Option Addr} {n cap : Nat} (hs : IsSl (.int k) S h xs (.slice a n cap)) : AM.acells h 1 n (.slice a n cap) = some (xs.map fun n => .int k n) := by
  obtain ⟨css, h1, h2⟩ := hs.acells 1 rfl
  rw [h1, (int_cells h2).1]

/-- A slice over an object that was just made. -/
theorem IsSl.fresh {α : Type} {r : Rep α} {S : Nat → Prop} {h : AHeap} {xs : List α} {css : List (List Value)} {c : List Value} {b n : Nat} {md : Md} (ha : All2 (r.R S h) xs css) (hn : xs.length = n) (hle : n ≤ 9223372036854775807) (hb : S b) (hg : h.get b = .cells c md) (hc : c = css.flatten) :
    IsSl r S h xs (.slice (some ⟨b, 0, none⟩) n n) := by
  subst hn hc
  refine ⟨_, _, css, rfl, Nat.le_refl _, hle, (fun h => by cases h), (fun ad h => by cases h; exact .inl rfl), ha, fun _ => ⟨_, _, _, rfl, hb, hg, ?_, ?_⟩⟩
  · rw [ha.flat]; simp
  · rw [List.drop_zero, List.take_of_length_le]; rw [ha.flat]; exact Nat.le_refl _
theorem IsSl.fresh1 {k : IntKind} {h : AHeap} {x : Nat} {md : Md} (hx : (x : Int) ≤ k.max) : IsSl (.nat k) (· = h.next) (h.push (.cells [.int k (x : Nat)] md)) [x] (.slice (some ⟨h.next, 0, none⟩) 1 1) :=
  .fresh (css := [[.int k (x : Nat)]]) (.cons ⟨rfl, hx⟩ .nil) rfl (by decide) rfl (AHeap.get_push_self _ _) rfl

/-- Numbers in an object of one's own. -/
def OwnSl (k : IntKind) (S : Nat → Prop) (h : AHeap) (xs : List Nat) (v : Value) : Prop :=
  ∃ a, v = .slice a xs.length xs.length ∧ xs.length ≤ 281474976710656 ∧ (∀ x ∈ xs, (x : Int) ≤ k.max) ∧
    ((xs = [] ∧ ∀ ad, a = some ad → ad.spot = none) ∨ ∃ ob, a = some ⟨ob, 0, some 1⟩ ∧ S ob ∧ h.get ob = .cells (xs.map fun n => .int k (n : Nat)) (.tail 1))
theorem OwnSl.shape {k : IntKind} {S : Nat → Prop} {h : AHeap} {xs : List Nat} {v : Value} (hs : OwnSl k S h xs v) : ∃ a, v = .slice a xs.length xs.length := by
  obtain ⟨a, e, _⟩ := hs; exact ⟨a, e⟩
theorem OwnSl.mono {k : IntKind} {S S' : Nat → Prop} {h h' : AHeap} {xs : List Nat} {v : Value} (hs : OwnSl k S h xs v) (hm : ∀ j, S j → j < h.next → S' j ∧ h'.get j = h.get j) : OwnSl k S' h' xs v := by
  obtain ⟨a, rfl, h1, h2, h3 | ⟨ob, rfl, h3, h4⟩⟩ := hs
  · exact ⟨a, rfl, h1, h2, .inl h3⟩
  · obtain ⟨k1, k2⟩ := hm ob h3 (AHeap.lt_of_alive h (by rw [h4]; simp))
    exact ⟨_, rfl, h1, h2, .inr ⟨ob, rfl, k1, by rw [k2]; exact h4⟩⟩
theorem OwnSl.isSl {k : IntKind} {S : Nat → Prop} {h : AHeap} {xs : List Nat} {v : Value} (hs : OwnSl k S h xs v) : IsSl (.nat k) S h xs v := by
  obtain ⟨a, rfl, h1, h2, ⟨rfl, h3⟩ | ⟨ob, rfl, h3, h4⟩⟩ := hs
  · exact .empty fun ad e => .inl (h3 ad e)
  · refine ⟨_, _, _, rfl, Nat.le_refl _, Nat.le_trans h1 (by decide), (fun h => by cases h), (fun ad h => by cases h; exact .inr rfl), nat_all2 h2, fun _ => ⟨_, _, _, rfl, h3, h4, ?_, ?_⟩⟩
    · simp [Rep.nat]
    · rw [nat_flat, List.drop_zero, List.take_of_length_le]; simp [Rep.nat]
theorem Lst.own {k : IntKind} {lo : Nat} {T S : Nat → Prop} {h : AHeap} {xs : List Nat} {v : Value} (hl : Lst (.nat k) lo T h xs v) (hS : ∀ j, lo ≤ j → S j) : OwnSl k S h xs v := by
  obtain ⟨css, ha, h0, ⟨a, rfl, rfl, k3⟩ | ⟨ob, rfl, hlo, hg⟩⟩ := hl
  · exact ⟨a, rfl, h0, by simp, .inl ⟨rfl, fun ad e => (k3 ad e).1⟩⟩
  · refine ⟨_, rfl, h0, (nat_cells ha).2, .inr ⟨ob, rfl, hS _ hlo, ?_⟩⟩
    rw [hg, (nat_cells ha).1]; rfl
def Rep.own (k : IntKind) : Rep (List Nat) where
  sz := 1
  R S h xs c := ∃ v, c = [v] ∧ OwnSl k S h xs v
  pos := by decide
  len := by rintro S h x c ⟨v, rfl, _⟩; rfl
  one := by rintro S h x c ⟨v, rfl, a, rfl, _⟩; rfl
  mono := by
    rintro S S' h h' x c ⟨v, rfl, a, rfl, h1, h2, h3 | ⟨ob, rfl, h3, h4⟩⟩ hm
    · exact ⟨_, rfl, a, rfl, h1, h2, .inl h3⟩
    · obtain ⟨k1, k2⟩ := hm ob h3 (AHeap.lt_of_alive h (by rw [h4]; simp))
      exact ⟨_, rfl, _, rfl, h1, h2, .inr ⟨ob, rfl, k1, by rw [k2]; exact h4⟩⟩

/-- What stands so stands so, too. -/
def Rep.imp {α : Type} (r r' : Rep α) : Prop := r.sz = r'.sz ∧ ∀ {S h x c}, r.R S h x c → r'.R S h x c
theorem IsSl.imp {α : Type} {r r' : Rep α} {S : Nat → Prop} {h : AHeap} {xs : List α} {v : Value} (hs : IsSl r S h xs v) (hr : r.imp r') : IsSl r' S h xs v := by
  obtain ⟨a, cap, css, h1, h2, h3, h4, h5, h6, h7⟩ := hs
  exact ⟨a, cap, css, h1, h2, h3, h4, by rw [← hr.1]; exact h5, h6.mono fun _ _ _ _ e => hr.2 e, by rw [← hr.1]; exact h7⟩

/-! Strings of bytes. -/
def ba (bs : List Nat) : ByteArray := ⟨(bs.map UInt8.ofNat).toArray⟩
theorem bytesOfCells_go : ∀ (bs : List Nat) (acc : ByteArray), bytesOfCells (bs.map fun n => Value.int .u8 (n : Nat)) acc = some ⟨acc.data ++ (bs.map UInt8.ofNat).toArray⟩
  | [], acc => by simp [bytesOfCells]
  | b :: bs, acc => by
    simp only [List.map_cons, bytesOfCells]
    rw [bytesOfCells_go bs]
    simp [ByteArray.push]
@[go_sem] theorem bytesOfCells_eq (bs : List Nat) : bytesOfCells (bs.map fun n => Value.int .u8 (n : Nat)) .empty = some (ba bs) := by
  rw [bytesOfCells_go]; simp [ba, ByteArray.empty, ByteArray.emptyWithCapacity]; rfl
theorem ba_inj {as bs : List Nat} (ha : ∀ n ∈ as, n < 256) (hb : ∀ n ∈ bs, n < 256) : ((ba as).data.toList == (ba bs).data.toList) = decide (as = bs) := by
  have e : ∀ l : List Nat, (ba l).data.toList = l.map UInt8.ofNat := fun l => by simp [ba]
  rw [e, e]
  by_cases h : as = bs
  · subst h; simp
  · rw [decide_eq_false h]
    simp only [beq_eq_false_iff_ne, ne_eq]
    intro h2
    apply h
    have h3 := congrArg (List.map UInt8.toNat) h2
    have : ∀ l : List Nat, (∀ n ∈ l, n < 256) → (l.map UInt8.ofNat).map UInt8.toNat = l := by
      intro l hl
      rw [List.map_map]
      conv => rhs; rw [← List.map_id l]
      apply List.map_congr_left
      intro n hn
      have := hl n hn
      simp [UInt8.toNat_ofNat']; omega
    rw [this as ha, this bs hb] at h3
    exact h3
theorem IsSl.lt256 {S : Nat → Prop} {h : AHeap} {xs : List Nat} {v : Value} (hs : IsSl rB S h xs v) : ∀ n ∈ xs, n < 256 := fun n hn => by have := hs.vals rfl n hn; rw [u8_max] at this; omega
theorem IsSl.lt64 {S : Nat → Prop} {h : AHeap} {xs : List Nat} {v : Value} (hs : IsSl rW S h xs v) : ∀ n ∈ xs, n < 18446744073709551616 := fun n hn => by have := hs.vals rfl n hn; rw [u64_max] at this; omega

end Go.AM
