/- barrier: the world of the laws, in plain words, and what stands in it, whatever happens. -/
import Derived.Test.YtbcgipcgcjkfcaaBaI
set_option linter.unusedSimpArgs false
set_option linter.unusedVariables false
set_option linter.unnecessarySimpa false
set_option maxRecDepth 100000
namespace Go.Proofs.Ytbcgipcgcjkfcaa
open Go.AM

/-- A coordinator, its agents, and what is on its way. -/
structure Wd where
  co : Co
  ags : List Ag
  ords : List (Int × Int × Int)
  anss : List (Int × Int × Int)
  ids : List Int
structure Dd where
  kind : Nat
  id : Int
  i : Int
def Wd.order (w : Wd) (o : Int × Int × Int) : Wd :=
  if o.1 < 0 then w else
  match w.ags[o.1.toNat]? with
  | none => w
  | some a => { w with ags := w.ags.set o.1.toNat (a.order o.2.1 o.2.2).2, anss := if w.anss.length < 300 then w.anss ++ [(o.1, (a.order o.2.1 o.2.2).1, o.2.2)] else w.anss }
def Wd.do (w : Wd) (d : Dd) : Wd :=
  if d.kind % 8 = 0 then { w with co := (w.co.begin d.id).2, ids := if (w.co.begin d.id).1 = 0 then w.ids ++ [d.id] else w.ids }
  else if d.kind % 8 = 1 then (if w.ords.length < 300 then { w with ords := w.ords ++ w.co.step } else w)
  else if d.kind % 8 ≤ 4 then
    if d.i < 0 then w else
    match w.ords[d.i.toNat]? with
    | none => w
    | some o =>
      let w1 := if d.kind % 8 ≠ 3 then { w with ords := w.ords.eraseIdx d.i.toNat } else w
      if d.kind % 8 < 4 then w1.order o else w1
  else if d.kind % 8 = 5 then
    if d.i < 0 then w else
    match w.anss[d.i.toNat]? with
    | none => w
    | some a => { w with anss := w.anss.eraseIdx d.i.toNat, co := (w.co.hear a.1 a.2.1 a.2.2).2 }
  else if d.kind % 8 = 6 then
    if d.i < 0 then w else
    match w.ags[d.i.toNat]? with
    | none => w
    | some a => { w with ags := w.ags.set d.i.toNat a.crash }
  else if d.id % 2 = 1 then { w with co := w.co.abort.2 } else { w with co := w.co.crash }

/-- What a snapshot has come to stays. -/
def Mono (c c' : Co) : Prop := ∀ x, (c.state x = 2 → c'.state x = 2) ∧ (c.state x = 3 → c'.state x = 3) ∧ (1 ≤ c.state x → 1 ≤ c'.state x)
theorem Mono.refl (c : Co) : Mono c c := fun _ => ⟨id, id, id⟩
theorem Mono.trans {a b c : Co} (h : Mono a b) (k : Mono b c) : Mono a c := fun x => ⟨fun e => (k x).1 ((h x).1 e), fun e => (k x).2.1 ((h x).2.1 e), fun e => (k x).2.2 ((h x).2.2 e)⟩

structure CoGood (c : Co) (ags : List Ag) : Prop where
  nn : ags.length = c.n
  pos : 1 ≤ c.n
  ph : 0 ≤ c.ph ∧ c.ph ≤ 4
  p0 : c.ph = 0 → c.id = 0
  idp : c.ph ≠ 0 → 1 ≤ c.id ∧ look c.past c.id = 0
  pst : ∀ x, look c.past x = 0 ∨ look c.past x = 2 ∨ look c.past x = 3
  op : ∀ a ∈ c.op, 0 ≤ a ∧ a < c.n
  nd : c.op.Nodup
  s2 : c.ph = 2 → ∀ (i : Nat) (a : Ag), ags[i]? = some a → (i : Int) ∉ c.op → c.id = a.pre ∨ c.id ∈ a.com
  s3 : c.ph = 3 → ∀ (i : Nat) (a : Ag), ags[i]? = some a → c.id = a.pre ∨ c.id ∈ a.com
  s3' : c.ph = 3 → ∀ (i : Nat) (a : Ag), ags[i]? = some a → (i : Int) ∉ c.op → c.id ∈ a.com
  sp : ∀ x, look c.past x = 2 → ∀ (i : Nat) (a : Ag), ags[i]? = some a → x ∈ a.com
def Ne (c : Co) : Prop := c.ph ≠ 0 → c.op ≠ []
structure Good (w : Wd) : Prop where
  c : CoGood w.co w.ags
  ne : Ne w.co
  jo : ∀ (i : Nat) (a : Ag), w.ags[i]? = some a → a.fro = 0 ∨ a.pre = 0 ∨ a.fro = a.pre
  cm : ∀ (i : Nat) (a : Ag), w.ags[i]? = some a → ∀ x ∈ a.com, w.co.state x = 2
  oo : ∀ o ∈ w.ords, (o.2.1 = 3 → w.co.state o.2.2 = 2) ∧ (o.2.1 = 4 → w.co.state o.2.2 = 3)
  aa : ∀ o ∈ w.anss, ∀ a, w.ags[o.1.toNat]? = some a → (o.2.1 = 12 → 1 ≤ o.2.2 ∧ (w.co.state o.2.2 = 3 ∨ o.2.2 = a.pre ∨ o.2.2 ∈ a.com)) ∧ (o.2.1 = 13 → w.co.state o.2.2 = 3 ∨ o.2.2 ∈ a.com)
  il : ∀ x ∈ w.ids, 1 ≤ w.co.state x

theorem Co.mem_all {c : Co} {a : Int} : a ∈ c.all ↔ 0 ≤ a ∧ a < c.n := by
  unfold Co.all
  rw [List.mem_map]
  constructor
  · rintro ⟨i, hi, rfl⟩; have := List.mem_range.1 hi; omega
  · rintro ⟨h0, h1⟩; exact ⟨a.toNat, List.mem_range.2 (by omega), by omega⟩
theorem Co.all_nodup (c : Co) : c.all.Nodup := by
  unfold Co.all
  exact List.pairwise_map.2 (List.nodup_range.imp fun h e => h (Int.ofNat.inj e))
theorem Co.all_ne {c : Co} (h : 1 ≤ c.n) : c.all ≠ [] := fun e => by
  have : (0 : Int) ∈ c.all := Co.mem_all.2 ⟨by omega, by omega⟩
  rw [e] at this; cases this

section
variable {c : Co} {ags : List Ag}
theorem CoGood.lt (g : CoGood c ags) {i : Nat} {a : Ag} (h : ags[i]? = some a) : (i : Int) ∈ c.all := Co.mem_all.2 ⟨by omega, by have := (List.getElem?_eq_some_iff.1 h).1; have := g.nn; omega⟩
theorem CoGood.run (g : CoGood c ags) (h : c.ph ≠ 0) : c.state c.id = max 1 (c.ph - 1) := by
  unfold Co.state
  rw [if_neg (fun e => e (g.idp h).2), if_neg (fun e => e.elim h (fun e => e rfl))]
  congr 1; omega
theorem CoGood.enter (g : CoGood c ags) (h : c.ph ≠ 0) {p : Int} (h1 : 1 ≤ p) (h4 : p ≤ 4) (h3 : p = 3 → ∀ (i : Nat) (a : Ag), ags[i]? = some a → c.id = a.pre ∨ c.id ∈ a.com) (hm : c.ph ≤ 2 ∨ p = c.ph) :
    CoGood (c.enter p) ags ∧ Ne (c.enter p) ∧ Mono c (c.enter p) := by
  refine ⟨⟨g.nn, g.pos, ⟨by show 0 ≤ p; omega, h4⟩, fun e => absurd (show p = 0 from e) (by omega), fun _ => g.idp h, g.pst, fun a ha => Co.mem_all.1 ha, c.all_nodup, fun _ i a hi hn => absurd (g.lt hi) hn, h3, fun _ i a hi hn => absurd (g.lt hi) hn, g.sp⟩, fun _ => Co.all_ne g.pos, fun x => ?_⟩
  have := g.run h
  have hs : ∀ y, (c.enter p).state y = if look c.past y ≠ 0 then look c.past y else if y ≠ c.id then 0 else max 1 (p - 3 + 2) := fun y => by
    unfold Co.state
    show (if look c.past y ≠ 0 then look c.past y else if p = 0 ∨ y ≠ c.id then 0 else max 1 (p - 3 + 2)) = _
    simp only [show ¬ p = 0 by omega, false_or]
  rw [hs]
  unfold Co.state
  repeat' split
  all_goals (try simp only [h, false_or] at *)
  all_goals (try omega)
theorem CoGood.abort (g : CoGood c ags) (n : Ne c) : CoGood c.abort.2 ags ∧ Ne c.abort.2 ∧ Mono c c.abort.2 := by
  unfold Co.abort
  split
  · exact ⟨g, n, .refl _⟩
  · exact g.enter (by omega) (by omega) (by omega) (by omega) (by omega)
theorem CoGood.crash (g : CoGood c ags) (n : Ne c) : CoGood c.crash ags ∧ Ne c.crash ∧ Mono c c.crash := by
  unfold Co.crash
  split
  · exact ⟨g, n, .refl _⟩
  · split
    · exact g.abort n
    · rename_i h _; have := g.ph; exact g.enter h (by omega) this.2 g.s3 (.inr rfl)
theorem CoGood.begin (g : CoGood c ags) (n : Ne c) (x : Int) : CoGood (c.begin x).2 ags ∧ Ne (c.begin x).2 ∧ Mono c (c.begin x).2 ∧ ((c.begin x).1 = 0 → 1 ≤ (c.begin x).2.state x) := by
  unfold Co.begin
  repeat' split
  · exact ⟨g, n, .refl _, fun e => absurd (show (1 : Int) = 0 from e) (by decide)⟩
  · exact ⟨g, n, .refl _, fun e => absurd (show (11 : Int) = 0 from e) (by decide)⟩
  · exact ⟨g, n, .refl _, fun e => absurd (show (10 : Int) = 0 from e) (by decide)⟩
  · exact ⟨g, n, .refl _, fun e => absurd (show (6 : Int) = 0 from e) (by decide)⟩
  · rename_i h1 h2 h3 h4
    have h2 : c.ph = 0 := Classical.not_not.1 h2
    have h3 : look c.past x = 0 := Classical.not_not.1 h3
    have hs : ∀ y, (({ c with id := x } : Co).enter 1).state y = if look c.past y ≠ 0 then look c.past y else if y ≠ x then 0 else 1 := fun y => by
      unfold Co.state
      show (if look c.past y ≠ 0 then look c.past y else if (1 : Int) = 0 ∨ y ≠ x then 0 else max 1 (1 - 3 + 2)) = _
      simp only [show ¬ (1 : Int) = 0 by decide, false_or]; rfl
    refine ⟨⟨g.nn, g.pos, ⟨(by decide : (0 : Int) ≤ 1), (by decide : (1 : Int) ≤ 4)⟩, fun e => absurd (show (1 : Int) = 0 from e) (by decide), fun _ => ⟨by show 1 ≤ x; omega, h3⟩, g.pst, fun a ha => Co.mem_all.1 ha, Co.all_nodup _, fun e => absurd (show (1 : Int) = 2 from e) (by decide), fun e => absurd (show (1 : Int) = 3 from e) (by decide), fun e => absurd (show (1 : Int) = 3 from e) (by decide), g.sp⟩, fun _ => Co.all_ne (c := { c with id := x }) g.pos, fun y => ?_, fun _ => ?_⟩
    · rw [hs]
      unfold Co.state
      simp only [h2, true_or, if_true]
      split <;> omega
    · show 1 ≤ (({ c with id := x } : Co).enter 1).state x
      rw [hs]; simp [h3]
theorem CoGood.next (g : CoGood c ags) (h : c.ph ≠ 0) (he : c.op = []) : CoGood c.next ags ∧ Ne c.next ∧ Mono c c.next := by
  have hph := g.ph
  have hr := g.run h
  unfold Co.next
  split
  · rename_i h1
    exact g.enter h (by omega) (by omega) (fun e i a hi => g.s2 (by omega) i a hi (by rw [he]; simp)) (by omega)
  · rename_i h1
    have h3 : c.ph = 3 ∨ c.ph = 4 := by omega
    rw [if_pos h3]
    obtain ⟨i1, i2⟩ := g.idp h
    have hs : ∀ y, (⟨c.n, 0, 0, [], putM c.past c.id (c.ph - 3 + 2)⟩ : Co).state y = if y = c.id then c.ph - 1 else look c.past y := fun y => by
      unfold Co.state
      simp only [look_put, true_or, if_true]
      repeat' split
      all_goals omega
    refine ⟨⟨g.nn, g.pos, ⟨Int.le_refl _, (by decide : (0 : Int) ≤ 4)⟩, fun _ => rfl, fun e => absurd rfl e, fun x => ?_, fun a ha => (by cases ha), List.nodup_nil, fun e => absurd (show (0 : Int) = 2 from e) (by decide), fun e => absurd (show (0 : Int) = 3 from e) (by decide), fun e => absurd (show (0 : Int) = 3 from e) (by decide), fun x hx i a hi => ?_⟩, fun e => absurd rfl e, fun x => ?_⟩
    · have := g.pst x
      show look (putM _ _ _) x = 0 ∨ look (putM _ _ _) x = 2 ∨ look (putM _ _ _) x = 3
      rw [look_put]; split <;> omega
    · replace hx : look (putM c.past c.id (c.ph - 3 + 2)) x = 2 := hx
      rw [look_put] at hx
      split at hx
      · rename_i e; subst e; exact g.s3' (by omega) i a hi (by rw [he]; simp)
      · exact g.sp x hx i a hi
    · rw [hs]
      by_cases e : x = c.id
      · subst e; rw [if_pos rfl, hr]; omega
      · rw [if_neg e]
        have : c.state x = look c.past x := by
          unfold Co.state
          by_cases e2 : look c.past x = 0
          · rw [if_neg (fun k => k e2), if_pos (.inr e), e2]
          · rw [if_pos e2]
        rw [this]; exact ⟨id, id, id⟩
theorem CoGood.hear (g : CoGood c ags) (n : Ne c) {a k x : Int} (hf : ∀ ag, ags[a.toNat]? = some ag → (k = 12 → c.state x = 3 ∨ x = ag.pre ∨ x ∈ ag.com) ∧ (k = 13 → c.state x = 3 ∨ x ∈ ag.com)) :
    CoGood (c.hear a k x).2 ags ∧ Ne (c.hear a k x).2 ∧ Mono c (c.hear a k x).2 := by
  unfold Co.hear
  split
  · exact ⟨g, n, .refl _⟩
  split
  · exact ⟨g, n, .refl _⟩
  split
  · exact g.abort n
  split
  · rename_i h1 h2 h3 h4
    have hx : x = c.id := Classical.not_not.1 fun e => h2 (.inr e)
    have hp : c.ph ≠ 0 := fun e => h2 (.inl e)
    subst hx
    have hr := g.run hp
    have g1 : CoGood { c with op := c.op.filter (· ≠ a) } ags := by
      refine ⟨g.nn, g.pos, g.ph, g.p0, g.idp, g.pst, fun b hb => g.op b (List.mem_filter.1 hb).1, g.nd.filter _, fun e i ag hi hn => ?_, g.s3, fun e i ag hi hn => ?_, g.sp⟩
      · replace e : c.ph = 2 := e
        by_cases hi' : (i : Int) = a
        · subst hi'
          have := (hf ag (by simpa using hi)).1 (by omega)
          rw [hr] at this
          exact this.resolve_left (by omega)
        · exact g.s2 e i ag hi fun hm => hn (List.mem_filter.2 ⟨hm, by simpa using hi'⟩)
      · replace e : c.ph = 3 := e
        by_cases hi' : (i : Int) = a
        · subst hi'
          have := (hf ag (by simpa using hi)).2 (by omega)
          rw [hr] at this
          exact this.resolve_left (by omega)
        · exact g.s3' e i ag hi fun hm => hn (List.mem_filter.2 ⟨hm, by simpa using hi'⟩)
    have m1 : Mono c { c with op := c.op.filter (· ≠ a) } := fun y => ⟨id, id, id⟩
    dsimp only
    split
    · rename_i h5
      obtain ⟨k1, k2, k3⟩ := g1.next hp (List.eq_nil_of_length_eq_zero h5)
      exact ⟨k1, k2, m1.trans k3⟩
    · rename_i h5
      exact ⟨g1, fun _ e => h5 (by show (c.op.filter _).length = 0; rw [show c.op.filter (· ≠ a) = [] from e]; rfl), m1⟩
  · exact ⟨g, n, .refl _⟩
end

theorem Good.setCo {w : Wd} (g : Good w) {c' : Co} (h : CoGood c' w.ags ∧ Ne c' ∧ Mono w.co c') : Good { w with co := c' } :=
  ⟨h.1, h.2.1, g.jo, fun i a hi x hx => (h.2.2 x).1 (g.cm i a hi x hx), fun o ho => ⟨fun e => (h.2.2 _).1 ((g.oo o ho).1 e), fun e => (h.2.2 _).2.1 ((g.oo o ho).2 e)⟩,
   fun o ho a ha => ⟨fun e => ((g.aa o ho a ha).1 e).imp id (Or.imp (h.2.2 _).2.1 id), fun e => ((g.aa o ho a ha).2 e).imp (h.2.2 _).2.1 id⟩, fun x hx => (h.2.2 x).2.2 (g.il x hx)⟩

theorem Ag.order_facts (a : Ag) (k x : Int) (jo : a.fro = 0 ∨ a.pre = 0 ∨ a.fro = a.pre) :
    ((a.order k x).2.fro = 0 ∨ (a.order k x).2.pre = 0 ∨ (a.order k x).2.fro = (a.order k x).2.pre) ∧
    (∀ y, 1 ≤ y → (y = a.pre ∨ y ∈ a.com) → ¬ (k = 4 ∧ y = x) → (y = (a.order k x).2.pre ∨ y ∈ (a.order k x).2.com)) ∧
    (∀ y ∈ a.com, y ∈ (a.order k x).2.com) ∧ (∀ y ∈ (a.order k x).2.com, y ∈ a.com ∨ (k = 3 ∧ y = x)) ∧
    ((a.order k x).1 = 12 → 1 ≤ x ∧ x = (a.order k x).2.pre) ∧ ((a.order k x).1 = 13 → (k = 3 ∧ x ∈ (a.order k x).2.com) ∨ k = 4) := by
  unfold Ag.order
  by_cases h1 : x < 1
  · simp only [if_pos h1]
    exact ⟨jo, fun _ _ h _ => h, fun _ h => h, fun _ h => .inl h, fun e => absurd e (by decide), fun e => absurd e (by decide)⟩
  simp only [if_neg h1]
  by_cases k1 : k = 1
  · subst k1
    simp only [if_pos]
    by_cases hb : x ∈ a.com ∨ a.busy x
    · simp only [if_pos hb]
      exact ⟨jo, fun _ _ h _ => h, fun _ h => h, fun _ h => .inl h, fun e => absurd e (by decide), fun e => absurd e (by decide)⟩
    · simp only [if_neg hb]
      refine ⟨?_, fun _ _ h _ => h, fun _ h => h, fun _ h => .inl h, fun e => absurd e (by decide), fun e => absurd e (by decide)⟩
      have : ¬ a.busy x := fun e => hb (.inr e)
      unfold Ag.busy at this
      show x = 0 ∨ a.pre = 0 ∨ x = a.pre
      omega
  simp only [if_neg k1]
  by_cases k2 : k = 2
  · subst k2
    simp only [if_pos]
    by_cases hb : ¬ a.fro = x ∧ ¬ a.pre = x
    · simp only [if_pos hb]
      exact ⟨jo, fun _ _ h _ => h, fun _ h => h, fun _ h => .inl h, fun e => absurd e (by decide), fun e => absurd e (by decide)⟩
    · simp only [if_neg hb]
      refine ⟨?_, fun y hy h _ => h.imp (fun e => ?_) id, fun _ h => h, fun _ h => .inl h, fun _ => ⟨by omega, trivial⟩, fun e => absurd e (by decide)⟩
      · show a.fro = 0 ∨ x = 0 ∨ a.fro = x; omega
      · show y = x; omega
  simp only [if_neg k2]
  by_cases k3 : k = 3
  · subst k3
    simp only [if_pos]
    by_cases hp : a.pre = x
    · simp only [if_pos hp]
      refine ⟨.inl trivial, fun y _ h _ => .inr ?_, fun y h => List.mem_append_left _ h, fun y h => ?_, fun e => absurd e (by decide), fun _ => .inl ⟨trivial, by simp⟩⟩
      · rcases h with h | h
        · rw [h, hp]; simp
        · exact List.mem_append_left _ h
      · rcases List.mem_append.1 h with h | h
        · exact .inl h
        · exact .inr ⟨trivial, by simpa using h⟩
    · simp only [if_neg hp]
      by_cases hc : x ∈ a.com
      · simp only [if_pos hc]
        exact ⟨jo, fun _ _ h _ => h, fun _ h => h, fun _ h => .inl h, fun e => absurd e (by decide), fun _ => .inl ⟨trivial, hc⟩⟩
      · simp only [if_neg hc]
        exact ⟨jo, fun _ _ h _ => h, fun _ h => h, fun _ h => .inl h, fun e => absurd e (by decide), fun e => absurd e (by decide)⟩
  simp only [if_neg k3]
  by_cases k4 : k = 4
  · subst k4
    simp only [if_pos]
    by_cases hc : x ∈ a.com
    · simp only [if_pos hc]
      exact ⟨jo, fun _ _ h _ => h, fun _ h => h, fun _ h => .inl h, fun e => absurd e (by decide), fun e => absurd e (by decide)⟩
    · simp only [if_neg hc]
      refine ⟨?_, fun y hy h hn => h.imp (fun e => ?_) id, fun _ h => h, fun _ h => .inl h, fun e => absurd e (by decide), fun _ => .inr trivial⟩
      · show (if a.fro = x then 0 else a.fro) = 0 ∨ (if a.pre = x then 0 else a.pre) = 0 ∨ (if a.fro = x then 0 else a.fro) = (if a.pre = x then 0 else a.pre)
        split <;> split <;> omega
      · show y = if a.pre = x then 0 else a.pre
        rw [if_neg (fun e2 => hn ⟨trivial, by omega⟩)]; exact e
  simp only [if_neg k4]
  exact ⟨jo, fun _ _ h _ => h, fun _ h => h, fun _ h => .inl h, fun e => absurd e (by decide), fun e => absurd e (by decide)⟩

theorem Good.setAg {w : Wd} (g : Good w) {i : Nat} {a : Ag} (hi : w.ags[i]? = some a) (a' : Ag) (j_ : a'.fro = 0 ∨ a'.pre = 0 ∨ a'.fro = a'.pre)
    (f1 : ∀ y, 1 ≤ y → (y = a.pre ∨ y ∈ a.com) → w.co.state y ≠ 3 → (y = a'.pre ∨ y ∈ a'.com)) (f2 : ∀ y ∈ a.com, y ∈ a'.com) (f3 : ∀ y ∈ a'.com, w.co.state y = 2) : Good { w with ags := w.ags.set i a' } := by
  have at' : ∀ {j b}, (w.ags.set i a')[j]? = some b → (j = i ∧ b = a') ∨ w.ags[j]? = some b := fun {j b} h => by
    rw [List.getElem?_set] at h
    split at h
    · rename_i e; split at h
      · cases h; exact .inl ⟨e.symm, rfl⟩
      · cases h
    · exact .inr h
  have run : w.co.ph ≠ 0 → 1 ≤ w.co.id ∧ w.co.state w.co.id = max 1 (w.co.ph - 1) := fun h => ⟨(g.c.idp h).1, g.c.run h⟩
  refine ⟨⟨by rw [List.length_set]; exact g.c.nn, g.c.pos, g.c.ph, g.c.p0, g.c.idp, g.c.pst, g.c.op, g.c.nd, fun e j b h hn => ?_, fun e j b h => ?_, fun e j b h hn => ?_, fun x hx j b h => ?_⟩, g.ne, fun j b h => ?_, fun j b h x hx => ?_, g.oo, fun o ho b h => ?_, g.il⟩
  · replace e : w.co.ph = 2 := e
    have := run (by omega)
    rcases at' h with ⟨rfl, rfl⟩ | h
    · exact f1 _ this.1 (g.c.s2 e _ _ hi hn) (by rw [this.2, e]; decide)
    · exact g.c.s2 e j b h hn
  · replace e : w.co.ph = 3 := e
    have := run (by omega)
    rcases at' h with ⟨rfl, rfl⟩ | h
    · exact f1 _ this.1 (g.c.s3 e _ _ hi) (by rw [this.2, e]; decide)
    · exact g.c.s3 e j b h
  · rcases at' h with ⟨rfl, rfl⟩ | h
    · exact f2 _ (g.c.s3' e _ _ hi hn)
    · exact g.c.s3' e j b h hn
  · rcases at' h with ⟨rfl, rfl⟩ | h
    · exact f2 _ (g.c.sp x hx _ _ hi)
    · exact g.c.sp x hx j b h
  · rcases at' h with ⟨rfl, rfl⟩ | h
    · exact j_
    · exact g.jo j b h
  · rcases at' h with ⟨rfl, rfl⟩ | h
    · exact f3 x hx
    · exact g.cm j b h x hx
  · rcases at' h with ⟨e, rfl⟩ | h
    · have := g.aa o ho a (by rw [e]; exact hi)
      refine ⟨fun e => ⟨(this.1 e).1, ?_⟩, fun e => (this.2 e).imp id (f2 _)⟩
      by_cases h3 : w.co.state o.2.2 = 3
      · exact .inl h3
      · exact .inr (f1 _ (this.1 e).1 ((this.1 e).2.resolve_left h3) h3)
    · exact g.aa o ho b h
theorem Good.order {w : Wd} (g : Good w) {o : Int × Int × Int} (ho : (o.2.1 = 3 → w.co.state o.2.2 = 2) ∧ (o.2.1 = 4 → w.co.state o.2.2 = 3)) : Good (w.order o) := by
  unfold Wd.order
  split
  · exact g
  split
  · exact g
  rename_i h0 _ a hi
  obtain ⟨f1, f2, f3, f4, f5, f6⟩ := a.order_facts o.2.1 o.2.2 (g.jo _ _ hi)
  have g1 := g.setAg hi (a.order o.2.1 o.2.2).2 f1 (fun y hy h h3 => f2 y hy h (fun e => h3 (by rw [e.2]; exact ho.2 e.1))) f3 (fun y hy => (f4 y hy).elim (g.cm _ _ hi y) fun e => by rw [e.2]; exact ho.1 e.1)
  split
  · refine ⟨g1.c, g1.ne, g1.jo, g1.cm, g1.oo, fun q hq b hb => ?_, g1.il⟩
    rcases List.mem_append.1 hq with hq | hq
    · exact g1.aa q hq b hb
    · obtain rfl : q = _ := by simpa using hq
      replace hb : (w.ags.set o.1.toNat (a.order o.2.1 o.2.2).2)[o.1.toNat]? = some b := hb
      rw [List.getElem?_set_self (List.getElem?_eq_some_iff.1 hi).1] at hb
      cases hb
      refine ⟨fun e => ⟨(f5 e).1, .inr (.inl (f5 e).2)⟩, fun e => (f6 e).elim (fun e => .inr e.2) fun e => .inl (ho.2 e)⟩
  · exact g1
theorem Good.less {w : Wd} (g : Good w) {os qs : List (Int × Int × Int)} (h1 : ∀ o ∈ os, o ∈ w.ords) (h2 : ∀ o ∈ qs, o ∈ w.anss) : Good { w with ords := os, anss := qs } :=
  ⟨g.c, g.ne, g.jo, g.cm, fun o ho => g.oo o (h1 o ho), fun o ho => g.aa o (h2 o ho), g.il⟩
theorem Good.step {w : Wd} (g : Good w) : ∀ o ∈ w.co.step, (o.2.1 = 3 → w.co.state o.2.2 = 2) ∧ (o.2.1 = 4 → w.co.state o.2.2 = 3) := by
  intro o ho
  unfold Co.step at ho
  split at ho
  · cases ho
  · rename_i h
    obtain ⟨i, _, rfl⟩ := List.mem_map.1 ho
    show (w.co.ph = 3 → w.co.state w.co.id = 2) ∧ (w.co.ph = 4 → w.co.state w.co.id = 3)
    rw [g.c.run h]; omega
theorem Good.do {w : Wd} (g : Good w) (d : Dd) : Good (w.do d) := by
  unfold Wd.do
  split
  · have hb := g.c.begin g.ne d.id
    have g1 := g.setCo ⟨hb.1, hb.2.1, hb.2.2.1⟩
    refine ⟨g1.c, g1.ne, g1.jo, g1.cm, g1.oo, g1.aa, fun x hx => ?_⟩
    split at hx
    · rename_i e
      rcases List.mem_append.1 hx with hx | hx
      · exact g1.il x hx
      · obtain rfl : x = d.id := by simpa using hx
        exact hb.2.2.2 e
    · exact g1.il x hx
  split
  · split
    · refine ⟨g.c, g.ne, g.jo, g.cm, fun o ho => ?_, g.aa, g.il⟩
      rcases List.mem_append.1 ho with ho | ho
      · exact g.oo o ho
      · exact g.step o ho
    · exact g
  split
  · split
    · exact g
    split
    · exact g
    rename_i o ho
    have hm := List.mem_of_getElem? ho
    have g1 : Good (if d.kind % 8 ≠ 3 then { w with ords := w.ords.eraseIdx d.i.toNat } else w) := by
      split
      · exact g.less (os := w.ords.eraseIdx d.i.toNat) (qs := w.anss) (fun o h => List.mem_of_mem_eraseIdx h) (fun o h => h)
      · exact g
    have e1 : (if d.kind % 8 ≠ 3 then { w with ords := w.ords.eraseIdx d.i.toNat } else w).co = w.co := by split <;> rfl
    dsimp only
    split
    · exact g1.order (by rw [e1]; exact g.oo o hm)
    · exact g1
  split
  · split
    · exact g
    split
    · exact g
    rename_i o ho
    have hm := List.mem_of_getElem? ho
    have hh := g.c.hear g.ne (a := o.1) (k := o.2.1) (x := o.2.2) (fun ag h => ⟨fun e => ((g.aa o hm ag h).1 e).2, (g.aa o hm ag h).2⟩)
    exact (g.setCo hh).less (os := w.ords) (qs := w.anss.eraseIdx d.i.toNat) (fun o h => h) (fun o h => List.mem_of_mem_eraseIdx h)
  split
  · split
    · exact g
    split
    · exact g
    rename_i a hi
    exact g.setAg hi _ (.inl rfl) (fun y _ h _ => h) (fun y h => h) (fun y h => g.cm _ _ hi y h)
  split
  · exact g.setCo (g.c.abort g.ne)
  · exact g.setCo (g.c.crash g.ne)
theorem Mono.do {w : Wd} (g : Good w) (d : Dd) : Mono w.co (w.do d).co := by
  unfold Wd.do
  split
  · exact (g.c.begin g.ne d.id).2.2.1
  split
  · split <;> exact .refl _
  split
  · split
    · exact .refl _
    split
    · exact .refl _
    rename_i o ho
    have e1 : (if d.kind % 8 ≠ 3 then { w with ords := w.ords.eraseIdx d.i.toNat } else w).co = w.co := by split <;> rfl
    have e2 : ∀ (v : Wd), (v.order o).co = v.co := fun v => by unfold Wd.order; repeat' split
                                                               all_goals rfl
    dsimp only
    split
    · rw [e2, e1]; exact .refl _
    · rw [e1]; exact .refl _
  split
  · split
    · exact .refl _
    split
    · exact .refl _
    rename_i o ho
    have hm := List.mem_of_getElem? ho
    exact (g.c.hear g.ne (a := o.1) (k := o.2.1) (x := o.2.2) (fun ag h => ⟨fun e => ((g.aa o hm ag h).1 e).2, (g.aa o hm ag h).2⟩)).2.2
  split
  · split
    · exact .refl _
    split
    · exact .refl _
    exact .refl _
  split
  · exact (g.c.abort g.ne).2.2
  · exact (g.c.crash g.ne).2.2

def Wd.new (n : Nat) : Wd := ⟨⟨n, 0, 0, [], []⟩, List.replicate n ⟨0, 0, []⟩, [], [], []⟩
theorem Good.new {n : Nat} (h : 1 ≤ n) : Good (Wd.new n) := by
  have at' : ∀ {i : Nat} {a : Ag}, (List.replicate n (⟨0, 0, []⟩ : Ag))[i]? = some a → a = ⟨0, 0, []⟩ := fun {i a} h => List.eq_of_mem_replicate (List.mem_of_getElem? h)
  refine ⟨⟨by simp [Wd.new], h, ⟨Int.le_refl _, (by decide : (0 : Int) ≤ 4)⟩, fun _ => rfl, fun e => absurd rfl e, fun x => .inl rfl, fun a ha => (by cases ha), List.nodup_nil, fun e => absurd (show (0 : Int) = 2 from e) (by decide), fun e => absurd (show (0 : Int) = 3 from e) (by decide), fun e => absurd (show (0 : Int) = 3 from e) (by decide), fun x hx => absurd (show (0 : Int) = 2 from hx) (by decide)⟩, fun e => absurd rfl e, fun i a hi => ?_, fun i a hi x hx => ?_, fun o ho => (by cases ho), fun o ho => (by cases ho), fun o ho => (by cases ho)⟩
  · rw [at' hi]; exact .inl rfl
  · rw [at' hi] at hx; cases hx

/-! What the laws say. -/
def Wd.right (w : Wd) : Prop := ∀ id ∈ w.ids,
  ((∃ a ∈ w.ags, id ∈ a.com) → (∀ a ∈ w.ags, id ∈ a.com ∨ a.pre = id) ∧ w.co.state id = 2) ∧
  (w.co.state id = 2 → ∀ a ∈ w.ags, id ∈ a.com ∨ a.pre = id) ∧ (w.co.state id = 3 → ∀ a ∈ w.ags, id ∉ a.com)
theorem Good.two {w : Wd} (g : Good w) {x : Int} (h : w.co.state x = 2) : ∀ a ∈ w.ags, x ∈ a.com ∨ a.pre = x := by
  intro a ha
  obtain ⟨i, hi⟩ := List.getElem?_of_mem ha
  unfold Co.state at h
  split at h
  · exact .inl (g.c.sp x h i a hi)
  · split at h
    · omega
    · rename_i h1 h2
      have hx : x = w.co.id := Classical.not_not.1 fun e => h2 (.inr e)
      have := g.c.ph
      subst hx
      exact (g.c.s3 (by omega) i a hi).elim (fun e => .inr e.symm) .inl
theorem Good.right {w : Wd} (g : Good w) : w.right := by
  intro x _
  have cm : ∀ a ∈ w.ags, x ∈ a.com → w.co.state x = 2 := fun a ha hx => by
    obtain ⟨i, hi⟩ := List.getElem?_of_mem ha
    exact g.cm i a hi x hx
  refine ⟨?_, g.two, fun h a ha hx => by have := cm a ha hx; omega⟩
  rintro ⟨a, ha, hx⟩
  exact ⟨g.two (cm a ha hx), cm a ha hx⟩
theorem Good.stands {w : Wd} (g : Good w) : ∀ x ∈ w.ids, 1 ≤ w.co.state x ∧ w.co.state x ≤ 3 ∧ (w.co.state x = 1 → x = w.co.id) := by
  intro x hx
  refine ⟨g.il x hx, ?_, fun h => ?_⟩
  · have := g.c.pst x; have := g.c.ph
    unfold Co.state
    repeat' split
    all_goals omega
  · have := g.c.pst x
    unfold Co.state at h
    split at h
    · omega
    split at h
    · omega
    · rename_i h2; exact Classical.not_not.1 fun e => h2 (.inr e)
/-- What is prepared anew was frozen. -/
theorem Ag.order_taken (a : Ag) (k x : Int) : (a.order k x).2.pre = 0 ∨ (a.order k x).2.pre = a.pre ∨ a.fro = (a.order k x).2.pre := by
  unfold Ag.order
  repeat' split
  all_goals first | exact .inr (.inl rfl) | exact .inl rfl | (dsimp only; omega)
theorem Wd.order_taken (w : Wd) (o : Int × Int × Int) : (w.order o).ags.length = w.ags.length ∧ ∀ (i : Nat) (a b : Ag), w.ags[i]? = some a → (w.order o).ags[i]? = some b → b.pre = 0 ∨ b.pre = a.pre ∨ a.fro = b.pre := by
  unfold Wd.order
  have stay : ∀ (i : Nat) (a b : Ag), w.ags[i]? = some a → w.ags[i]? = some b → b.pre = 0 ∨ b.pre = a.pre ∨ a.fro = b.pre := fun i a b h1 h2 => by rw [h1] at h2; cases h2; exact .inr (.inl rfl)
  split
  · exact ⟨rfl, stay⟩
  split
  · exact ⟨rfl, stay⟩
  rename_i c hc
  refine ⟨by simp, fun i a b h1 h2 => ?_⟩
  replace h2 : (w.ags.set o.1.toNat (c.order o.2.1 o.2.2).2)[i]? = some b := h2
  rw [List.getElem?_set] at h2
  split at h2
  · rename_i e; split at h2
    · cases h2; rw [e] at hc; rw [hc] at h1; cases h1; exact Ag.order_taken _ _ _
    · cases h2
  · exact stay i a b h1 h2
theorem Wd.do_taken (w : Wd) (d : Dd) : (w.do d).ags.length = w.ags.length ∧ ∀ (i : Nat) (a b : Ag), w.ags[i]? = some a → (w.do d).ags[i]? = some b → b.pre = 0 ∨ b.pre = a.pre ∨ a.fro = b.pre := by
  have stay : ∀ (i : Nat) (a b : Ag), w.ags[i]? = some a → w.ags[i]? = some b → b.pre = 0 ∨ b.pre = a.pre ∨ a.fro = b.pre := fun i a b h1 h2 => by rw [h1] at h2; cases h2; exact .inr (.inl rfl)
  unfold Wd.do
  split
  · exact ⟨rfl, stay⟩
  split
  · split <;> exact ⟨rfl, stay⟩
  split
  · split
    · exact ⟨rfl, stay⟩
    split
    · exact ⟨rfl, stay⟩
    rename_i o ho
    have e1 : (if d.kind % 8 ≠ 3 then { w with ords := w.ords.eraseIdx d.i.toNat } else w).ags = w.ags := by split <;> rfl
    have := Wd.order_taken (if d.kind % 8 ≠ 3 then { w with ords := w.ords.eraseIdx d.i.toNat } else w) o
    rw [e1] at this
    dsimp only
    split
    · exact this
    · rw [e1]; exact ⟨rfl, stay⟩
  split
  · split
    · exact ⟨rfl, stay⟩
    split
    · exact ⟨rfl, stay⟩
    exact ⟨rfl, stay⟩
  split
  · split
    · exact ⟨rfl, stay⟩
    split
    · exact ⟨rfl, stay⟩
    rename_i c hc
    refine ⟨by simp, fun i a b h1 h2 => ?_⟩
    replace h2 : (w.ags.set d.i.toNat c.crash)[i]? = some b := h2
    rw [List.getElem?_set] at h2
    split at h2
    · rename_i e; split at h2
      · cases h2; rw [e] at hc; rw [hc] at h1; cases h1; exact .inr (.inl rfl)
      · cases h2
    · exact stay i a b h1 h2
  split <;> exact ⟨rfl, stay⟩
end Go.Proofs.Ytbcgipcgcjkfcaa
