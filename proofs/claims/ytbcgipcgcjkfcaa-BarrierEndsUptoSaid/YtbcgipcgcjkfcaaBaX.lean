/- barrier: fair rounds come to an end: the plain law. -/
import Derived.Test.YtbcgipcgcjkfcaaBaW
set_option linter.unusedSimpArgs false
set_option linter.unusedVariables false
set_option linter.unnecessarySimpa false
set_option maxRecDepth 100000
namespace Go.Proofs.Ytbcgipcgcjkfcaa
open Go.AM

/-- An order is delivered, and its answer. -/
def Wd.dl (w : Wd) (o : Int × Int × Int) : Wd :=
  match w.ags[o.1.toNat]? with
  | none => w
  | some a => { w with ags := w.ags.set o.1.toNat (a.order o.2.1 o.2.2).2, co := (w.co.hear o.1 (a.order o.2.1 o.2.2).1 o.2.2).2 }
def Wd.round (w : Wd) : Wd := w.co.step.foldl Wd.dl w
def ms (p : Int) : Nat := if p = 0 then 0 else if p = 1 then 3 else if p = 2 then 2 else 1

theorem Good.dl {w : Wd} (g : Good w) {o : Int × Int × Int} (ho : (o.2.1 = 3 → w.co.state o.2.2 = 2) ∧ (o.2.1 = 4 → w.co.state o.2.2 = 3)) : Good (w.dl o) := by
  unfold Wd.dl
  split
  · exact g
  rename_i a hi
  obtain ⟨f1, f2, f3, f4, f5, f6⟩ := a.order_facts o.2.1 o.2.2 (g.jo _ _ hi)
  have g1 := g.setAg hi (a.order o.2.1 o.2.2).2 f1 (fun y hy h h3 => f2 y hy h (fun e => h3 (by rw [e.2]; exact ho.2 e.1))) f3 (fun y hy => (f4 y hy).elim (g.cm _ _ hi y) fun e => by rw [e.2]; exact ho.1 e.1)
  refine g1.setCo (g1.c.hear g1.ne (a := o.1) (k := (a.order o.2.1 o.2.2).1) (x := o.2.2) fun ag h => ?_)
  replace h : (w.ags.set o.1.toNat (a.order o.2.1 o.2.2).2)[o.1.toNat]? = some ag := h
  rw [List.getElem?_set_self (List.getElem?_eq_some_iff.1 hi).1] at h
  cases h
  exact ⟨fun e => .inr (.inl (f5 e).2), fun e => (f6 e).elim (fun e => .inr e.2) fun e => .inl (ho.2 e)⟩
theorem Wd.dl_len (w : Wd) (o : Int × Int × Int) : (w.dl o).ags.length = w.ags.length := by
  unfold Wd.dl; split
  · rfl
  · simp
theorem Wd.dl_ids (w : Wd) (o : Int × Int × Int) : (w.dl o).ids = w.ids := by unfold Wd.dl; split <;> rfl

/-- Who is asked answers so. -/
theorem Ag.ans12 (a : Ag) {p x : Int} (hp : p = 1 ∨ p = 2) (hx : 1 ≤ x) : (a.order p x).1 = p + 10 ∨ (a.order p x).1 = 14 := by
  unfold Ag.order
  rcases hp with rfl | rfl
  · rw [if_neg (by omega), if_pos rfl]; split
    · exact .inr rfl
    · exact .inl rfl
  · rw [if_neg (by omega), if_neg (by decide), if_pos rfl]; split
    · exact .inr rfl
    · exact .inl rfl
theorem Ag.ans3 (a : Ag) {x : Int} (hx : 1 ≤ x) (h : x = a.pre ∨ x ∈ a.com) : (a.order 3 x).1 = 13 := by
  unfold Ag.order
  rw [if_neg (by omega), if_neg (by decide), if_neg (by decide), if_pos rfl]
  split
  · rfl
  · rw [if_pos (h.resolve_left (by omega))]
theorem Ag.ans4 (a : Ag) {x : Int} (hx : 1 ≤ x) (h : x ∉ a.com) : (a.order 4 x).1 = 13 := by
  unfold Ag.order
  rw [if_neg (by omega), if_neg (by decide), if_neg (by decide), if_neg (by decide), if_pos rfl, if_neg h]

/-- Behind an abort the round's other orders turn nothing of the coordinator. -/
theorem Good.rest {p x : Int} (hp : p = 1 ∨ p = 2) (hx : 1 ≤ x) : ∀ (l : List Int) (w : Wd), Good w → w.co.ph = 4 → w.co.id = x → Good ((l.map fun i => (i, p, x)).foldl Wd.dl w) ∧ ((l.map fun i => (i, p, x)).foldl Wd.dl w).co = w.co
  | [], w, g, _, _ => ⟨g, rfl⟩
  | i :: l, w, g, h4, hid => by
    have g1 : Good (w.dl (i, p, x)) := g.dl ⟨fun e => absurd (show p = 3 from e) (by omega), fun e => absurd (show p = 4 from e) (by omega)⟩
    have e1 : (w.dl (i, p, x)).co = w.co := by
      unfold Wd.dl
      split
      · rfl
      rename_i a _
      show (w.co.hear i (a.order p x).1 x).2 = w.co
      have hk := a.ans12 hp hx
      generalize (a.order p x).1 = k at hk
      unfold Co.hear
      split
      · rfl
      split
      · rfl
      split
      · unfold Co.abort; rw [if_pos (by omega)]
      rw [if_neg (by omega)]
    obtain ⟨k1, k2⟩ := Good.rest hp hx l (w.dl (i, p, x)) g1 (by rw [e1]; exact h4) (by rw [e1]; exact hid)
    exact ⟨k1, k2.trans e1⟩

theorem filter_head {i : Int} {l : List Int} (h : (i :: l).Nodup) : (i :: l).filter (· ≠ i) = l := by
  have h1 := (List.nodup_cons.1 h).1
  rw [List.filter_cons, if_neg (by simp)]
  exact filter_all fun x hx e => h1 (e ▸ hx)
theorem Good.fold {p x : Int} : ∀ (l : List Int) (w : Wd), Good w → w.co.ph = p → p ≠ 0 → w.co.id = x → w.co.op = l → l ≠ [] → Good ((l.map fun i => (i, p, x)).foldl Wd.dl w) ∧ ms ((l.map fun i => (i, p, x)).foldl Wd.dl w).co.ph < ms p
  | [], w, g, _, _, _, _, h => absurd rfl h
  | i :: l, w, g, hph, hp0, hid, hop, _ => by
    have hp4 := g.c.ph
    have hne : w.co.ph ≠ 0 := by omega
    obtain ⟨hx, hl0⟩ := g.c.idp hne
    rw [hid] at hx hl0
    have hrun := g.c.run hne
    rw [hid, hph] at hrun
    have g1 : Good (w.dl (i, p, x)) := g.dl ⟨fun e => by have : p = 3 := e; show w.co.state x = 2; omega, fun e => by have : p = 4 := e; show w.co.state x = 3; omega⟩
    have hmem : i ∈ w.co.op := by rw [hop]; simp
    obtain ⟨i0, i1⟩ := g.c.op i hmem
    have hi : i.toNat < w.ags.length := by rw [g.c.nn]; omega
    have hai : w.ags[i.toNat]? = some w.ags[i.toNat] := List.getElem?_eq_getElem hi
    have hnd := g.c.nd
    rw [hop] at hnd
    have hk : (w.ags[i.toNat].order p x).1 = min (p - 1 + 11) 13 ∨ ((p = 1 ∨ p = 2) ∧ (w.ags[i.toNat].order p x).1 = 14) := by
      have : p = 1 ∨ p = 2 ∨ p = 3 ∨ p = 4 := by omega
      rcases this with e | e | e | e
      · rcases (w.ags[i.toNat]).ans12 (.inl e) hx with k | k
        · left; omega
        · exact .inr ⟨.inl e, k⟩
      · rcases (w.ags[i.toNat]).ans12 (.inr e) hx with k | k
        · left; omega
        · exact .inr ⟨.inr e, k⟩
      · subst e
        have := (w.ags[i.toNat]).ans3 hx (by have := g.c.s3 hph _ _ hai; rw [hid] at this; exact this)
        left; omega
      · subst e
        have := (w.ags[i.toNat]).ans4 hx (fun hc => by have := g.cm _ _ hai x hc; omega)
        left; omega
    have ed : (w.dl (i, p, x)).co = (w.co.hear i (w.ags[i.toNat].order p x).1 x).2 := by
      unfold Wd.dl
      show (match w.ags[i.toNat]? with | none => w | some a => _ : Wd).co = _
      rw [hai]
    rw [List.map_cons, List.foldl_cons]
    generalize (w.ags[i.toNat].order p x).1 = k at hk ed
    unfold Co.hear at ed
    rw [if_neg (by omega), if_neg (by rw [hid]; omega)] at ed
    rcases hk with hk | ⟨hp, hk⟩
    · rw [if_neg (by omega), hph, if_pos hk] at ed
      rw [hop, filter_head hnd] at ed
      dsimp only at ed
      by_cases hl : l = []
      · subst hl
        simp only [List.length_nil, if_true] at ed
        refine ⟨g1, ?_⟩
        show ms (w.dl (i, p, x)).co.ph < ms p
        rw [ed]
        unfold Co.next
        dsimp only
        have : p = 1 ∨ p = 2 ∨ p = 3 ∨ p = 4 := by omega
        rcases this with rfl | rfl | rfl | rfl <;> simp [Co.enter, ms]
      · rw [if_neg (fun e => hl (List.eq_nil_of_length_eq_zero e))] at ed
        exact Good.fold l _ g1 (by rw [ed]) hp0 (by rw [ed]; exact hid) (by rw [ed]) hl
    · rw [if_pos hk] at ed
      unfold Co.abort at ed
      rw [if_neg (by omega)] at ed
      obtain ⟨k1, k2⟩ := Good.rest hp hx l _ g1 (by rw [ed]; rfl) (by rw [ed]; exact hid)
      refine ⟨k1, ?_⟩
      rw [k2, ed]
      show ms 4 < ms p
      rcases hp with rfl | rfl <;> decide
theorem Good.round {w : Wd} (g : Good w) : Good w.round ∧ ms w.round.co.ph ≤ ms w.co.ph - 1 := by
  unfold Wd.round Co.step
  by_cases h : w.co.ph = 0
  · rw [if_pos h]; exact ⟨g, by show ms w.co.ph ≤ _; rw [h]; decide⟩
  · rw [if_neg h]
    obtain ⟨k1, k2⟩ := Good.fold w.co.op w g rfl h rfl rfl (g.ne h)
    exact ⟨k1, by omega⟩
theorem ms0 {p : Int} (h : ms p = 0) : p = 0 := by
  unfold ms at h
  repeat' split at h
  all_goals omega
theorem ms3 (p : Int) : ms p ≤ 3 := by
  unfold ms
  repeat' split
  all_goals omega
theorem Good.ended {w : Wd} (g : Good w) (h : w.co.ph = 0) : ∀ (i : Nat) (a : Ag) (x : Int), w.ags[i]? = some a → (x ∈ a.com ↔ w.co.state x = 2) := by
  intro i a x hi
  refine ⟨g.cm i a hi x, fun e => ?_⟩
  unfold Co.state at e
  split at e
  · exact g.c.sp x e i a hi
  · rw [if_pos (.inl h)] at e; omega
end Go.Proofs.Ytbcgipcgcjkfcaa
