/- AM: the steps on heaps: a new object; one that is written; one that goes on as another. -/
import Derived.Test.YtfdbadpiklmbaaaAmRel
set_option linter.unusedSimpArgs false
set_option linter.unusedVariables false
set_option linter.unnecessarySimpa false
set_option maxRecDepth 100000
namespace Go.AM

def PMap.upd (ι : PMap) (id : Nat) (pl : Place) : PMap := fun i => if i = id then some pl else ι i

theorem PMap.upd_self (ι : PMap) (id : Nat) (pl : Place) : ι.upd id pl id = some pl := by simp [PMap.upd]
theorem PMap.upd_ne (ι : PMap) (id : Nat) (pl : Place) {i : Nat} (h : i ≠ id) : ι.upd id pl i = ι i := by simp [PMap.upd, h]
theorem PMap.le_upd {ι : PMap} {id : Nat} (pl : Place) (h : ι id = none) : ι.le (ι.upd id pl) := by
  intro i p hi
  have : i ≠ id := fun e => by rw [e, h] at hi; cases hi
  rw [PMap.upd_ne _ _ _ this]; exact hi

/-- A new object, in a new block. -/
theorem Step.new {ι : PMap} {h : AHeap} {w w' : World} (hr : HR ι h w) (hf : ι h.next = none) {o : AObj} {pl : Place} (hb : pl.b = w.heap.size)
    (hsz : w'.heap.size = w.heap.size + 1) (hk : ∀ k, k < w.heap.size → w'.heap[k]? = w.heap[k]?) (hos : w'.os = w.os) (ht : w'.tape = w.tape) (hout : w'.output = w.output)
    (ho : ORel (ι.upd h.next pl) w' pl o) : Step ι h w (ι.upd h.next pl) (h.push o) w' := .of0 hr {
  ext := PMap.le_upd pl hf
  dom := fun id p hid => by
    by_cases e : id = h.next
    · right; subst e; simp
    · left; rw [PMap.upd_ne _ _ _ e] at hid; exact hid
  next := by simp
  os := hos
  tape := ht
  output := hout
  size := by omega
  keep := fun k hk' _ => hk k hk'
  newb := fun id p h1 h2 _ => by
    by_cases e : id = h.next
    · subst e; rw [PMap.upd_self] at h1; cases h1; left; omega
    · rw [PMap.upd_ne _ _ _ e, h2] at h1; cases h1
  old := fun id p h1 h2 => by
    have e : id ≠ h.next := fun e => by rw [e, hf] at h1; cases h1
    rwa [AHeap.get_push_ne _ _ e] at h2
  dead := fun id p h1 h2 => by
    have e : id ≠ h.next := fun e => by rw [e, hf] at h1; cases h1
    rwa [AHeap.get_push_ne _ _ e]
  hr := {
    obj := fun id p h1 => by
      by_cases e : id = h.next
      · subst e; rw [PMap.upd_self] at h1; cases h1; rw [AHeap.get_push_self]; exact ho
      · rw [PMap.upd_ne _ _ _ e] at h1
        rw [AHeap.get_push_ne _ _ e]
        exact (hr.obj id p h1).mono (PMap.le_upd pl hf) fun ha => hk _ (hr.lt id p h1 ha)
    ex := fun id p id' p' h1 h2 hne ho' ha' => by
      by_cases e : id = h.next
      · have e' : id' ≠ h.next := fun e' => hne (e.trans e'.symm)
        subst e; rw [PMap.upd_self] at h1; cases h1
        rw [PMap.upd_ne _ _ _ e'] at h2
        rw [AHeap.get_push_ne _ _ e'] at ha'
        have := hr.lt id' p' h2 ha'
        omega
      · rw [PMap.upd_ne _ _ _ e] at h1
        rw [AHeap.get_push_ne _ _ e] at ho'
        have l1 := hr.lt id p h1 (own_alive ho')
        by_cases e' : id' = h.next
        · subst e'; rw [PMap.upd_self] at h2; cases h2; omega
        · rw [PMap.upd_ne _ _ _ e'] at h2
          rw [AHeap.get_push_ne _ _ e'] at ha'
          exact hr.ex id p id' p' h1 h2 hne ho' ha'
    lt := fun id p h1 ha => by
      by_cases e : id = h.next
      · subst e; rw [PMap.upd_self] at h1; cases h1; omega
      · rw [PMap.upd_ne _ _ _ e] at h1
        rw [AHeap.get_push_ne _ _ e] at ha
        have := hr.lt id p h1 ha
        omega } }

/-- An object that may be written is. -/
theorem Step.write {ι : PMap} {h : AHeap} {w w' : World} (hr : HR ι h w) {id : Nat} {pl : Place} (hi : ι id = some pl) (hown : (h.get id).own = true) {o : AObj}
    (hsz : w'.heap.size = w.heap.size) (hk : ∀ k, k ≠ pl.b → w'.heap[k]? = w.heap[k]?) (hos : w'.os = w.os) (ht : w'.tape = w.tape) (hout : w'.output = w.output)
    (ho : ORel ι w' pl o) : Step ι h w ι (h.set id o) w' := by
  have hlt : id < h.next := AHeap.lt_of_alive h (fun e => by rw [e] at hown; cases hown)
  exact .of0 hr {
    ext := fun _ _ h => h
    dom := fun _ _ h => .inl h
    next := by simp
    os := hos
    tape := ht
    output := hout
    size := by omega
    keep := fun k _ hno => hk k (fun e => hno ⟨id, pl, hi, hown, e.symm⟩)
    newb := fun i p h1 h2 => by rw [h1] at h2; cases h2
    old := fun i p h1 h2 => by
      by_cases e : i = id
      · subst e; exact hown
      · rwa [AHeap.get_set_ne _ _ (Ne.symm e)] at h2
    dead := fun i p h1 h2 => by
      by_cases e : i = id
      · subst e; rw [h2] at hown; cases hown
      · rwa [AHeap.get_set_ne _ _ (Ne.symm e)]
    hr := {
      obj := fun i p h1 => by
        by_cases e : i = id
        · subst e; rw [hi] at h1; cases h1; rw [AHeap.get_set_self _ _ hlt]; exact ho
        · rw [AHeap.get_set_ne _ _ (Ne.symm e)]
          exact (hr.obj i p h1).mono (fun _ _ h => h) fun ha => hk _ (fun e' => hr.ex id pl i p hi h1 (Ne.symm e) hown ha e'.symm)
      ex := fun i p i' p' h1 h2 hne ho' ha' => by
        by_cases e : i = id
        · subst e
          rw [AHeap.get_set_ne _ _ hne] at ha'
          exact hr.ex i p i' p' h1 h2 hne hown ha'
        · rw [AHeap.get_set_ne _ _ (Ne.symm e)] at ho'
          by_cases e' : i' = id
          · subst e'; exact hr.ex i p i' p' h1 h2 hne ho' (own_alive hown)
          · rw [AHeap.get_set_ne _ _ (Ne.symm e')] at ha'
            exact hr.ex i p i' p' h1 h2 hne ho' ha'
      lt := fun i p h1 ha => by
        by_cases e : i = id
        · subst e; rw [hi] at h1; cases h1; rw [hsz]; exact hr.lt i pl hi (own_alive hown)
        · rw [AHeap.get_set_ne _ _ (Ne.symm e)] at ha
          rw [hsz]; exact hr.lt i p h1 ha } }

/-- An object that may be written goes on as another one, in its block. -/
theorem Step.moveOn {ι : PMap} {h : AHeap} {w w' : World} (hr : HR ι h w) (hf : ι h.next = none) {id : Nat} {pl pl' : Place} (hi : ι id = some pl) (hown : (h.get id).own = true) {o : AObj}
    (hb : pl'.b = pl.b) (hsz : w'.heap.size = w.heap.size) (hk : ∀ k, k ≠ pl.b → w'.heap[k]? = w.heap[k]?) (hos : w'.os = w.os) (ht : w'.tape = w.tape) (hout : w'.output = w.output)
    (ho : ORel (ι.upd h.next pl') w' pl' o) : Step ι h w (ι.upd h.next pl') ((h.set id .dead).push o) w' := by
  have hlt : id < h.next := AHeap.lt_of_alive h (fun e => by rw [e] at hown; cases hown)
  have hid : id ≠ h.next := by omega
  have hnx : (h.set id .dead).next = h.next := by simp
  have getne : ∀ i, i ≠ h.next → i ≠ id → ((h.set id .dead).push o).get i = h.get i := fun i h1 h2 => by
    rw [AHeap.get_push_ne _ _ (by rw [hnx]; exact h1), AHeap.get_set_ne _ _ (Ne.symm h2)]
  have getid : ((h.set id .dead).push o).get id = .dead := by
    rw [AHeap.get_push_ne _ _ (by rw [hnx]; exact hid), AHeap.get_set_self _ _ hlt]
  have getnew : ((h.set id .dead).push o).get h.next = o := by
    have := AHeap.get_push_self (h.set id .dead) o
    rwa [hnx] at this
  exact .of0 hr {
    ext := PMap.le_upd pl' hf
    dom := fun i p hip => by
      by_cases e : i = h.next
      · right; subst e; simp
      · left; rw [PMap.upd_ne _ _ _ e] at hip; exact hip
    next := by simp
    os := hos
    tape := ht
    output := hout
    size := by omega
    keep := fun k _ hno => hk k (fun e => hno ⟨id, pl, hi, hown, e.symm⟩)
    newb := fun i p h1 h2 _ => by
      by_cases e : i = h.next
      · subst e; rw [PMap.upd_self] at h1; cases h1; right; exact ⟨id, pl, hi, hown, hb.symm⟩
      · rw [PMap.upd_ne _ _ _ e, h2] at h1; cases h1
    old := fun i p h1 h2 => by
      have e : i ≠ h.next := fun e => by rw [e, hf] at h1; cases h1
      by_cases e' : i = id
      · subst e'; exact hown
      · rwa [getne i e e'] at h2
    dead := fun i p h1 h2 => by
      have e : i ≠ h.next := fun e => by rw [e, hf] at h1; cases h1
      by_cases e' : i = id
      · subst e'; exact getid
      · rwa [getne i e e']
    hr := {
      obj := fun i p h1 => by
        by_cases e : i = h.next
        · subst e; rw [PMap.upd_self] at h1; cases h1; rw [getnew]; exact ho
        · rw [PMap.upd_ne _ _ _ e] at h1
          by_cases e' : i = id
          · subst e'; rw [getid]; trivial
          · rw [getne i e e']
            exact (hr.obj i p h1).mono (PMap.le_upd pl' hf) fun ha => hk _ (fun e'' => hr.ex id pl i p hi h1 (Ne.symm e') hown ha e''.symm)
      ex := fun i p i' p' h1 h2 hne ho' ha' => by
        by_cases e : i = h.next
        · subst e; rw [PMap.upd_self] at h1; cases h1
          have e' : i' ≠ h.next := Ne.symm hne
          rw [PMap.upd_ne _ _ _ e'] at h2
          by_cases e'' : i' = id
          · subst e''; rw [getid] at ha'; cases ha'
          · rw [getne i' e' e''] at ha'
            rw [hb]; exact hr.ex id pl i' p' hi h2 (Ne.symm e'') hown ha'
        · rw [PMap.upd_ne _ _ _ e] at h1
          by_cases e1 : i = id
          · subst e1; rw [getid] at ho'; cases ho'
          · rw [getne i e e1] at ho'
            by_cases e' : i' = h.next
            · subst e'; rw [PMap.upd_self] at h2; cases h2
              rw [hb]; exact hr.ex i p id pl h1 hi e1 ho' (own_alive hown)
            · rw [PMap.upd_ne _ _ _ e'] at h2
              by_cases e'' : i' = id
              · subst e''; rw [getid] at ha'; cases ha'
              · rw [getne i' e' e''] at ha'
                exact hr.ex i p i' p' h1 h2 hne ho' ha'
      lt := fun i p h1 ha => by
        by_cases e : i = h.next
        · subst e; rw [PMap.upd_self] at h1; cases h1; rw [hb, hsz]; exact hr.lt id pl hi (own_alive hown)
        · rw [PMap.upd_ne _ _ _ e] at h1
          by_cases e' : i = id
          · subst e'; rw [getid] at ha; cases ha
          · rw [getne i e e'] at ha
            rw [hsz]; exact hr.lt i p h1 ha } }

/-- An object is let go. -/
theorem Step.kill {ι : PMap} {h : AHeap} {w : World} (hr : HR ι h w) (id : Nat) : Step ι h w ι (h.set id .dead) w := by
  have getid : (h.set id .dead).get id = .dead := by
    rcases Nat.lt_or_ge id h.next with hl | hl
    · exact AHeap.get_set_self _ _ hl
    · exact AHeap.get_ge _ (by simpa using hl)
  have alive : ∀ i, ((h.set id .dead).get i).alive = true → (h.set id .dead).get i = h.get i := fun i ha => by
    by_cases e : i = id
    · subst e; rw [getid] at ha; cases ha
    · rw [AHeap.get_set_ne _ _ (Ne.symm e)]
  exact .of0 hr {
    ext := fun _ _ h => h
    dom := fun _ _ h => .inl h
    next := by simp
    os := rfl
    tape := rfl
    output := rfl
    size := Nat.le_refl _
    keep := fun _ _ _ => rfl
    newb := fun i p h1 h2 => by rw [h1] at h2; cases h2
    old := fun i p _ h2 => by rw [alive i (own_alive h2)] at h2; exact h2
    dead := fun i p _ h2 => by
      by_cases e : i = id
      · subst e; exact getid
      · rwa [AHeap.get_set_ne _ _ (Ne.symm e)]
    hr := {
      obj := fun i p h1 => by
        by_cases e : i = id
        · subst e; rw [getid]; trivial
        · rw [AHeap.get_set_ne _ _ (Ne.symm e)]; exact hr.obj i p h1
      ex := fun i p i' p' h1 h2 hne ho' ha' => by
        rw [alive i (own_alive ho')] at ho'
        rw [alive i' ha'] at ha'
        exact hr.ex i p i' p' h1 h2 hne ho' ha'
      lt := fun i p h1 ha => by
        rw [alive i ha] at ha
        exact hr.lt i p h1 ha } }

end Go.AM
