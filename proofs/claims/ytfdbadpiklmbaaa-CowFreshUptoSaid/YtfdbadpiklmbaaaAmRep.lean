/- AM: what stands in the heap, in the words of a proof. -/
import Derived.Test.YtfdbadpiklmbaaaAmWalk
set_option linter.unusedSimpArgs false
set_option linter.unusedVariables false
set_option linter.unnecessarySimpa false
set_option maxRecDepth 100000
namespace Go.AM

theorem wrap_i64 {n : Int} (h1 : -9223372036854775808 ≤ n) (h2 : n ≤ 9223372036854775807) : IntKind.i64.wrap n = n := by
  simp [IntKind.wrap, IntKind.bits, IntKind.signed]; omega
theorem wrap_u64 (n : Int) : IntKind.u64.wrap n = n % 18446744073709551616 := by
  simp [IntKind.wrap, IntKind.bits, IntKind.signed]
theorem wrap_u8 (n : Int) : IntKind.u8.wrap n = n % 256 := by
  simp [IntKind.wrap, IntKind.bits, IntKind.signed]

/-- A slice of n elements of sz cells: these cells. -/
def Sl (h : AHeap) (v : Value) (sz n : Nat) (cs : List Value) : Prop :=
  ∃ a cap, v = .slice a n cap ∧ n ≤ cap ∧ (a = none → cap = 0) ∧ (∀ ad, a = some ad → ad.spot = none ∨ ad.spot = some sz) ∧ acells h sz n (.slice a n cap) = some cs

theorem acells_length {h : AHeap} {sz n : Nat} {a : Option Addr} {m cap : Nat} {cs : List Value} (hc : acells h sz n (.slice a m cap) = some cs) : cs.length = n * sz := by
  unfold acells at hc
  cases a with
  | none => simp only at hc; split at hc <;> simp_all
  | some a =>
    simp only at hc
    split at hc
    · rename_i h0; cases hc; simp [h0]
    · split at hc
      · split at hc
        · cases hc; simp; omega
        · cases hc
      · cases hc

theorem Sl.length {h : AHeap} {v : Value} {sz n : Nat} {cs : List Value} (hs : Sl h v sz n cs) : cs.length = n * sz := by
  obtain ⟨a, cap, rfl, _, _, _, hc⟩ := hs; exact acells_length hc

/-- Where there are elements they stand in an object. -/
theorem acells_some {h : AHeap} {sz n : Nat} {a : Option Addr} {m cap : Nat} {cs : List Value} (hc : acells h sz n (.slice a m cap) = some cs) (hn : 0 < n) (hsz : 0 < sz) :
    ∃ id off sp c md, a = some ⟨id, off, sp⟩ ∧ h.get id = .cells c md ∧ off + n * sz ≤ c.length ∧ cs = (c.drop off).take (n * sz) := by
  have hpos := Nat.mul_pos hn hsz
  unfold acells at hc
  cases a with
  | none => simp only at hc; split at hc <;> first | omega | cases hc
  | some a =>
    simp only at hc
    split at hc
    · omega
    · split at hc
      · rename_i c md hg
        split at hc
        · rename_i hl; cases hc; exact ⟨a.block, a.off, a.spot, c, md, rfl, hg, hl, rfl⟩
        · cases hc
      · cases hc

theorem Sl.mono {h h' : AHeap} {v : Value} {sz n : Nat} {cs : List Value} (hs : Sl h v sz n cs) (hq : ∀ id off sp cap, v = .slice (some ⟨id, off, sp⟩) n cap → 0 < n * sz → h'.get id = h.get id) : Sl h' v sz n cs := by
  obtain ⟨a, cap, rfl, h1, h2, h3, hc⟩ := hs
  refine ⟨a, cap, rfl, h1, h2, h3, ?_⟩
  unfold acells at hc ⊢
  cases a with
  | none => exact hc
  | some a =>
    simp only at hc ⊢
    split
    · rename_i h0; rw [if_pos h0] at hc; exact hc
    · rename_i h0; rw [if_neg h0] at hc; rw [hq a.block a.off a.spot cap rfl (by omega)]; exact hc

theorem Sl.quiet {h h' : AHeap} {v : Value} {sz n : Nat} {cs : List Value} (hs : Sl h v sz n cs) (hq : h.quiet h') : Sl h' v sz n cs := by
  refine hs.mono fun id off sp cap hv h0 => ?_
  obtain ⟨a, cap', rfl, h1, h2, _, hc⟩ := hs
  cases hv
  have hn : 0 < n := Nat.pos_of_ne_zero (fun e => by simp [e] at h0)
  have hsz : 0 < sz := Nat.pos_of_ne_zero (fun e => by simp [e] at h0)
  obtain ⟨id', off', sp', c, md, e, hg, _⟩ := acells_some hc hn hsz
  cases e
  exact hq.2 _ (AHeap.lt_of_alive h (by rw [hg]; simp))

theorem AHeap.set_set (h : AHeap) (i : Nat) (a b : AObj) : (h.set i a).set i b = h.set i b := by simp [AHeap.set]
theorem AHeap.set_get {h : AHeap} {i : Nat} {o : AObj} (hg : h.get i = o) (ho : o ≠ .dead) : h.set i o = h := by
  have hlt : i < h.objs.length := AHeap.lt_of_alive h (by rw [hg]; exact ho)
  cases h with | mk l =>
  simp only [AHeap.set, AHeap.mk.injEq]
  apply List.ext_getElem (by simp)
  intro j h1 h2
  rw [List.getElem_set]
  split
  · rename_i e; subst e; simp only [AHeap.get, List.getD] at hg; simp at hlt; rw [List.getElem?_eq_getElem hlt] at hg; simpa using hg.symm
  · rfl

/-- One object is as told, what else was there is as it was. -/
def Up (h h' : AHeap) (id : Nat) (o : AObj) : Prop := h.next ≤ h'.next ∧ h'.get id = o ∧ ∀ j, j < h.next → j ≠ id → h'.get j = h.get j

theorem Up.refl {h : AHeap} {id : Nat} {o : AObj} (hg : h.get id = o) : Up h h id o := ⟨Nat.le_refl _, hg, fun _ _ _ => rfl⟩
theorem Up.set {h : AHeap} {id : Nat} (hlt : id < h.next) (o : AObj) : Up h (h.set id o) id o := ⟨by simp, AHeap.get_set_self h o hlt, fun j _ hj => AHeap.get_set_ne h o (Ne.symm hj)⟩
theorem Up.trans {h h' h'' : AHeap} {id : Nat} {o o' : AObj} (a : Up h h' id o) (b : Up h' h'' id o') : Up h h'' id o' :=
  ⟨Nat.le_trans a.1 b.1, b.2.1, fun j hj hne => (b.2.2 j (Nat.lt_of_lt_of_le hj a.1) hne).trans (a.2.2 j hj hne)⟩
theorem Up.quiet {h h' h'' : AHeap} {id : Nat} {o : AObj} (a : Up h h' id o) (hlt : id < h.next) (q : h'.quiet h'') : Up h h'' id o :=
  ⟨Nat.le_trans a.1 q.1, by rw [q.2 id (Nat.lt_of_lt_of_le hlt a.1)]; exact a.2.1, fun j hj hne => (q.2 j (Nat.lt_of_lt_of_le hj a.1)).trans (a.2.2 j hj hne)⟩

/-- A byte as a value. -/
def u8 (b : Nat) : Value := .int .u8 b
/-- A slice of these bytes. -/
def By (h : AHeap) (v : Value) (bs : List Nat) : Prop := Sl h v 1 bs.length (bs.map u8) ∧ ∀ b ∈ bs, b < 256

theorem By.quiet {h h' : AHeap} {v : Value} {bs : List Nat} (hb : By h v bs) (hq : h.quiet h') : By h' v bs := ⟨hb.1.quiet hq, hb.2⟩

/-- Where bytes stand. -/
theorem By.stands {h : AHeap} {a : Option Addr} {n cap : Nat} {bs : List Nat} (hb : By h (.slice a n cap) bs) (hn : 0 < n) :
    ∃ id off sp c md, a = some ⟨id, off, sp⟩ ∧ h.get id = .cells c md ∧ off + n ≤ c.length ∧ ∀ i, i < n → c[off + i]? = some (u8 (bs.getD i 0)) := by
  obtain ⟨⟨a', cap', e, h1, h2, _, h3⟩, h4⟩ := hb
  cases e
  obtain ⟨id, off, sp, c, md, e1, e2, e3, e4⟩ := acells_some h3 hn (by omega)
  refine ⟨id, off, sp, c, md, e1, e2, by omega, fun i hi => ?_⟩
  have := congrArg (·[i]?) e4
  simp only [Nat.mul_one, List.getElem?_map, List.getElem?_take, List.getElem?_drop, if_pos hi] at this
  rw [← this, List.getElem?_eq_getElem hi]
  simp [u8, List.getD, List.getElem?_eq_getElem hi]

theorem By.len {h : AHeap} {a : Option Addr} {n cap : Nat} {bs : List Nat} (hb : By h (.slice a n cap) bs) : n = bs.length ∧ n ≤ cap := by
  obtain ⟨⟨a', cap', e, h1, h2, _, h3⟩, h4⟩ := hb
  cases e; exact ⟨rfl, h1⟩

/-- A part of a slice. -/
theorem Sl.slice {h : AHeap} {a : Option Addr} {sz n cap : Nat} {cs : List Value} (hs : Sl h (.slice a n cap) sz n cs) {l m : Nat} (h1 : l ≤ m) (h2 : m ≤ n) :
    ∃ a' cap', slI sz a n cap (some (l : Int)) (some (m : Int)) = some (.slice a' (m - l) cap') ∧ Sl h (.slice a' (m - l) cap') sz (m - l) ((cs.drop (l * sz)).take ((m - l) * sz)) := by
  obtain ⟨a0, cap0, e, k1, k2, k3, k4⟩ := hs
  cases e
  have hcl := acells_length k4
  cases a with
  | none =>
    have hc0 := k2 rfl
    have e1 : m = 0 := by omega
    have e2 : l = 0 := by omega
    subst e1 e2
    refine ⟨none, 0, by simp [slI, hc0], none, 0, rfl, Nat.le_refl _, (fun _ => rfl), (fun ad h => by cases h), ?_⟩
    simp [acells]
  | some ad =>
    obtain ⟨id, off, sp⟩ := ad
    have fin : ∀ (off' : Nat) (sp' : Option Nat), ((m - l) * sz ≠ 0 → off' = off + l * sz) → acells h sz (m - l) (.slice (some ⟨id, off', sp'⟩) (m - l) (cap - l)) = some ((cs.drop (l * sz)).take ((m - l) * sz)) := by
      intro off' sp' ho
      unfold acells
      simp only
      split
      · rename_i h0; simp [h0]
      · rename_i h0
        rw [ho h0]
        have hn : 0 < n := by
          rcases Nat.eq_zero_or_pos n with e | e
          · have : m - l = 0 := by omega
            simp [this] at h0
          · exact e
        have hsz : 0 < sz := Nat.pos_of_ne_zero (fun e => by simp [e] at h0)
        obtain ⟨id', off0, sp0, c, md, e, hg, hl, hcs⟩ := acells_some k4 hn hsz
        cases e
        simp only [hg]
        have hle : l * sz + (m - l) * sz ≤ n * sz := by rw [← Nat.add_mul]; exact Nat.mul_le_mul_right _ (by omega)
        rw [if_pos (by omega), hcs]
        congr 1
        rw [List.drop_take, List.take_take, List.drop_drop]
        congr 1
        omega
    cases sp with
    | none =>
      refine ⟨some (if cap = l then ⟨id, off, none⟩ else ⟨id, off + l * sz, none⟩), cap - l, ?_, _, _, rfl, by omega, fun h => by simp at h, fun ad h => ?_, ?_⟩
      · rw [slI_x, if_pos (by omega)]; simp
      · left; simp only [Option.some.injEq] at h; subst h; split <;> rfl
      · split
        · exact fin _ _ (fun h0 => by have : m - l = 0 := by omega
                                      simp [this] at h0)
        · exact fin _ _ (fun _ => rfl)
    | some s =>
      have hs : s = sz := by have := k3 _ rfl; simpa using this
      subst hs
      refine ⟨some ⟨id, off + l * s, some s⟩, cap - l, ?_, _, _, rfl, by omega, fun h => by simp at h, fun ad h => ?_, fin _ _ (fun _ => rfl)⟩
      · rw [slI_u, if_pos (by omega)]; simp
      · right; simp only [Option.some.injEq] at h; subst h; rfl

theorem By.slice {h : AHeap} {a : Option Addr} {n cap : Nat} {bs : List Nat} (hb : By h (.slice a n cap) bs) {l m : Nat} (h1 : l ≤ m) (h2 : m ≤ n) :
    ∃ a' cap', slI 1 a n cap (some (l : Int)) (some (m : Int)) = some (.slice a' (m - l) cap') ∧ By h (.slice a' (m - l) cap') ((bs.drop l).take (m - l)) := by
  have hn := hb.len.1
  obtain ⟨a', cap', k1, k2⟩ := (by have := hb.1; rw [← hn] at this; exact this : Sl h (.slice a n cap) 1 n (bs.map u8)).slice h1 h2
  refine ⟨a', cap', k1, ?_, fun b hb' => hb.2 b (List.mem_of_mem_drop (List.mem_of_mem_take hb'))⟩
  have : ((bs.drop l).take (m - l)).length = m - l := by simp; omega
  rw [this]
  simpa using k2

@[go_sem] theorem all_u8 (bs : List Nat) : (bs.map u8).all one = true := by simp [u8, one]
theorem By.acells {h : AHeap} {a : Option Addr} {n cap : Nat} {bs : List Nat} (hb : By h (.slice a n cap) bs) : AM.acells h 1 n (.slice a n cap) = some (bs.map u8) := by
  have := hb.len.1
  obtain ⟨⟨a', cap', e, h1, h2, _, h3⟩, h4⟩ := hb
  cases e
  exact h3
/-- Bytes that stand in an object of their own. -/
def Own1 (h : AHeap) (v : Value) (bs : List Nat) (lo : Nat) : Prop :=
  bs = [] ∨ ∃ id, v = .slice (some ⟨id, 0, some 1⟩) bs.length bs.length ∧ lo ≤ id ∧ h.get id = .cells (bs.map u8) (.tail 1)
theorem By.of_tail {h : AHeap} {id : Nat} {bs : List Nat} (hg : h.get id = .cells (bs.map u8) (.tail 1)) (hb : ∀ b ∈ bs, b < 256) : By h (.slice (some ⟨id, 0, some 1⟩) bs.length bs.length) bs := by
  refine ⟨⟨_, _, rfl, Nat.le_refl _, (fun h => by cases h), (fun ad h => by cases h; exact .inr rfl), ?_⟩, hb⟩
  unfold AM.acells
  simp only [hg]
  split
  · rename_i h0; have : bs = [] := List.eq_nil_of_length_eq_zero (by simpa using h0); simp [this]
  · rw [if_pos (by simp)]
    congr 1
    rw [List.drop_zero, List.take_of_length_le (by simp)]

theorem By.of_none (h : AHeap) : By h (.slice none 0 0) [] := ⟨⟨none, 0, rfl, Nat.le_refl _, (fun _ => rfl), (fun _ h => by cases h), rfl⟩, by simp⟩
theorem By.empty (h : AHeap) (b o cap : Nat) : By h (.slice (some ⟨b, o, .none⟩) 0 cap) [] := ⟨⟨_, cap, rfl, Nat.zero_le _, (fun h => by cases h), (fun _ h => by cases h; exact .inl rfl), by simp [AM.acells]⟩, by simp⟩

end Go.AM
