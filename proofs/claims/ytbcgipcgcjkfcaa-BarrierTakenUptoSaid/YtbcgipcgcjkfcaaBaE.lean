/- barrier: the program's coordinator. -/
import Derived.Test.YtbcgipcgcjkfcaaBaD
set_option linter.unusedSimpArgs false
set_option linter.unusedVariables false
set_option linter.unnecessarySimpa false
set_option maxRecDepth 100000
namespace Go.Proofs.Ytbcgipcgcjkfcaa
open Go.AM

/-! A map of numbers. -/
def look : List (Int × Int) → Int → Int
  | [], _ => 0
  | p :: ps, n => if n = p.1 then p.2 else look ps n
def putM : List (Int × Int) → Int → Int → List (Int × Int)
  | [], n, v => [(n, v)]
  | p :: ps, n, v => if n = p.1 then (n, v) :: ps else p :: putM ps n v
def MsI (es : List MapEntry) (m : List (Int × Int)) : Prop := es.map (fun e => (e.key, e.val)) = m.map fun p => (Value.int .i64 p.1, Value.int .i64 p.2)
theorem MsI.len {es : List MapEntry} {m : List (Int × Int)} (hm : MsI es m) : es.length = m.length := by simpa using congrArg List.length hm
theorem MsI.find {n : Int} : ∀ {es : List MapEntry} {m : List (Int × Int)} (_ : MsI es m) (i : Nat), (∃ k, afind .i64 n es i = some (some (i + k, .int .i64 (look m n))) ∧ ∀ v, MsI (es.modify k fun e => { e with key := .int .i64 n, val := .int .i64 v }) (putM m n v)) ∨
    (afind .i64 n es i = some none ∧ look m n = 0 ∧ ∀ v b, MsI (es ++ [{ key := .int .i64 n, val := .int .i64 v, born := b }]) (putM m n v))
  | [], [], _, i => .inr ⟨rfl, rfl, fun v b => rfl⟩
  | [], _ :: _, hm, _ => by simp [MsI] at hm
  | _ :: _, [], hm, _ => by simp [MsI] at hm
  | e :: es, p :: ps, hm, i => by
    have hm' := hm
    unfold MsI at hm
    simp only [List.map_cons, List.cons.injEq, Prod.mk.injEq] at hm
    obtain ⟨⟨h1, h2⟩, h3⟩ := hm
    unfold afind look putM
    simp only [h1, if_true]
    by_cases hn : n = p.1
    · left
      refine ⟨0, ?_, fun v => ?_⟩
      · rw [if_pos hn, if_pos hn, h2]; rfl
      · rw [if_pos hn]; simp only [MsI, List.modify_zero_cons, List.map_cons, h3]
    · rw [if_neg hn, if_neg hn]
      simp only [if_neg hn]
      rcases MsI.find (n := n) (es := es) (m := ps) h3 (i + 1) with ⟨k, k1, k2⟩ | ⟨k1, k2, k3⟩
      · refine .inl ⟨k + 1, by rw [k1]; congr 3; omega, fun v => ?_⟩
        have := k2 v
        simp only [MsI, List.modify_succ_cons, List.map_cons, h1, h2] at this ⊢
        rw [this]
      · refine .inr ⟨k1, k2, fun v b => ?_⟩
        have := k3 v b
        simp only [MsI, List.cons_append, List.map_cons, h1, h2] at this ⊢
        rw [this]

structure Co where
  n : Nat
  ph : Int
  id : Int
  op : List Int
  past : List (Int × Int)
def Co.good (c : Co) : Prop := 1 ≤ c.n ∧ c.n ≤ 16 ∧ 0 ≤ c.ph ∧ c.ph ≤ 4 ∧ inI c.id ∧ c.op.length ≤ 16 ∧ True
def Co.all (c : Co) : List Int := (List.range c.n).map fun i => ((i : Nat) : Int)
def Co.enter (c : Co) (p : Int) : Co := { c with ph := p, op := c.all }
def Co.begin (c : Co) (x : Int) : Int × Co :=
  if x < 1 then (1, c) else if c.ph ≠ 0 then (11, c) else if look c.past x ≠ 0 then (10, c) else if 1024 ≤ c.past.length then (6, c) else (0, { c with id := x }.enter 1)
def Co.step (c : Co) : List (Int × Int × Int) := if c.ph = 0 then [] else c.op.map fun i => (i, c.ph, c.id)
def Co.abort (c : Co) : Int × Co := if c.ph ≠ 1 ∧ c.ph ≠ 2 then (11, c) else (0, c.enter 4)
def Co.next (c : Co) : Co := if c.ph = 1 ∨ c.ph = 2 then c.enter (c.ph + 1) else if c.ph = 3 ∨ c.ph = 4 then { c with past := putM c.past c.id (c.ph - 3 + 2), ph := 0, id := 0, op := [] } else c
def Co.hear (c : Co) (a k x : Int) : Int × Co :=
  if a < 0 ∨ a ≥ c.n ∨ k < 11 ∨ k > 14 then (1, c) else if c.ph = 0 ∨ x ≠ c.id then (11, c) else if k = 14 then (0, c.abort.2)
  else if k = min (c.ph - 1 + 11) 13 then (0, if (c.op.filter (· ≠ a)).length = 0 then ({ c with op := c.op.filter (· ≠ a) } : Co).next else { c with op := c.op.filter (· ≠ a) }) else (0, c)
def Co.crash (c : Co) : Co := if c.ph = 0 then c else if c.abort.1 = 0 then c.abort.2 else c.enter c.ph
def Co.state (c : Co) (x : Int) : Int := if look c.past x ≠ 0 then look c.past x else if c.ph = 0 ∨ x ≠ c.id then 0 else max 1 (c.ph - 3 + 2)

section
variable {h : AHeap} {S Z : Nat → Prop}

def coC (c : Co) (v : Value) (r : Nat) : List Value := [.int .i64 c.n, .int .i64 c.ph, .int .i64 c.id, v, .map (some r)]
def CoAt (Z : Nat → Prop) (h : AHeap) (id : Nat) (c : Co) : Prop := Z id ∧ c.good ∧ ∃ v r es ck, h.get id = .cells (coC c v r) .rw ∧ OwnL rI Z h c.op v ∧ (blk v ≠ some id ∧ blk v ≠ some r) ∧ Z r ∧ h.get r = .map es ck ∧ MsI es c.past
theorem CoAt.lt {id : Nat} {c : Co} (ha : CoAt Z h id c) : id < h.next := by obtain ⟨_, _, v, r, es, ck, hg, _⟩ := ha; exact AHeap.lt_of_alive h (by rw [hg]; simp)
theorem CoAt.mono {Z' : Nat → Prop} {h' : AHeap} {id : Nat} {c : Co} (ha : CoAt Z h id c) (hn : h.next ≤ h'.next) (hm : ∀ j, Z j → j < h.next → Z' j ∧ h'.get j = h.get j) : CoAt Z' h' id c := by
  have hlt := ha.lt
  obtain ⟨hz, hgd, v, r, es, ck, hg, ho, hne, hr, hgr, hms⟩ := ha
  have hlr : r < h.next := AHeap.lt_of_alive h (by rw [hgr]; simp)
  exact ⟨(hm id hz hlt).1, hgd, v, r, es, ck, by rw [(hm id hz hlt).2]; exact hg, ho.mono hn hm, hne, (hm r hr hlr).1, by rw [(hm r hr hlr).2]; exact hgr, hms⟩
theorem CoAt.weaken {Z' : Nat → Prop} {id : Nat} {c : Co} (ha : CoAt Z h id c) (hm : ∀ j, Z j → Z' j) : CoAt Z' h id c := ha.mono (Nat.le_refl _) fun j hj _ => ⟨hm j hj, rfl⟩

theorem past_look {r : Nat} {es : List MapEntry} {ck : Nat} {m : List (Int × Int)} {n : Int} (hg : h.get r = .map es ck) (hm : MsI es m) : alookup Try.prog h 77 (.map (some r)) (.int .i64 n) false = some (.int .i64 (look m n)) := by
  unfold alookup
  simp only [go_sem, hg]
  rcases hm.find (n := n) 0 with ⟨k, k1, _⟩ | ⟨k1, k2, _⟩
  · rw [k1]
  · rw [k1, k2]
theorem past_len {r : Nat} {es : List MapEntry} {ck : Nat} {m : List (Int × Int)} (hg : h.get r = .map es ck) (hm : MsI es m) {ats : Array TypeId} (hat : ats[0]? = some 77) : alenB Try.prog h ats (.map (some r)) = some (.int .i64 m.length) := by
  unfold alenB
  simp only [go_sem, hat, hg, hm.len]

theorem map_ne {r : Nat} : abin Try.prog h .neq 77 (.map (some r)) (.map none) = some (.bool true) := by
  unfold abin aequal
  simp only [go_sem]
  rfl
attribute [local go_sem] map_ne
theorem cok_ok {id : Nat} {c : Co} (ha : CoAt Z h id c) : Does Try.prog 38 #[.pointer (some ⟨id, 0, none⟩)] h (fun u h' => u = .bool true ∧ h' = h) := by
  obtain ⟨hz, hgd, v, r, es, ck, hg, _⟩ := ha
  refine spec_go mixed Try.func38 rfl Try.results38 (n := Try.f38.ntmps) (by kernel_rfl) (by simp) ?_
  simp only [go_sem, simprocAttr, hg, coC]
theorem cPhase_ok {id : Nat} {c : Co} (ha : CoAt Z h id c) : Does Try.prog 24 #[.pointer (some ⟨id, 0, none⟩)] h (fun u h' => u = .tuple #[.int .i64 c.ph, .int .i64 c.id] ∧ h' = h) := by
  refine spec_go mixed Try.func24 rfl Try.results24 (n := Try.f24.ntmps) (by kernel_rfl) (by simp) ?_
  simp only [go_sem, simprocAttr]
  refine cl_spec (cok_ok ha) (fun _ _ _ hc => absurd hc (by decide +kernel)) ?_
  rintro u k ⟨rfl, rfl⟩
  obtain ⟨hz, hgd, v, r, es, ck, hg, _⟩ := ha
  simp only [go_sem, simprocAttr, hg, coC]
theorem cState_ok {id : Nat} {c : Co} (ha : CoAt Z h id c) {x : Int} : Does Try.prog 25 #[.pointer (some ⟨id, 0, none⟩), .int .i64 x] h (fun u h' => u = .int .i64 (c.state x) ∧ h' = h) := by
  refine spec_go mixed Try.func25 rfl Try.results25 (n := Try.f25.ntmps) (by kernel_rfl) (by simp) ?_
  simp only [go_sem, simprocAttr]
  refine cl_spec (cok_ok ha) (fun _ _ _ hc => absurd hc (by decide +kernel)) ?_
  rintro u k ⟨rfl, rfl⟩
  obtain ⟨hz, hgd, v, r, es, ck, hg, ho, hne, hr, hgr, hms⟩ := ha
  have hl := past_look (n := x) hgr hms
  obtain ⟨_, _, g1, g2, _⟩ := hgd
  unfold Co.state
  simp only [go_sem, simprocAttr, hg, coC, hl]
  by_cases h1 : look c.past x = 0
  · have e1 : (look c.past x = 0) = True := eq_true h1
    rw [if_neg (fun e => e h1)]
    simp only [go_sem, simprocAttr, e1, hg, coC]
    by_cases h2 : c.ph = 0
    · have e2 : (c.ph = 0) = True := eq_true h2
      rw [if_pos (.inl h2)]
      simp only [go_sem, simprocAttr, e2]
    · have e2 : (c.ph = 0) = False := eq_false h2
      by_cases h3 : x = c.id
      · have e3 : (x = c.id) = True := eq_true h3
        rw [if_neg (fun e => e.elim h2 (fun e => e h3))]
        have e4 : IntKind.i64.wrap (c.ph - 3) = c.ph - 3 := by rw [wi64] <;> omega
        have e5 : IntKind.i64.wrap (c.ph - 3 + 2) = c.ph - 3 + 2 := by rw [wi64] <;> omega
        simp only [go_sem, simprocAttr, e2, e3, hg, coC, e4, e5]
      · have e3 : (x = c.id) = False := eq_false h3
        rw [if_pos (.inr h3)]
        simp only [go_sem, simprocAttr, e2, e3, hg, coC]
  · have e1 : (look c.past x = 0) = False := eq_false h1
    rw [if_pos h1]
    simp only [go_sem, simprocAttr, e1, hg, coC, hl]
end
end Go.Proofs.Ytbcgipcgcjkfcaa
