/- barrier: agents, the program's and the document's: what each of their functions does. -/
import Derived.Test.YtbcgipcgcjkfcaaAmNum
import Derived.Test.YtbcgipcgcjkfcaaTypes
set_option linter.unusedSimpArgs false
set_option linter.unusedVariables false
set_option linter.unnecessarySimpa false
set_option maxRecDepth 100000
namespace Go.Proofs.Ytbcgipcgcjkfcaa
open Go.AM
theorem mixed : Try.prog.follows .mixedOrders = true := by kernel_rfl

/-- A whole number of Go's int. -/
def inI (n : Int) : Prop := -9223372036854775808 ≤ n ∧ n ≤ 9223372036854775807
theorem inI_iff {n : Int} : inI n ↔ (IntKind.i64.min ≤ n ∧ n ≤ IntKind.i64.max) := by rw [i64_min, i64_max]; rfl

/-- An agent. -/
structure Ag where
  fro : Int
  pre : Int
  com : List Int

def Ag.busy (a : Ag) (id : Int) : Prop := (¬ a.fro = 0 ∧ ¬ a.fro = id) ∨ (¬ a.pre = 0 ∧ ¬ a.pre = id)
instance (a : Ag) (id : Int) : Decidable (a.busy id) := inferInstanceAs (Decidable (_ ∨ _))
def Ag.order (a : Ag) (kind id : Int) : Int × Ag :=
  if id < 1 then (0, a)
  else if kind = 1 then (if id ∈ a.com ∨ a.busy id then (14, a) else (11, { a with fro := id }))
  else if kind = 2 then (if ¬ a.fro = id ∧ ¬ a.pre = id then (14, a) else (12, { a with pre := id }))
  else if kind = 3 then (if a.pre = id then (13, ⟨0, 0, a.com ++ [id]⟩) else if id ∈ a.com then (13, a) else (14, a))
  else if kind = 4 then (if id ∈ a.com then (14, a) else (13, ⟨if a.fro = id then 0 else a.fro, if a.pre = id then 0 else a.pre, a.com⟩))
  else (0, a)
def Ag.crash (a : Ag) : Ag := { a with fro := 0 }

/-- What is one's own, and new. -/
def up (Z : Nat → Prop) (h : AHeap) : Nat → Prop := fun j => Z j ∨ h.next ≤ j
/-- A list of one's own. -/
def OwnL {α : Type} (r : Rep α) (Z : Nat → Prop) (h : AHeap) (xs : List α) (v : Value) : Prop := Lst r 0 (fun _ => False) h xs v ∧ ∀ j, blk v = some j → Z j
theorem OwnL.mono {α : Type} {r : Rep α} {Z Z' : Nat → Prop} {h h' : AHeap} {xs : List α} {v : Value} (ho : OwnL r Z h xs v) (hn : h.next ≤ h'.next) (hm : ∀ j, Z j → j < h.next → Z' j ∧ h'.get j = h.get j) : OwnL r Z' h' xs v :=
  ⟨ho.1.mono (Nat.le_refl _) hn (fun _ e _ _ => e.elim) (fun j hj hl => (hm j (ho.2 j hj) hl).2), fun j hj => (hm j (ho.2 j hj) (ho.1.blk_ge hj).2).1⟩
theorem OwnL.nil {α : Type} (r : Rep α) (Z : Nat → Prop) (h : AHeap) : OwnL r Z h [] (.slice none 0 0) := ⟨.nil _ _ _ _, fun j e => by cases e⟩
theorem OwnL.sl {α : Type} {r : Rep α} {Z : Nat → Prop} {h : AHeap} {xs : List α} {v : Value} (ho : OwnL r Z h xs v) : IsSl r (fun _ => True) h xs v := ho.1.isSl (fun _ _ _ => trivial) (fun _ _ => trivial)
theorem OwnL.lt {α : Type} {r : Rep α} {Z : Nat → Prop} {h : AHeap} {xs : List α} {v : Value} (ho : OwnL r Z h xs v) {j : Nat} (hj : blk v = some j) : j < h.next := (ho.1.blk_ge hj).2
/-- One more element, which is a plain one. -/
theorem OwnL.app1 {α : Type} {r : Rep α} {Z : Nat → Prop} {h : AHeap} {xs : List α} {v : Value} {y : α} {cs : List Value} {bytes : Nat} (ho : OwnL r Z h xs v) (sz : Nat) (hsz : r.sz = sz) (hy : r.R (fun _ => False) h y cs) (hb : (xs.length + 1) * bytes ≤ 140737488355328) (h62 : xs.length + 1 ≤ 281474976710656) :
    ∃ v' h', aappend h sz bytes v 1 cs = some (v', h') ∧ OwnL r (up Z h) h' (xs ++ [y]) v' ∧ Fw (fun j => blk v = some j) h h' ∧ ∃ a n c, v' = .slice a n c := by
  obtain ⟨v', h', e, hl, hf, hn⟩ := ho.1.app1 (y := y) (cs := cs) (bytes := bytes) sz hsz (r.weaken hy (fun _ e => e.elim)) hb h62 (Nat.zero_le _)
  obtain ⟨a, c, rfl, _⟩ := hl.len
  refine ⟨_, h', e, ⟨hl, fun j hj => ?_⟩, hf, _, _, _, rfl⟩
  rcases hn with hn | ⟨ob, hn, hge⟩
  · exact .inl (ho.2 j (hn ▸ hj))
  · rw [hn] at hj; cases hj; exact .inr hge

section
variable {h : AHeap} {S Z : Nat → Prop}

theorem Index_ok {xs : List Int} {v : Value} {x : Int} (hx : Ints S h xs v) : Does Try.prog 48 #[v, .int .i64 x] h (fun u h' => h' = h ∧ ∃ n : Int, u = .int .i64 n ∧ (0 ≤ n ↔ x ∈ xs)) := by
  obtain ⟨a, c, rfl⟩ := hx.shape
  have hl := hx.len
  refine spec_go mixed Try.func48 rfl Try.results48 (n := Try.f48.ntmps) (by kernel_rfl) (by simp) ?_
  simp only [go_sem, simprocAttr]
  refine go_loop (fun z ρ k => ∃ i : Nat, i ≤ xs.length ∧ z = xs.length - i ∧ k = h ∧ x ∉ xs.take i ∧ ρ 0 = .slice a xs.length c ∧ ρ 1 = .int .i64 x ∧ ρ 7 = .int .i64 xs.length ∧ ρ 8 = .int .i64 i) xs.length ⟨0, by omega, by omega, rfl, by simp, by simp only [go_sem, simprocAttr]⟩ ?_
  rintro z ρ k ⟨i, hi, rfl, rfl, ht, r0, r1, r7, r8⟩
  simp only [go_sem, simprocAttr, r0, r1, r7, r8]
  refine cnd_decide (fun hy => ?_) (fun hy => ?_)
  · have h1 : i < xs.length := by omega
    obtain ⟨b, off, sp, cc, md, y, rfl, _, hg, hyi, hmy, hc⟩ := hx.atI h1
    have e9 : IntKind.i64.wrap ((i : Int) + 1) = ((i + 1 : Nat) : Int) := by rw [wi64] <;> omega
    simp only [go_sem, simprocAttr, r0, r1, r7, r8, h1, hg, hc]
    refine cnd_decide (fun he => ?_) (fun he => ?_)
    · simp only [go_sem, simprocAttr]
      exact ⟨_, rfl, fun _ => by rw [he]; exact List.mem_of_getElem? hyi, fun _ => by omega⟩
    · simp only [go_sem, simprocAttr, r0, r1, r7, r8, e9]
      refine Hold.mk ⟨xs.length - (i + 1), by omega, i + 1, by omega, rfl, rfl, ?_, by simp only [go_sem, simprocAttr, r0, r1, r7]⟩
      rw [List.take_add_one, hyi]
      intro hm
      rcases List.mem_append.1 hm with hm | hm
      · exact ht hm
      · simp at hm; exact he hm
  · have : i = xs.length := by omega
    subst this
    rw [List.take_length] at ht
    simp only [go_sem, simprocAttr]
    exact ⟨_, rfl, fun e => by omega, fun e => absurd e ht⟩
theorem Contains_ok {xs : List Int} {v : Value} {x : Int} (hx : Ints S h xs v) : Does Try.prog 47 #[v, .int .i64 x] h (fun u h' => u = .bool (decide (x ∈ xs)) ∧ h' = h) := by
  refine spec_go mixed Try.func47 rfl Try.results47 (n := Try.f47.ntmps) (by kernel_rfl) (by simp) ?_
  simp only [go_sem, simprocAttr]
  refine cl_spec (Index_ok hx) (fun _ _ _ hc => absurd hc (by decide +kernel)) ?_
  rintro u k ⟨rfl, n, rfl, hn⟩
  simp only [go_sem, simprocAttr]
  exact congrArg Value.bool (decide_eq_decide.2 hn)
theorem Has_ok {xs : List Int} {v : Value} {x : Int} (hx : Ints S h xs v) : Does Try.prog 36 #[v, .int .i64 x] h (fun u h' => u = .bool (decide (x ∈ xs)) ∧ h' = h) := by
  obtain ⟨a, c, rfl⟩ := hx.shape
  have hl := hx.len
  refine spec_go mixed Try.func36 rfl Try.results36 (n := Try.f36.ntmps) (by kernel_rfl) (by simp) ?_
  simp only [go_sem, simprocAttr]
  refine go_loop (fun z ρ k => ∃ i : Nat, i ≤ xs.length ∧ z = xs.length - i ∧ k = h ∧ x ∉ xs.take i ∧ ρ 0 = .slice a xs.length c ∧ ρ 1 = .int .i64 x ∧ ρ 5 = .int .i64 i) xs.length ⟨0, by omega, by omega, rfl, by simp, by simp only [go_sem, simprocAttr]⟩ ?_
  rintro z ρ k ⟨i, hi, rfl, rfl, ht, r0, r1, r5⟩
  simp only [go_sem, simprocAttr, r0, r1, r5]
  refine cnd_decide (fun hy => ?_) (fun hy => ?_)
  · have h1 : i < xs.length := by omega
    obtain ⟨b, off, sp, cc, md, y, rfl, _, hg, hyi, hmy, hc⟩ := hx.atI h1
    have e9 : IntKind.i64.wrap ((i : Int) + 1) = ((i + 1 : Nat) : Int) := by rw [wi64] <;> omega
    simp only [go_sem, simprocAttr, r0, r1, r5, h1, hg, hc]
    refine cnd_decide (fun he => ?_) (fun he => ?_)
    · simp only [go_sem, simprocAttr]
      exact congrArg Value.bool (decide_eq_true (by rw [← he]; exact List.mem_of_getElem? hyi)).symm
    · simp only [go_sem, simprocAttr, r0, r1, r5, e9]
      refine Hold.mk ⟨xs.length - (i + 1), by omega, i + 1, by omega, rfl, rfl, ?_, by simp only [go_sem, simprocAttr, r0, r1]⟩
      rw [List.take_add_one, hyi]
      intro hm
      rcases List.mem_append.1 hm with hm | hm
      · exact ht hm
      · simp at hm; exact he hm.symm
  · have : i = xs.length := by omega
    subst this
    rw [List.take_length] at ht
    simp only [go_sem, simprocAttr]
    exact congrArg Value.bool (decide_eq_false ht).symm

/-- An agent that stands in an object. -/
def AgAt (Z : Nat → Prop) (h : AHeap) (id : Nat) (a : Ag) : Prop := Z id ∧ ∃ v, h.get id = .cells [.bool true, .int .i64 a.fro, .int .i64 a.pre, v] .rw ∧ OwnL rI Z h a.com v ∧ blk v ≠ some id
theorem AgAt.lt {id : Nat} {a : Ag} (ha : AgAt Z h id a) : id < h.next := by obtain ⟨_, v, hg, _⟩ := ha; exact AHeap.lt_of_alive h (by rw [hg]; simp)
theorem AgAt.mono {Z' : Nat → Prop} {h' : AHeap} {id : Nat} {a : Ag} (ha : AgAt Z h id a) (hn : h.next ≤ h'.next) (hm : ∀ j, Z j → j < h.next → Z' j ∧ h'.get j = h.get j) : AgAt Z' h' id a := by
  have hlt := ha.lt
  obtain ⟨hz, v, hg, ho, hne⟩ := ha
  exact ⟨(hm id hz hlt).1, v, by rw [(hm id hz hlt).2]; exact hg, ho.mono hn hm, hne⟩
theorem AgAt.quiet {h' : AHeap} {id : Nat} {a : Ag} (ha : AgAt Z h id a) (q : h.quiet h') : AgAt Z h' id a := ha.mono q.1 fun j hj hl => ⟨hj, q.2 j hl⟩
theorem AgAt.weaken {Z' : Nat → Prop} {id : Nat} {a : Ag} (ha : AgAt Z h id a) (hm : ∀ j, Z j → Z' j) : AgAt Z' h id a := ha.mono (Nat.le_refl _) fun j hj _ => ⟨hm j hj, rfl⟩
/-- Other numbers in its cells. -/
theorem AgAt.set {id : Nat} {a : Ag} (ha : AgAt Z h id a) (f p : Int) : ∃ v, h.get id = .cells [.bool true, .int .i64 a.fro, .int .i64 a.pre, v] .rw ∧ AgAt Z (h.set id (.cells [.bool true, .int .i64 f, .int .i64 p, v] .rw)) id ⟨f, p, a.com⟩ := by
  have hlt := ha.lt
  obtain ⟨hz, v, hg, ho, hne⟩ := ha
  refine ⟨v, hg, hz, v, AHeap.get_set_self _ _ hlt, ⟨ho.1.mono (Nat.le_refl _) (by simp) (fun _ e _ _ => e.elim) (fun j hj _ => AHeap.get_set_ne _ _ (by rintro rfl; exact hne hj)), ho.2⟩, hne⟩

theorem aok_ok {id : Nat} {a : Ag} (ha : AgAt Z h id a) : Does Try.prog 45 #[.pointer (some ⟨id, 0, none⟩)] h (fun u h' => u = .bool true ∧ h' = h) := by
  obtain ⟨hz, v, hg, ho, hne⟩ := ha
  refine spec_go mixed Try.func45 rfl Try.results45 (n := Try.f45.ntmps) (by kernel_rfl) (by simp) ?_
  simp only [go_sem, simprocAttr, hg]
theorem aCommitted_ok {id : Nat} {a : Ag} (ha : AgAt Z h id a) {x : Int} : Does Try.prog 35 #[.pointer (some ⟨id, 0, none⟩), .int .i64 x] h (fun u h' => u = .bool (decide (x ∈ a.com)) ∧ h' = h) := by
  refine spec_go mixed Try.func35 rfl Try.results35 (n := Try.f35.ntmps) (by kernel_rfl) (by simp) ?_
  simp only [go_sem, simprocAttr]
  refine cl_spec (aok_ok ha) (fun _ _ _ hc => absurd hc (by decide +kernel)) ?_
  rintro u k ⟨rfl, rfl⟩
  obtain ⟨hz, v, hg, ho, hne⟩ := ha
  simp only [go_sem, simprocAttr, hg]
  refine cl_spec (Contains_ok ho.sl) (fun _ _ _ hc => absurd hc (by decide +kernel)) ?_
  rintro u k ⟨rfl, rfl⟩
  simp only [go_sem, simprocAttr]
theorem aFrozen_ok {id : Nat} {a : Ag} (ha : AgAt Z h id a) : Does Try.prog 33 #[.pointer (some ⟨id, 0, none⟩)] h (fun u h' => u = .int .i64 a.fro ∧ h' = h) := by
  refine spec_go mixed Try.func33 rfl Try.results33 (n := Try.f33.ntmps) (by kernel_rfl) (by simp) ?_
  simp only [go_sem, simprocAttr]
  refine cl_spec (aok_ok ha) (fun _ _ _ hc => absurd hc (by decide +kernel)) ?_
  rintro u k ⟨rfl, rfl⟩
  obtain ⟨hz, v, hg, ho, hne⟩ := ha
  simp only [go_sem, simprocAttr, hg]
theorem aPrepared_ok {id : Nat} {a : Ag} (ha : AgAt Z h id a) : Does Try.prog 34 #[.pointer (some ⟨id, 0, none⟩)] h (fun u h' => u = .int .i64 a.pre ∧ h' = h) := by
  refine spec_go mixed Try.func34 rfl Try.results34 (n := Try.f34.ntmps) (by kernel_rfl) (by simp) ?_
  simp only [go_sem, simprocAttr]
  refine cl_spec (aok_ok ha) (fun _ _ _ hc => absurd hc (by decide +kernel)) ?_
  rintro u k ⟨rfl, rfl⟩
  obtain ⟨hz, v, hg, ho, hne⟩ := ha
  simp only [go_sem, simprocAttr, hg]
theorem aCrash_ok {id : Nat} {a : Ag} (ha : AgAt Z h id a) : Does Try.prog 30 #[.pointer (some ⟨id, 0, none⟩)] h (fun u h' => u = .tuple #[] ∧ AgAt Z h' id a.crash ∧ Fw (· = id) h h') := by
  refine spec_go mixed Try.func30 rfl Try.results30 (n := Try.f30.ntmps) (by kernel_rfl) (by simp) ?_
  simp only [go_sem, simprocAttr]
  refine cl_spec (aok_ok ha) (fun _ _ _ hc => absurd hc (by decide +kernel)) ?_
  rintro u k ⟨rfl, rfl⟩
  obtain ⟨v, hg, ha'⟩ := ha.set 0 a.pre
  simp only [go_sem, simprocAttr, hg]
  exact ⟨ha', .set _⟩
theorem busy_ok {id : Nat} {a : Ag} (ha : AgAt Z h id a) {x : Int} : Does Try.prog 46 #[.pointer (some ⟨id, 0, none⟩), .int .i64 x] h (fun u h' => u = .bool (decide (a.busy x)) ∧ h' = h) := by
  obtain ⟨hz, v, hg, ho, hne⟩ := ha
  refine spec_go mixed Try.func46 rfl Try.results46 (n := Try.f46.ntmps) (by kernel_rfl) (by simp) ?_
  simp only [go_sem, simprocAttr, hg]
  repeat' (first | (refine gd_split (fun hb => ?_) (fun hb => ?_) <;> simp only [go_sem, simprocAttr, dec_t, dec_f, Bool.not_eq_true', Bool.not_eq_false', Bool.and_eq_true] at hb <;> simp only [go_sem, simprocAttr, hg, hb]) | (refine cnd_split (fun hb => ?_) (fun hb => ?_) <;> simp only [go_sem, simprocAttr, dec_t, dec_f, Bool.not_eq_true', Bool.not_eq_false', Bool.and_eq_true] at hb <;> simp only [go_sem, simprocAttr, hg, hb]))
  all_goals try (first | rfl | (refine bool_ext ?_; try simp (disch := omega) only [wi64, dec_t, Bool.and_eq_true, Bool.or_eq_true, Bool.not_eq_true', dec_f, reduceCtorEq, true_iff, iff_true, false_iff, iff_false, not_true_eq_false, not_false_eq_true, Bool.true_and, Bool.and_true, Bool.false_eq_true, false_and, and_false, true_and, and_true]; try simp only [Ag.busy] at *; try omega))
theorem newAgent_ok : Does Try.prog 29 #[] h (fun u h' => u = .pointer (some ⟨h.next, 0, none⟩) ∧ h.quiet h' ∧ AgAt (h.next ≤ ·) h' h.next ⟨0, 0, []⟩) := by
  refine spec_go mixed Try.func29 rfl Try.results29 (n := Try.f29.ntmps) (by kernel_rfl) (by simp) ?_
  simp only [go_sem, simprocAttr]
  exact ⟨Nat.le_refl _, _, by simp, .nil _ _ _, by simp⟩
end
end Go.Proofs.Ytbcgipcgcjkfcaa
