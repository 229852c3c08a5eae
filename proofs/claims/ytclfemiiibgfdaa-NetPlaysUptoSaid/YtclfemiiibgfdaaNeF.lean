/- net: unpacking messages. -/
import Derived.Test.YtclfemiiibgfdaaNeE
set_option linter.unusedSimpArgs false
set_option linter.unusedVariables false
set_option linter.unnecessarySimpa false
set_option maxRecDepth 100000
namespace Go.Proofs.Ytclfemiiibgfdaa
open Go.AM

/-- A reader behind so many numbers, and these. -/
def stR (s : RdS) : Nat → RdS
  | 0 => s
  | i + 1 => ((stR s i).int 2147483648).2
def xnR (s : RdS) (i : Nat) : Int := ((stR s i).int 2147483648).1
def mOf (s : RdS) : Msg := ⟨xnR s 0, xnR s 1, xnR s 2, xnR s 3, xnR s 4, xnR s 5, (stR s 6).part.1⟩
def finR (s : RdS) : RdS := (stR s 6).part.2.fin
/-- What bytes are unpacked to: a message, or an error's number. -/
def unpackN (b : List Nat) : Except Int Msg :=
  match openN b with
  | none => .error 4
  | some x => if ((finR ⟨x, 0, 0, 0⟩).why = 0 ∧ (finR ⟨x, 0, 0, 0⟩).fat = 0) ∧ (mOf ⟨x, 0, 0, 0⟩).right then .ok (mOf ⟨x, 0, 0, 0⟩) else .error 5
def Msg.zero : Msg := ⟨0, 0, 0, 0, 0, 0, []⟩
theorem mOf_ns (s : RdS) {i : Nat} (hi : i < 6) : (mOf s).ns[i]? = some (xnR s i) := by
  match i, hi with
  | 0, _ => rfl
  | 1, _ => rfl
  | 2, _ => rfl
  | 3, _ => rfl
  | 4, _ => rfl
  | 5, _ => rfl
theorem take_set_succ {α : Type} {l : List α} {i : Nat} {x : α} (hi : i < l.length) : (l.set i x).take (i + 1) = l.take i ++ [x] := by
  rw [List.take_add_one, List.take_set_of_le (Nat.le_refl _), List.getElem?_set_self hi]; rfl
section
variable {h : AHeap} {S S' Z : Nat → Prop} {v w : Value}
theorem Unpack_ok {b : List Nat} (hv : Bytes S h b v) (hn : b.length ≤ 140737488355328) : Does Try.prog 11 #[v] h (fun u h' => h.quiet h' ∧ match unpackN b with
    | .ok m => ∃ w, u = .tuple #[.agg (m.cs w).toArray, .int .i64 0] ∧ Bytes (h.next ≤ ·) h' m.load w
    | .error e => u = .tuple #[.agg (Msg.zero.cs (.slice none 0 0)).toArray, .int .i64 e]) := by
  obtain ⟨a, c, rfl⟩ := hv.shape
  refine spec_go mixed Try.func11 rfl Try.results11 (n := Try.f11.ntmps) (by kernel_rfl) (by simp) ?_
  simp only [go_sem, simprocAttr]
  refine cl_spec (Open_ok (hv.quiet (.push _ _)) hn) (fun _ _ _ hc => absurd hc (by decide +kernel)) ?_
  rintro u k ⟨q, hp⟩
  have hq1 : h.quiet k := (AHeap.quiet.push _ _).trans q
  have hz := q.2 h.next (by simp)
  rw [AHeap.get_push_self] at hz
  unfold unpackN
  cases ho : openN b with
  | none =>
    rw [ho] at hp
    obtain rfl := hp
    simp only [go_sem, simprocAttr, hz]
    rw [AHeap.set_get hz (by simp), hz]
    simp only [go_sem, simprocAttr]
    exact ⟨hq1, rfl⟩
  | some x =>
    rw [ho] at hp
    obtain ⟨w, rfl, hx⟩ := hp
    simp only [go_sem, simprocAttr]
    obtain ⟨a2, c2, rfl⟩ := hx.shape
    refine cl_spec (new_ok hx.bound (fun j hj => hj.2)) (fun u h' hp _ => by rw [hp.2.1]; exact .push _ _) ?_
    rintro u k2 ⟨rfl, hk2, hrd⟩
    simp only [go_sem, simprocAttr]
    have qk2 : k.quiet k2 := by rw [hk2]; exact .push _ _
    have hn1 := AHeap.lt_of_alive k (i := h.next) (by rw [hz]; simp)
    have hz2 := (qk2.2 _ hn1).trans hz
    have hrn := hrd.lt
    refine cl_spec numbers_ok (fun u h' hp _ => by rw [hp.2]; exact .push _ _) ?_
    rintro u k1 ⟨rfl, rfl⟩
    have hzs : ∃ cs0 : List Value, (cs0.length = 7 ∧ cs0[6]? = some (.slice none 0 0)) ∧ ((k2.push (.cells [.int .i64 0, .int .i64 0, .int .i64 0, .int .i64 0, .int .i64 0, .int .i64 0, .slice none 0 0] .rw)).push (.cells (mptrs k2.next) .rw)).get k2.next = .cells cs0 .rw := ⟨_, ⟨rfl, rfl⟩, by simp only [go_sem, simprocAttr]; rfl⟩
    simp only [go_sem, simprocAttr]
    have e2 : ((k2.push (.cells [.int .i64 0, .int .i64 0, .int .i64 0, .int .i64 0, .int .i64 0, .int .i64 0, .slice none 0 0] .rw)).push (.cells (mptrs k2.next) .rw)).get (k2.next + 1) = .cells (mptrs k2.next) .rw := by simp only [go_sem, simprocAttr]
    have e3 : k2.quiet ((k2.push (.cells [.int .i64 0, .int .i64 0, .int .i64 0, .int .i64 0, .int .i64 0, .int .i64 0, .slice none 0 0] .rw)).push (.cells (mptrs k2.next) .rw)) := by simp only [go_sem, simprocAttr]
    generalize (k2.push (.cells [.int .i64 0, .int .i64 0, .int .i64 0, .int .i64 0, .int .i64 0, .int .i64 0, .slice none 0 0] .rw)).push (.cells (mptrs k2.next) .rw) = kb at hzs e2 e3
    obtain ⟨cs0, hcs0, e1⟩ := hzs
    have hb1 := AHeap.lt_of_alive kb (i := k2.next) (by rw [e1]; simp)
    have hb2 := AHeap.lt_of_alive kb (i := k2.next + 1) (by rw [e2]; simp)
    obtain ⟨Sx, hSx, hrd'⟩ : ∃ Sx : Nat → Prop, (∀ j, Sx j → h.next < j ∧ j < k.next) ∧ RdAt Sx kb k.next (.slice a2 x.length c2) ⟨x, 0, 0, 0⟩ := ⟨_, fun j hj => by obtain ⟨h1, h2⟩ := hj; simp at h1; omega, hrd.quiet e3⟩
    have hb0 := hrd'.lt
    have hkn : k.next < k2.next := hrn
    have hzb := (e3.2 _ (Nat.lt_of_lt_of_le hn1 qk2.1)).trans hz2
    generalize hs0 : (⟨x, 0, 0, 0⟩ : RdS) = s0 at hrd'
    refine go_loop (fun z ρ k' => ∃ (i : Nat) (cs : List Value), i ≤ 6 ∧ z = 6 - i ∧ Fw (fun j => j = k.next ∨ j = k2.next) kb k' ∧ RdAt Sx k' k.next (.slice a2 x.length c2) (stR s0 i) ∧ k'.get k2.next = .cells cs .rw ∧ (cs.length = 7 ∧ cs[6]? = some (.slice none 0 0)) ∧ cs.take i = ((List.range i).map fun j => .int .i64 (xnR s0 j)) ∧
      ρ 2 = .pointer (some ⟨h.next, 0, none⟩) ∧ ρ 6 = .pointer (some ⟨k.next, 0, none⟩) ∧ ρ 7 = .pointer (some ⟨k2.next, 0, none⟩) ∧ ρ 21 = .slice (some ⟨k2.next + 1, 0, none⟩) 6 6 ∧ ρ 22 = .int .i64 6 ∧ ρ 23 = .int .i64 i) 6 ⟨0, cs0, by omega, by omega, .refl _ _, hrd', e1, hcs0, rfl, by simp only [go_sem, simprocAttr]⟩ ?_
    rintro z ρ k' ⟨i, cs, hi, rfl, f, hR, g1, hcs, htk, r2, r6, r7, r21, r22, r23⟩
    have g2 := (f.2 _ hb2 (by omega)).trans e2
    simp only [go_sem, simprocAttr, r2, r6, r7, r21, r22, r23]
    refine cnd_decide (fun hy => ?_) (fun hy => ?_)
    · have h1 : i < 6 := by omega
      have hp := mptrs_get (id := k2.next) h1
      have e9 : IntKind.i64.wrap ((i : Int) + 1) = ((i + 1 : Nat) : Int) := by rw [wi64] <;> omega
      simp only [go_sem, simprocAttr, r2, r6, r7, r21, r22, r23, hy, g2, hp]
      refine cl_spec (int_ok hR (by decide)) (fun _ _ _ hc => absurd hc (by decide +kernel)) ?_
      rintro u k3 ⟨rfl, hR3, f3⟩
      have g13 := (f3.2 _ (AHeap.lt_of_alive k' (i := k2.next) (by rw [g1]; simp)) (by omega)).trans g1
      have hn3 := AHeap.lt_of_alive k3 (i := k2.next) (by rw [g13]; simp)
      simp only [go_sem, simprocAttr, r2, r6, r7, r21, r22, r23, g13, hcs.1, hi, e9]
      have fs : Fw (· = k2.next) k3 (k3.set k2.next (.cells (cs.set i (.int .i64 (xnR s0 i))) .rw)) := .set _
      have gs : (k3.set k2.next (.cells (cs.set i (.int .i64 (xnR s0 i))) .rw)).get k2.next = .cells (cs.set i (.int .i64 (xnR s0 i))) .rw := AHeap.get_set_self _ _ hn3
      change Hold _ _ (k3.set k2.next (.cells (cs.set i (.int .i64 (xnR s0 i))) .rw))
      generalize k3.set k2.next (.cells (cs.set i (.int .i64 (xnR s0 i))) .rw) = k4 at fs gs
      refine Hold.mk ⟨6 - (i + 1), by omega, i + 1, cs.set i (.int .i64 (xnR s0 i)), by omega, rfl, ?_, ⟨(fs.2 _ hR3.lt (by omega)).trans hR3.1, hR3.2.1.fr fs (fun j hj _ => by have := hSx j hj; omega), hR3.2.2⟩, gs, ⟨by simpa using hcs.1, by rw [List.getElem?_set_ne (by omega)]; exact hcs.2⟩, ?_, by simp only [go_sem, simprocAttr, r2, r6, r7, r21, r22]⟩
      · exact (f.trans f3 (fun j _ e => e) (fun j _ e => .inl e)).trans fs (fun j _ e => e) (fun j _ e => .inr e)
      · rw [take_set_succ (by omega), htk, List.range_succ, List.map_append]; rfl
    · have : i = 6 := by omega
      subst this
      simp only [go_sem, simprocAttr, r2, r6, r7]
      refine cl_spec (part_ok hR (fun j hj => by have := hSx j hj; have := f.1; omega)) (fun _ _ _ hc => absurd hc (by decide +kernel)) ?_
      rintro lv k3 ⟨hlv, hR3, f3⟩
      have g13 := (f3.2 _ (AHeap.lt_of_alive k' (i := k2.next) (by rw [g1]; simp)) (by omega)).trans g1
      have hn3 := AHeap.lt_of_alive k3 (i := k2.next) (by rw [g13]; simp)
      obtain ⟨al, cl, rfl⟩ := hlv.shape
      simp only [go_sem, simprocAttr, r2, r6, r7, g13, hcs.1]
      have fs : Fw (· = k2.next) k3 (k3.set k2.next (.cells (cs.set 6 (.slice al (stR s0 6).part.1.length cl)) .rw)) := .set _
      have gs : (k3.set k2.next (.cells (cs.set 6 (.slice al (stR s0 6).part.1.length cl)) .rw)).get k2.next = .cells (cs.set 6 (.slice al (stR s0 6).part.1.length cl)) .rw := AHeap.get_set_self _ _ hn3
      have hcse : cs.set 6 (.slice al (stR s0 6).part.1.length cl) = (mOf s0).cs (.slice al (stR s0 6).part.1.length cl) := by
        have hl := hcs.1
        have hl2 : (cs.set 6 (Value.slice al (stR s0 6).part.1.length cl)).length = 7 := by simpa using hl
        have e := List.take_append_drop 6 (cs.set 6 (Value.slice al (stR s0 6).part.1.length cl))
        rw [List.take_set_of_le (Nat.le_refl _), htk, List.drop_eq_getElem_cons (by omega), List.getElem_set_self, List.drop_of_length_le (by omega)] at e
        exact e.symm
      rw [hcse] at fs gs
      have hlv2 : Bytes (fun j => k'.next ≤ j) (k3.set k2.next (.cells ((mOf s0).cs (.slice al (stR s0 6).part.1.length cl)) .rw)) (mOf s0).load (.slice al (mOf s0).load.length cl) := hlv.fr fs (fun j hj _ => by have := f.1; omega)
      have hR4 : RdAt Sx (k3.set k2.next (.cells ((mOf s0).cs (.slice al (stR s0 6).part.1.length cl)) .rw)) k.next (.slice a2 x.length c2) (stR s0 6).part.2 := ⟨(fs.2 _ hR3.lt (by omega)).trans hR3.1, hR3.2.1.fr fs (fun j hj _ => by have := hSx j hj; omega), hR3.2.2⟩
      rw [hcse]
      generalize k3.set k2.next (.cells ((mOf s0).cs (.slice al (stR s0 6).part.1.length cl)) .rw) = k4 at fs gs hlv2 hR4
      refine cl_spec (fin_ok hR4) (fun _ _ _ hc => absurd hc (by decide +kernel)) ?_
      rintro u k5 ⟨rfl, hR5, f5⟩
      have hn4 := AHeap.lt_of_alive k4 (i := k2.next) (by rw [gs]; simp)
      have gs5 : k5.get k2.next = .cells ((mOf s0).cs (.slice al (mOf s0).load.length cl)) .rw := (f5.2 _ hn4 (by omega)).trans gs
      have hlv5 := hlv2.fr f5 (fun j hj _ => by have := f.1; omega)
      have F : Fw (fun j => j = k.next ∨ j = k2.next) kb k5 := ((f.trans f3 (fun j _ e => e) (fun j _ e => .inl e)).trans fs (fun j _ e => e) (fun j _ e => .inr e)).trans f5 (fun j _ e => e) (fun j _ e => .inl e)
      have F2 : h.quiet k5 := Fw.behind ((hq1.trans qk2).trans e3) F (fun j e => by have := hq1.1; omega)
      have hz5 := (F.2 _ (AHeap.lt_of_alive kb (i := h.next) (by rw [hzb]; simp)) (by omega)).trans hzb
      have hn5 := AHeap.lt_of_alive k5 (i := h.next) (by rw [hz5]; simp)
      have hone : ((mOf s0).cs (.slice al (mOf s0).load.length cl)).all one = true := rfl
      have hlen : ((mOf s0).cs (.slice al (mOf s0).load.length cl)).length = 7 := rfl
      change RdAt Sx k5 k.next _ (finR s0) at hR5
      have efin : (stR s0 6).part.2.fin = finR s0 := rfl
      have hF0 : Fw (· = h.next) k5 (k5.set h.next (.cells ((Msg.zero.cs (.slice none 0 0))) .rw)) := .set _
      by_cases hf : (finR s0).why = 0 ∧ (finR s0).fat = 0
      · simp only [go_sem, simprocAttr, r2, r6, r7, efin, hf.1, hf.2, eq_self, decide_true, gs5, hlen, hone, List.take_of_length_le (Nat.le_of_eq hlen), List.drop_zero]
        refine cl_spec (right_ok hlv5) (fun _ _ _ hc => absurd hc (by decide +kernel)) ?_
        rintro u k6 ⟨rfl, q6⟩
        have gs6 := (q6.2 _ (AHeap.lt_of_alive k5 (i := k2.next) (by rw [gs5]; simp))).trans gs5
        have hz6 := (q6.2 _ hn5).trans hz5
        have hn6 := AHeap.lt_of_alive k6 (i := h.next) (by rw [hz6]; simp)
        have hlv6 := hlv5.quiet q6
        have hqs : ∀ o, h.quiet (k6.set h.next o) := fun o => (F2.trans q6).set' (Nat.le_refl _) o
        by_cases hr : (mOf s0).right
        · have hput : putCells [.int .i64 0, .int .i64 0, .int .i64 0, .int .i64 0, .int .i64 0, .int .i64 0, .slice none 0 0] 0 ((mOf s0).cs (.slice al (mOf s0).load.length cl)) = (mOf s0).cs (.slice al (mOf s0).load.length cl) := rfl
          rw [if_pos hr]
          simp only [go_sem, simprocAttr, r2, r6, r7, hr, decide_true, gs6, hz6, hlen, hone, List.take_of_length_le (Nat.le_of_eq hlen), List.drop_zero, hput, AHeap.get_set_self _ _ hn6]
          exact ⟨hqs _, _, rfl, (hlv6.fr (W := (· = h.next)) (.set _) (fun j hj _ => by have := hq1.1; have := f.1; have := e3.1; have := qk2.1; omega)).weaken (fun j hj => by have := hq1.1; have := f.1; have := e3.1; have := qk2.1; omega)⟩
        · rw [if_neg hr]
          simp only [go_sem, simprocAttr, r2, r6, r7, hr, decide_false, gs6, hz6, hlen, hone, AHeap.get_set_self _ _ hn6]
          exact ⟨hqs _, rfl⟩
      · rw [if_neg (fun e => hf e.1)]
        have hqs : ∀ o, h.quiet (k5.set h.next o) := fun o => F2.set' (Nat.le_refl _) o
        by_cases hw : (finR s0).why = 0
        · simp only [go_sem, simprocAttr, r2, r6, r7, efin, hw, eq_false fun e => hf ⟨hw, e⟩, eq_self, decide_true, decide_false, hz5, AHeap.get_set_self _ _ hn5]
          exact ⟨hqs _, rfl⟩
        · simp only [go_sem, simprocAttr, r2, r6, r7, efin, hw, eq_self, decide_true, decide_false, hz5, AHeap.get_set_self _ _ hn5]
          exact ⟨hqs _, rfl⟩
end
end Go.Proofs.Ytclfemiiibgfdaa
