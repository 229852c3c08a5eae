/- stream: records and their bytes, plain. -/
import Derived.Test.YtolnacokdjognaaNeJ
set_option linter.unusedSimpArgs false
set_option linter.unusedVariables false
set_option linter.unnecessarySimpa false
set_option maxRecDepth 100000
namespace Go.Proofs.Ytolnacokdjognaa
open Go.AM

structure Rec where
  kd : Int
  sh : Int
  sn : Int
  ba : Int
  mp : Int
  of_ : Int
  ln : Int
  data : List Nat
deriving DecidableEq
def Rec.ns (r : Rec) : List Int := [r.kd, r.sh, r.sn, r.ba, r.mp, r.of_, r.ln]
def Rec.cs (r : Rec) (v : Value) : List Value := [.int .i64 r.kd, .int .i64 r.sh, .int .i64 r.sn, .int .i64 r.ba, .int .i64 r.mp, .int .i64 r.of_, .int .i64 r.ln, v]
theorem Rec.ns_len (r : Rec) : r.ns.length = 7 := rfl
def Rec.zero : Rec := ⟨0, 0, 0, 0, 0, 0, 0, []⟩
def okF (x : Int) : Prop := 0 ≤ x ∧ x ≤ 2147483648
instance (x : Int) : Decidable (okF x) := inferInstanceAs (Decidable (_ ∧ _))
def Rec.form (r : Rec) : Prop :=
  (r.kd = 1 ∧ r.of_ = 0 ∧ r.data.length = 0) ∨ (r.kd = 2 ∧ (r.sh = 0 ∧ r.sn = 0 ∧ r.ba = 0 ∧ r.mp = 0 ∧ r.ln = 0) ∧ 1 ≤ r.data.length ∧ r.data.length ≤ 64) ∨
  (r.kd = 3 ∧ (r.sh = 0 ∧ r.sn = 0 ∧ r.ba = 0 ∧ r.mp = 0) ∧ 1 ≤ r.ln ∧ r.data.length = 0) ∨ (r.kd = 4 ∧ (r.sh = 0 ∧ r.sn = 0 ∧ r.ba = 0 ∧ r.mp = 0 ∧ r.of_ = 0) ∧ r.data.length = 0)
instance (r : Rec) : Decidable r.form := inferInstanceAs (Decidable (_ ∨ _ ∨ _ ∨ _))
def Rec.may (r : Rec) : Prop := (okF r.kd ∧ okF r.sh ∧ okF r.sn ∧ okF r.ba ∧ okF r.mp ∧ okF r.of_ ∧ okF r.ln) ∧ r.form
instance (r : Rec) : Decidable r.may := inferInstanceAs (Decidable (_ ∧ _))
theorem Rec.ok_iff (r : Rec) : (okF r.kd ∧ okF r.sh ∧ okF r.sn ∧ okF r.ba ∧ okF r.mp ∧ okF r.of_ ∧ okF r.ln) ↔ ∀ (i : Nat) (x : Int), r.ns[i]? = some x → okF x := by
  constructor
  · rintro ⟨h0, h1, h2, h3, h4, h5, h6⟩ i x hx
    match i, hx with
    | 0, hx => cases hx; exact h0
    | 1, hx => cases hx; exact h1
    | 2, hx => cases hx; exact h2
    | 3, hx => cases hx; exact h3
    | 4, hx => cases hx; exact h4
    | 5, hx => cases hx; exact h5
    | 6, hx => cases hx; exact h6
    | i + 7, hx => cases hx
  · intro h
    exact ⟨h 0 _ rfl, h 1 _ rfl, h 2 _ rfl, h 3 _ rfl, h 4 _ rfl, h 5 _ rfl, h 6 _ rfl⟩
theorem Rec.may.len {r : Rec} (h : r.may) : r.data.length ≤ 64 := by
  rcases h.2 with h | h | h | h <;> omega
theorem Rec.ext' {r s : Rec} : r = s ↔ r.ns = s.ns ∧ r.data = s.data := by
  constructor
  · rintro rfl; exact ⟨rfl, rfl⟩
  · rintro ⟨h1, h2⟩
    obtain ⟨a, b, c, d, e, f, g, l⟩ := r
    obtain ⟨a', b', c', d', e', f', g', l'⟩ := s
    simp only [Rec.ns, List.cons.injEq, and_true] at h1
    simp_all
def Rec.nums (r : Rec) : List Nat := r.ns.map Int.toNat ++ (r.data.length :: r.data)
def Rec.body (r : Rec) : List Nat := r.nums.flatMap (leB 8)
/-- A record's bytes. -/
def recB (r : Rec) : List Nat := leB 8 (sealN r.body).length ++ sealN r.body
def encN (l : List Rec) : List Nat := l.flatMap recB
theorem Rec.nums_len (r : Rec) : r.nums.length = 8 + r.data.length := by simp [Rec.nums, Rec.ns]; omega
theorem Rec.body_len (r : Rec) : r.body.length = 64 + 8 * r.data.length := by unfold Rec.body; rw [flat8, r.nums_len]; omega
theorem seal_len (r : Rec) : (sealN r.body).length = 68 + 8 * r.data.length := by rw [sealN_len, r.body_len]; omega
theorem recB_len (r : Rec) : (recB r).length = 76 + 8 * r.data.length := by unfold recB; rw [List.length_append, leB_length, seal_len]; omega
theorem flat8_drop : ∀ (ns : List Nat) (i : Nat), (ns.flatMap (leB 8)).drop (8 * i) = (ns.drop i).flatMap (leB 8)
  | ns, 0 => by simp
  | [], i + 1 => by simp
  | n :: ns, i + 1 => by
    rw [List.flatMap_cons, List.drop_succ_cons, ← flat8_drop ns i, Nat.mul_succ, Nat.add_comm, ← List.drop_drop, List.drop_left' (leB_length _ _)]
theorem flat8_at {ns : List Nat} {i n : Nat} (hi : ns[i]? = some n) : (ns.flatMap (leB 8)).drop (8 * i) = leB 8 n ++ (ns.drop (i + 1)).flatMap (leB 8) := by
  rw [flat8_drop, drop_cons hi, List.flatMap_cons]
theorem RdS.int_atm {s : RdS} {n : Nat} {m : Int} {rest : List Nat} (hd : s.bs.drop s.at_ = leB 8 n ++ rest) (hn : (n : Int) ≤ m) (h64 : n < 18446744073709551616) (h1 : s.why = 0) (h2 : s.fat = 0) : s.int m = ((n : Int), { s with at_ := s.at_ + 8 }) := by
  unfold RdS.int
  rw [RdS.peek_at hd h64 h1 h2]
  simp only
  rw [if_neg (by omega)]
def gtS (s : RdS) : Nat → RdS
  | 0 => s
  | i + 1 => (gtS s i).get.2
def gtN (s : RdS) (i : Nat) : Nat := (gtS s i).get.1
def rcnt (s : RdS) : Int := ((stR s 7).int 64).1
def s8 (s : RdS) : RdS := ((stR s 7).int 64).2
def decS (s : RdS) : RdS := (gtS (s8 s) (rcnt s).toNat).fin
def recOf (s : RdS) : Rec := ⟨xnR s 0, xnR s 1, xnR s 2, xnR s 3, xnR s 4, xnR s 5, xnR s 6, (List.range (rcnt s).toNat).map (gtN (s8 s))⟩
def decodeN (b : List Nat) : Except Int Rec :=
  match openN b with
  | none => .error 4
  | some x => if ((decS ⟨x, 0, 0, 0⟩).why = 0 ∧ (decS ⟨x, 0, 0, 0⟩).fat = 0) ∧ (recOf ⟨x, 0, 0, 0⟩).may then .ok (recOf ⟨x, 0, 0, 0⟩) else .error 5
theorem recOf_data (s : RdS) : (recOf s).data = (List.range (rcnt s).toNat).map (gtN (s8 s)) := by unfold recOf; rfl
theorem recOf_ns (s : RdS) {i : Nat} (hi : i < 7) : (recOf s).ns[i]? = some (xnR s i) := by
  match i, hi with
  | 0, _ => rfl
  | 1, _ => rfl
  | 2, _ => rfl
  | 3, _ => rfl
  | 4, _ => rfl
  | 5, _ => rfl
  | 6, _ => rfl
theorem dec_st {ns : List Nat} (h7 : 7 ≤ ns.length) (hb : ∀ i x, i < 7 → ns[i]? = some x → x ≤ 2147483648) : ∀ i, i ≤ 7 → stR ⟨ns.flatMap (leB 8), 0, 0, 0⟩ i = ⟨ns.flatMap (leB 8), 8 * i, 0, 0⟩ ∧ ∀ j x, j < i → ns[j]? = some x → xnR ⟨ns.flatMap (leB 8), 0, 0, 0⟩ j = (x : Int)
  | 0, _ => ⟨rfl, fun j x hj => by omega⟩
  | i + 1, hi => by
    obtain ⟨h1, h3⟩ := dec_st h7 hb i (by omega)
    have hx : ns[i]? = some ns[i] := List.getElem?_eq_getElem (by omega)
    generalize ns[i] = x at hx
    have hs := RdS.int_at (s := ⟨ns.flatMap (leB 8), 8 * i, 0, 0⟩) (flat8_at hx) (hb i x (by omega) hx) rfl rfl
    refine ⟨?_, fun j y hj hy => ?_⟩
    · show ((stR ⟨ns.flatMap (leB 8), 0, 0, 0⟩ i).int 2147483648).2 = _
      rw [h1, hs]; simp; omega
    · rcases Nat.lt_succ_iff_lt_or_eq.1 hj with e' | rfl
      · exact h3 j y e' hy
      · rw [hx] at hy; cases hy
        rw [xnR_eq, h1, hs]
theorem dec_gt {ns : List Nat} (hb : ∀ x ∈ ns, x < 18446744073709551616) : ∀ i, 8 + i ≤ ns.length → gtS ⟨ns.flatMap (leB 8), 64, 0, 0⟩ i = ⟨ns.flatMap (leB 8), 8 * (8 + i), 0, 0⟩ ∧ ∀ j x, j < i → ns[8 + j]? = some x → gtN ⟨ns.flatMap (leB 8), 64, 0, 0⟩ j = x
  | 0, _ => ⟨rfl, fun j x hj => by omega⟩
  | i + 1, hi => by
    obtain ⟨h1, h3⟩ := dec_gt hb i (by omega)
    have hx : ns[8 + i]? = some ns[8 + i] := List.getElem?_eq_getElem (by omega)
    generalize ns[8 + i] = x at hx
    have hs := (RdS.get_at (s := ⟨ns.flatMap (leB 8), 8 * (8 + i), 0, 0⟩) (flat8_at hx) (hb x (List.mem_of_getElem? hx)) rfl rfl).1
    refine ⟨?_, fun j y hj hy => ?_⟩
    · show ((gtS ⟨ns.flatMap (leB 8), 64, 0, 0⟩ i).get).2 = _
      rw [h1, hs]; simp; omega
    · rcases Nat.lt_succ_iff_lt_or_eq.1 hj with e' | rfl
      · exact h3 j y e' hy
      · rw [hx] at hy; cases hy
        show ((gtS ⟨ns.flatMap (leB 8), 64, 0, 0⟩ j).get).1 = _
        rw [h1, hs]
/-- What is sealed is decoded. -/
theorem dec_body {r : Rec} (hm : r.may) (hd : ∀ x ∈ r.data, x < 18446744073709551616) : decodeN (sealN r.body) = .ok r := by
  have hl := r.nums_len
  have hok := (r.ok_iff).1 hm.1
  have hle := hm.len
  have h7 : ∀ i x, i < 7 → r.nums[i]? = some x → ∃ y, r.ns[i]? = some y ∧ x = y.toNat := fun i x hi hx => by
    unfold Rec.nums at hx
    rw [List.getElem?_append_left (by simp [Rec.ns]; exact hi), List.getElem?_map] at hx
    cases hy : r.ns[i]? with
    | none => rw [hy] at hx; cases hx
    | some y => rw [hy] at hx; cases hx; exact ⟨y, rfl, rfl⟩
  have h8 : r.nums[7]? = some r.data.length := rfl
  have h9 : ∀ j x, r.data[j]? = some x → r.nums[8 + j]? = some x := fun j x hx => by
    unfold Rec.nums
    rw [List.getElem?_append_right (by simp [Rec.ns]; omega)]
    simp only [Rec.ns, List.map_cons, List.map_nil, List.length_cons, List.length_nil]
    rw [show 8 + j - (0 + 1 + 1 + 1 + 1 + 1 + 1 + 1) = j + 1 by omega, List.getElem?_cons_succ, hx]
  have hall : ∀ x ∈ r.nums, x < 18446744073709551616 := fun x hx => by
    unfold Rec.nums at hx
    rcases List.mem_append.1 hx with hx | hx
    · obtain ⟨y, hy, rfl⟩ := List.mem_map.1 hx
      obtain ⟨i, hi⟩ := List.mem_iff_getElem?.1 hy
      have := (hok i y hi).2; omega
    · rcases List.mem_cons.1 hx with rfl | hx
      · omega
      · exact hd x hx
  unfold decodeN
  rw [openN_seal]
  simp only
  obtain ⟨a1, a2⟩ := dec_st (ns := r.nums) (by omega) (fun i x hi hx => by obtain ⟨y, hy, rfl⟩ := h7 i x hi hx; have := (hok i y hy).2; omega) 7 (Nat.le_refl _)
  have eb : r.nums.flatMap (leB 8) = r.body := rfl
  simp only [eb, Nat.reduceMul] at a1 a2
  have a3 := RdS.int_atm (s := ⟨r.body, 56, 0, 0⟩) (m := 64) (flat8_at h8) (by omega) (by omega) rfl rfl
  have c1 : rcnt ⟨r.body, 0, 0, 0⟩ = r.data.length := by unfold rcnt; rw [a1, a3]
  have c2 : s8 ⟨r.body, 0, 0, 0⟩ = ⟨r.body, 64, 0, 0⟩ := by unfold s8; rw [a1, a3]
  obtain ⟨b1, b2⟩ := dec_gt hall r.data.length (by omega)
  simp only [eb] at b1 b2
  have hr : recOf ⟨r.body, 0, 0, 0⟩ = r := by
    refine Rec.ext'.2 ⟨?_, ?_⟩
    · refine List.ext_getElem? fun i => ?_
      by_cases hi : i < 7
      · rw [recOf_ns _ hi]
        have hx : r.nums[i]? = some r.nums[i] := List.getElem?_eq_getElem (by omega)
        obtain ⟨y, hy, e⟩ := h7 i _ hi hx
        have := a2 i _ hi hx
        rw [this, hy, e, Int.toNat_of_nonneg (hok i y hy).1]
      · rw [List.getElem?_eq_none (by rw [Rec.ns_len]; exact Nat.le_of_not_lt hi), List.getElem?_eq_none (by rw [Rec.ns_len]; exact Nat.le_of_not_lt hi)]
    · rw [recOf_data, c1, c2]
      refine List.ext_getElem? fun i => ?_
      by_cases hi : i < r.data.length
      · have hx : r.data[i]? = some r.data[i] := List.getElem?_eq_getElem hi
        rw [List.getElem?_map, List.getElem?_range (by omega), hx]
        rw [Option.map_some, b2 i _ hi (h9 i _ hx)]
      · have hi := Nat.le_of_not_lt hi
        rw [List.getElem?_eq_none (by rw [List.length_map, List.length_range]; exact hi), List.getElem?_eq_none hi]
  have hf : decS ⟨r.body, 0, 0, 0⟩ = ⟨r.body, 8 * (8 + r.data.length), 0, 0⟩ := by
    unfold decS
    rw [c1, c2, show ((r.data.length : Int)).toNat = r.data.length from rfl, b1]
    unfold RdS.fin
    rw [if_neg (by show ¬ 8 * (8 + r.data.length) < r.body.length; rw [r.body_len]; omega)]
  rw [hf, hr, if_pos ⟨⟨rfl, rfl⟩, hm⟩]
end Go.Proofs.Ytolnacokdjognaa
