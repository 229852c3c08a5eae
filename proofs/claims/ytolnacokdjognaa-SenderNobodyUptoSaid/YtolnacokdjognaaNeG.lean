/- net: what is packed is unpacked, and the other way round. -/
import Derived.Test.YtolnacokdjognaaNeF
set_option linter.unusedSimpArgs false
set_option linter.unusedVariables false
set_option linter.unnecessarySimpa false
set_option maxRecDepth 100000
namespace Go.Proofs.Ytolnacokdjognaa
open Go.AM

theorem RdS.peek_at {s : RdS} {n : Nat} {rest : List Nat} (hd : s.bs.drop s.at_ = leB 8 n ++ rest) (hn : n < 18446744073709551616) (h1 : s.why = 0) (h2 : s.fat = 0) : s.peek = some n := by
  have hl := congrArg List.length hd
  rw [List.length_append, leB_length, List.length_drop] at hl
  unfold RdS.peek
  rw [if_pos ⟨h1, h2, by omega⟩, hd, List.take_append_of_le_length (by rw [leB_length]; omega), List.take_of_length_le (by rw [leB_length]; omega), leN_leB 8 n (by simpa using hn)]
theorem RdS.get_at {s : RdS} {n : Nat} {rest : List Nat} (hd : s.bs.drop s.at_ = leB 8 n ++ rest) (hn : n < 18446744073709551616) (h1 : s.why = 0) (h2 : s.fat = 0) : s.get = (n, { s with at_ := s.at_ + 8 }) ∧ s.bs.drop (s.at_ + 8) = rest := by
  refine ⟨by unfold RdS.get; rw [RdS.peek_at hd hn h1 h2], ?_⟩
  rw [← List.drop_drop, hd, List.drop_append_of_le_length (by rw [leB_length]; omega), List.drop_of_length_le (by rw [leB_length]; omega)]; rfl
theorem RdS.part_at {s : RdS} {p rest : List Nat} (hd : s.bs.drop s.at_ = leB 8 p.length ++ (p ++ rest)) (hn : p.length ≤ 2147483648) (h1 : s.why = 0) (h2 : s.fat = 0) : s.part = (p, { s with at_ := s.at_ + 8 + p.length }) ∧ s.bs.drop (s.at_ + 8 + p.length) = rest := by
  have hl := congrArg List.length hd
  rw [List.length_append, List.length_append, leB_length, List.length_drop] at hl
  have h8 := (RdS.get_at hd (by omega) h1 h2).2
  refine ⟨?_, ?_⟩
  · unfold RdS.part
    rw [RdS.peek_at hd (by omega) h1 h2]
    simp only
    rw [if_neg (by omega), if_neg (by omega), h8]
    simp
  · rw [← List.drop_drop, h8]; simp
/-- A step keeps this. -/
def RdS.ok (s s' : RdS) : Prop := s'.bs = s.bs ∧ s.at_ ≤ s'.at_ ∧ (¬ (s.why = 0 ∧ s.fat = 0) → s' = s)

theorem RdS.wrong_ok' (s : RdS) (e p : Int) : s.ok (s.wrong e p) := ⟨by simp, by simp, fun hb => by unfold RdS.wrong; rw [if_neg hb]⟩
theorem RdS.short_ok (s : RdS) : s.ok s.short := ⟨by simp, by simp, fun hb => by unfold RdS.short; split; rfl; unfold RdS.wrong; rw [if_neg hb]⟩
theorem RdS.peek_bad {s : RdS} (hb : ¬ (s.why = 0 ∧ s.fat = 0)) : s.peek = none := by unfold RdS.peek; rw [if_neg (fun e => hb ⟨e.1, e.2.1⟩)]
theorem RdS.get_ok' (s : RdS) : s.ok s.get.2 ∧ (¬ (s.why = 0 ∧ s.fat = 0) → s.get.1 = 0) := by
  unfold RdS.get
  cases hp : s.peek with
  | none => exact ⟨s.short_ok, fun _ => rfl⟩
  | some n => exact ⟨⟨rfl, by simp, fun hb => by rw [RdS.peek_bad hb] at hp; cases hp⟩, fun hb => by rw [RdS.peek_bad hb] at hp; cases hp⟩
theorem RdS.int_ok' (s : RdS) (m : Int) : s.ok (s.int m).2 ∧ (¬ (s.why = 0 ∧ s.fat = 0) → (s.int m).1 = 0) := by
  unfold RdS.int
  cases hp : s.peek with
  | none => exact ⟨s.short_ok, fun _ => rfl⟩
  | some n =>
    simp only
    split
    · exact ⟨s.wrong_ok' _ _, fun _ => rfl⟩
    · exact ⟨⟨rfl, by simp, fun hb => by rw [RdS.peek_bad hb] at hp; cases hp⟩, fun hb => by rw [RdS.peek_bad hb] at hp; cases hp⟩
theorem RdS.part_ok' (s : RdS) : s.ok s.part.2 ∧ (¬ (s.why = 0 ∧ s.fat = 0) → s.part.1 = []) := by
  unfold RdS.part
  cases hp : s.peek with
  | none => exact ⟨s.short_ok, fun _ => rfl⟩
  | some n =>
    simp only
    split
    · exact ⟨s.wrong_ok' _ _, fun _ => rfl⟩
    · split
      · exact ⟨s.wrong_ok' _ _, fun _ => rfl⟩
      · exact ⟨⟨rfl, by simp; omega, fun hb => by rw [RdS.peek_bad hb] at hp; cases hp⟩, fun hb => by rw [RdS.peek_bad hb] at hp; cases hp⟩
theorem RdS.fin_ok' (s : RdS) : s.ok s.fin := by
  unfold RdS.fin
  split
  · exact s.wrong_ok' _ _
  · exact ⟨rfl, by simp, fun _ => rfl⟩

theorem RdS.part_one {s : RdS} (hb : ∀ x ∈ s.bs, x < 256) (h1 : s.why = 0) (h2 : s.fat = 0) :
    (s.at_ + 8 + s.part.1.length ≤ s.bs.length ∧ s.part.2 = { s with at_ := s.at_ + 8 + s.part.1.length } ∧ s.bs.take (s.at_ + 8 + s.part.1.length) = s.bs.take s.at_ ++ (leB 8 s.part.1.length ++ s.part.1)) ∨
    (s.part.1 = [] ∧ s.part.2.why ≠ 0 ∧ s.part.2.bs = s.bs) := by
  unfold RdS.part
  cases hp : s.peek with
  | none =>
    right
    refine ⟨rfl, ?_, by simp⟩
    unfold RdS.peek at hp
    by_cases h8 : s.at_ + 8 ≤ s.bs.length
    · rw [if_pos ⟨h1, h2, h8⟩] at hp; cases hp
    · simp [RdS.short, h8, RdS.wrong, h1, h2]
  | some n =>
    obtain ⟨k1, k2, _, _, k5⟩ := RdS.peek_some hp
    simp only
    split
    · right; exact ⟨rfl, by simp [RdS.wrong, h1, h2], by simp⟩
    · split
      · right; exact ⟨rfl, by simp [RdS.wrong, h1, h2], by simp⟩
      · left
        have hl : ((s.bs.drop (s.at_ + 8)).take n).length = n := by simp; omega
        rw [hl]
        refine ⟨by omega, rfl, ?_⟩
        have h8 : ((s.bs.drop s.at_).take 8).length = 8 := by simp; omega
        have e := leB_leN ((s.bs.drop s.at_).take 8) (fun x hx => hb x (List.mem_of_mem_drop (List.mem_of_mem_take hx)))
        rw [h8, ← k5] at e
        rw [e, Nat.add_assoc, List.take_add, List.take_add, List.drop_drop]

theorem Lst.fr {α : Type} {r : Rep α} {lo : Nat} {T W : Nat → Prop} {h h' : AHeap} {xs : List α} {v : Value} (hl : Lst r lo T h xs v) (f : Fw W h h') (hd : ∀ j, T j ∨ lo ≤ j → ¬ W j) : Lst r lo T h' xs v :=
  hl.mono (Nat.le_refl _) f.1 (fun j hj hlt _ => ⟨hj, f.2 j hlt (hd j (.inl hj))⟩) (fun j hj hlt => f.2 j hlt (hd j (.inr (hl.blk_ge hj).1)))


theorem RdS.int_at {s : RdS} {n : Nat} {rest : List Nat} (hd : s.bs.drop s.at_ = leB 8 n ++ rest) (hn : n ≤ 2147483648) (h1 : s.why = 0) (h2 : s.fat = 0) : s.int 2147483648 = ((n : Int), { s with at_ := s.at_ + 8 }) := by
  unfold RdS.int
  rw [RdS.peek_at hd (by omega) h1 h2]
  simp only
  rw [if_neg (by omega)]
theorem drop_get {α : Type} {l : List α} {i : Nat} {x : α} (h : l[i]? = some x) : l.drop i = x :: l.drop (i + 1) := drop_cons h

theorem openN_seal (x : List Nat) : openN (sealN x) = some x := by
  have h4 : (sealN x).length - 4 = x.length := by rw [sealN_len]; omega
  have e1 : (sealN x).take x.length = x := by unfold sealN; simp
  have e2 : (sealN x).drop x.length = sumB (sumN 1 x) := by unfold sealN; simp
  unfold openN
  rw [h4, e1, e2, if_pos ⟨by rw [sealN_len]; omega, rfl⟩]
theorem openN_some {b x : List Nat} (h : openN b = some x) : b = sealN x ∧ x.length + 4 = b.length := by
  unfold openN at h
  split at h
  · rename_i hc
    cases h
    refine ⟨?_, by simp; omega⟩
    unfold sealN
    rw [← hc.2, List.take_append_drop]
  · cases h
theorem Msg.ns_len (m : Msg) : m.ns.length = 6 := rfl
theorem mOf_load (s : RdS) : (mOf s).load = (stR s 6).part.1 := by unfold mOf; rfl
theorem finR_eq (s : RdS) : finR s = (stR s 6).part.2.fin := by unfold finR; rfl
theorem xnR_eq (s : RdS) (i : Nat) : xnR s i = ((stR s i).int 2147483648).1 := rfl
/-- The rest of a message's bytes, from a number on. -/
def Msg.rest (m : Msg) (i : Nat) : List Nat := ((m.ns.drop i).map Int.toNat).flatMap (leB 8) ++ partsB [m.load]
theorem back_st {m : Msg} (hr : m.right) : ∀ i, i ≤ 6 → stR ⟨m.encode, 0, 0, 0⟩ i = ⟨m.encode, 8 * i, 0, 0⟩ ∧ m.encode.drop (8 * i) = m.rest i ∧ ∀ j x, j < i → m.ns[j]? = some x → x = xnR ⟨m.encode, 0, 0, 0⟩ j
  | 0, _ => ⟨rfl, rfl, fun j x hj => by omega⟩
  | i + 1, hi => by
    obtain ⟨h1, h2, h3⟩ := back_st hr i (by omega)
    have hl : i < m.ns.length := by show i < 6; omega
    have hx : m.ns[i]? = some m.ns[i] := List.getElem?_eq_getElem hl
    generalize m.ns[i] = x at hx
    have hok := (m.right_iff.1 hr).1 i x hx
    have hx8 : 0 ≤ x ∧ x ≤ 2147483648 := by unfold okN at hok; split at hok <;> omega
    have e : m.rest i = leB 8 x.toNat ++ m.rest (i + 1) := by
      unfold Msg.rest
      rw [drop_get hx]; simp
    have hs := RdS.int_at (s := ⟨m.encode, 8 * i, 0, 0⟩) (n := x.toNat) (rest := m.rest (i + 1)) (h2.trans e) (by omega) rfl rfl
    refine ⟨?_, ?_, fun j y hj hy => ?_⟩
    · show ((stR ⟨m.encode, 0, 0, 0⟩ i).int 2147483648).2 = _
      rw [h1, hs]; simp; omega
    · rw [Nat.mul_succ, ← List.drop_drop, h2, e, List.drop_left' (leB_length _ _)]
    · rcases Nat.lt_succ_iff_lt_or_eq.1 hj with e' | rfl
      · exact h3 j y e' hy
      · rw [hx] at hy; cases hy
        rw [xnR_eq, h1, hs]; simp; omega
theorem unpack_pack {m : Msg} (hr : m.right) : unpackN (sealN m.encode) = .ok m := by
  unfold unpackN
  rw [openN_seal]
  simp only
  obtain ⟨h1, h2, h3⟩ := back_st hr 6 (Nat.le_refl _)
  have h1 : stR ⟨m.encode, 0, 0, 0⟩ 6 = ⟨m.encode, 48, 0, 0⟩ := h1
  have h2 : m.encode.drop 48 = m.rest 6 := h2
  have hml := (m.right_iff.1 hr).2
  have hp := RdS.part_at (s := ⟨m.encode, 48, 0, 0⟩) (p := m.load) (rest := []) (h2.trans (by simp [Msg.rest, partsB, Msg.ns])) (by omega) rfl rfl
  have hlen : m.encode.length = 56 + m.load.length := by
    have h2' : m.encode.drop 48 = leB 8 m.load.length ++ (m.load ++ []) := h2.trans (by simp [Msg.rest, partsB, Msg.ns])
    have := congrArg List.length h2'
    rw [List.length_drop, List.length_append, leB_length, List.append_nil] at this
    omega
  have hm : mOf ⟨m.encode, 0, 0, 0⟩ = m := by
    refine Msg.ext'.2 ⟨?_, ?_⟩
    · refine List.ext_getElem? fun i => ?_
      by_cases hi : i < 6
      · rw [mOf_ns _ hi]
        have hl : i < m.ns.length := by rw [Msg.ns_len]; exact hi
        have hx : m.ns[i]? = some m.ns[i] := List.getElem?_eq_getElem hl
        rw [hx, h3 i _ hi hx]
      · rw [List.getElem?_eq_none (by rw [Msg.ns_len]; omega), List.getElem?_eq_none (by rw [Msg.ns_len]; omega)]
    · rw [mOf_load, h1, hp.1]
  have hf : finR ⟨m.encode, 0, 0, 0⟩ = ⟨m.encode, 56 + m.load.length, 0, 0⟩ := by
    rw [finR_eq, h1]
    have : (RdS.part ⟨m.encode, 48, 0, 0⟩).2 = ⟨m.encode, 56 + m.load.length, 0, 0⟩ := (congrArg Prod.snd hp.1).trans (by simp)
    rw [this]
    unfold RdS.fin
    rw [if_neg (by simp; omega)]
  rw [hf, hm, if_pos ⟨⟨rfl, rfl⟩, hr⟩]
theorem RdS.ok.good {s s' : RdS} (h : s.ok s') (hg : s'.why = 0 ∧ s'.fat = 0) : s.why = 0 ∧ s.fat = 0 := by
  by_cases hb : s.why = 0 ∧ s.fat = 0
  · exact hb
  · have := h.2.2 hb
    rw [this] at hg; exact hg
theorem int_good {s : RdS} (hb : ∀ x ∈ s.bs, x < 256) (hg : (s.int 2147483648).2.why = 0 ∧ (s.int 2147483648).2.fat = 0) : ∃ n : Nat, n ≤ 2147483648 ∧ s.int 2147483648 = ((n : Int), { s with at_ := s.at_ + 8 }) ∧ s.at_ + 8 ≤ s.bs.length ∧ s.bs.take (s.at_ + 8) = s.bs.take s.at_ ++ leB 8 n := by
  have hs := (s.int_ok' 2147483648).1.good hg
  unfold RdS.int at hg ⊢
  cases hp : s.peek with
  | none =>
    exfalso
    rw [hp] at hg
    unfold RdS.peek at hp
    by_cases h8 : s.at_ + 8 ≤ s.bs.length
    · rw [if_pos ⟨hs.1, hs.2, h8⟩] at hp; cases hp
    · simp [RdS.short, h8, RdS.wrong, hs.1, hs.2] at hg
  | some n =>
    obtain ⟨k1, k2, _, _, k5⟩ := RdS.peek_some hp
    rw [hp] at hg
    simp only at hg ⊢
    by_cases hn : (2147483648 : Int) < 0 ∨ 2147483648 < (n : Int)
    · rw [if_pos hn] at hg
      simp [RdS.wrong, hs.1, hs.2] at hg
    · rw [if_neg hn]
      refine ⟨n, by omega, rfl, k1, ?_⟩
      have h8 : ((s.bs.drop s.at_).take 8).length = 8 := by simp; omega
      have e := leB_leN ((s.bs.drop s.at_).take 8) (fun x hx => hb x (List.mem_of_mem_drop (List.mem_of_mem_take hx)))
      rw [h8, ← k5] at e
      rw [e, List.take_add]
theorem one_st {x : List Nat} (hb : ∀ y ∈ x, y < 256) : ∀ i, i ≤ 6 → ((stR ⟨x, 0, 0, 0⟩ i).why = 0 ∧ (stR ⟨x, 0, 0, 0⟩ i).fat = 0) → stR ⟨x, 0, 0, 0⟩ i = ⟨x, 8 * i, 0, 0⟩ ∧ x.take (8 * i) = (mOf ⟨x, 0, 0, 0⟩).fst i ∧ 8 * i ≤ x.length ∧ ∀ j, j < i → 0 ≤ xnR ⟨x, 0, 0, 0⟩ j
  | 0, _, _ => ⟨rfl, by simp [Msg.fst], by omega, fun j hj => by omega⟩
  | i + 1, hi, hg => by
    have hg' := ((stR ⟨x, 0, 0, 0⟩ i).int_ok' 2147483648).1.good hg
    obtain ⟨h1, h2, h3, h4⟩ := one_st hb i (by omega) hg'
    have hg : ((stR ⟨x, 0, 0, 0⟩ i).int 2147483648).2.why = 0 ∧ ((stR ⟨x, 0, 0, 0⟩ i).int 2147483648).2.fat = 0 := hg
    rw [h1] at hg
    obtain ⟨n, k1, k2, k3, k4⟩ := int_good hb hg
    have hx : xnR ⟨x, 0, 0, 0⟩ i = (n : Int) := by rw [xnR_eq, h1, k2]
    refine ⟨?_, ?_, by dsimp only at k3; omega, fun j hj => ?_⟩
    · show ((stR ⟨x, 0, 0, 0⟩ i).int 2147483648).2 = _
      rw [h1, k2]; simp; omega
    · rw [Msg.fst_succ (mOf_ns _ (by omega)), hx, ← h2, Nat.mul_succ]
      exact k4
    · rcases Nat.lt_succ_iff_lt_or_eq.1 hj with e' | rfl
      · exact h4 j e'
      · rw [hx]; omega
theorem pack_unpack {b : List Nat} {m : Msg} (hb : ∀ y ∈ b, y < 256) (h : unpackN b = .ok m) : m.right ∧ b = sealN m.encode := by
  unfold unpackN at h
  cases ho : openN b with
  | none => rw [ho] at h; cases h
  | some x =>
    obtain ⟨hbx, hlx⟩ := openN_some ho
    have hbb : ∀ y ∈ x, y < 256 := fun y hy => hb y (by rw [hbx]; unfold sealN; simp [hy])
    rw [ho] at h
    simp only at h
    split at h
    · rename_i hc
      cases h
      obtain ⟨hf, hr⟩ := hc
      refine ⟨hr, ?_⟩
      have hg1 := ((stR ⟨x, 0, 0, 0⟩ 6).part.2.fin_ok').good hf
      have hg2 := ((stR ⟨x, 0, 0, 0⟩ 6).part_ok').1.good hg1
      obtain ⟨h1, h2, h3, h4⟩ := one_st hbb 6 (Nat.le_refl _) hg2
      have hl := mOf_load ⟨x, 0, 0, 0⟩
      rw [h1] at hg1 hl
      have hp := RdS.part_one (s := ⟨x, 8 * 6, 0, 0⟩) hbb rfl rfl
      rw [← hl] at hp
      rcases hp with ⟨p1, p2, p3⟩ | ⟨_, p2, _⟩
      · have hfe : finR ⟨x, 0, 0, 0⟩ = (⟨x, 8 * 6 + 8 + (mOf ⟨x, 0, 0, 0⟩).load.length, 0, 0⟩ : RdS).fin := by
          rw [finR_eq, h1, p2]
        rw [hfe] at hf
        have hle : x.length ≤ 8 * 6 + 8 + (mOf ⟨x, 0, 0, 0⟩).load.length := by
          unfold RdS.fin at hf
          split at hf
          · simp [RdS.wrong] at hf
          · dsimp only at *; omega
        dsimp only at p3
        rw [List.take_of_length_le hle, h2] at p3
        rw [hbx]
        congr 1
        refine p3.trans ?_
        rw [← Msg.fst_end]
        simp [partsB]
      · exact absurd hg1.1 p2
    · cases h
end Go.Proofs.Ytolnacokdjognaa
