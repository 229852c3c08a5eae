/- stream: what is read of what is encoded, plain. -/
import Derived.Test.YtolnacokdjognaaStI
set_option linter.unusedSimpArgs false
set_option linter.unusedVariables false
set_option linter.unnecessarySimpa false
set_option maxRecDepth 100000
namespace Go.Proofs.Ytolnacokdjognaa
open Go.AM
/-- Records that may be, of numbers of 64 bits. -/
def okL (l : List Rec) : Prop := ∀ r ∈ l, r.may ∧ ∀ x ∈ r.data, x < 18446744073709551616
theorem encN_cons (r : Rec) (l : List Rec) : encN (r :: l) = recB r ++ encN l := by simp [encN]
theorem encN_app (a b : List Rec) : encN (a ++ b) = encN a ++ encN b := by simp [encN]
theorem recB_take (r : Rec) (t : List Nat) : (recB r ++ t).take 8 = leB 8 (sealN r.body).length := by
  unfold recB
  rw [List.append_assoc, List.take_left' (leB_length _ _)]
theorem recB_n (r : Rec) (hm : r.may) : leN (leB 8 (sealN r.body).length) = (sealN r.body).length := by
  have := hm.len
  have := seal_len r
  exact leN_leB 8 _ (by omega)
theorem next_rec {r : Rec} (hm : r.may) (hd : ∀ x ∈ r.data, x < 18446744073709551616) (t : List Nat) : nextN (recB r ++ t) = .got r (recB r).length := by
  have hl := hm.len
  have hs := seal_len r
  have hr := recB_len r
  unfold nextN
  rw [recB_take, recB_n r hm, if_neg (by rw [List.length_append]; omega), if_neg (by omega), if_neg (by rw [List.length_append]; omega)]
  have e : ((recB r ++ t).drop 8).take (sealN r.body).length = sealN r.body := by
    unfold recB
    rw [List.append_assoc, List.drop_left' (leB_length _ _), List.take_left' rfl]
  rw [e, dec_body hm hd]
  simp only
  rw [show 8 + (sealN r.body).length = (recB r).length by omega]
theorem next_pre {r : Rec} (hm : r.may) {w t : List Nat} (hw : w <+: recB r ++ t) (hl : w.length < (recB r).length) : nextN w = .wait := by
  have hs := seal_len r
  have hr := recB_len r
  have hm64 := hm.len
  unfold nextN
  by_cases h8 : w.length < 8
  · rw [if_pos h8]
  · rw [if_neg h8]
    have e : w.take 8 = leB 8 (sealN r.body).length := by
      obtain ⟨s, hs⟩ := hw
      rw [← recB_take r t, ← hs, List.take_append_of_le_length (by omega)]
    rw [e, recB_n r hm, if_neg (by omega), if_pos (by omega)]
theorem readA_wait {w : List Nat} (h : nextN w = .wait) : readA w = ([], w, 0) := by rw [readA_eq, h]
theorem readA_rec {r : Rec} (hm : r.may) (hd : ∀ x ∈ r.data, x < 18446744073709551616) (t : List Nat) : readA (recB r ++ t) = (r :: (readA t).1, (readA t).2) := by
  rw [readA_eq, next_rec hm hd]
  simp only
  rw [List.drop_left' rfl]
theorem readA_app {l : List Rec} (ho : okL l) (t : List Nat) : readA (encN l ++ t) = (l ++ (readA t).1, (readA t).2) := by
  induction l with
  | nil => simp [encN]
  | cons r l ih =>
    obtain ⟨hm, hd⟩ := ho r (by simp)
    rw [encN_cons, List.append_assoc, readA_rec hm hd, ih (fun x hx => ho x (by simp [hx]))]
    rfl
theorem read_pre : ∀ {l : List Rec}, okL l → ∀ {w : List Nat}, w <+: encN l → ∃ l1 l2 w', l = l1 ++ l2 ∧ w = encN l1 ++ w' ∧ w' <+: encN l2 ∧ readA w = (l1, w', 0) ∧ nextN w' = .wait
  | [], _, w, hw => by
    obtain rfl : w = [] := by simpa [encN] using hw
    have : nextN [] = .wait := rfl
    exact ⟨[], [], [], rfl, rfl, hw, readA_wait this, this⟩
  | r :: l, ho, w, hw => by
    obtain ⟨hm, hd⟩ := ho r (by simp)
    rw [encN_cons] at hw
    by_cases hl : w.length < (recB r).length
    · have hn := next_pre hm hw hl
      exact ⟨[], r :: l, w, rfl, rfl, by rw [encN_cons]; exact hw, readA_wait hn, hn⟩
    · have e : recB r <+: w := by
        obtain ⟨s, hs⟩ := hw
        refine ⟨w.drop (recB r).length, ?_⟩
        have : w.take (recB r).length = recB r := by
          have := congrArg (List.take (recB r).length) hs
          rwa [List.take_append_of_le_length (by omega), List.take_left' rfl] at this
        have h2 := List.take_append_drop (recB r).length w
        rw [this] at h2
        exact h2
      obtain ⟨w2, rfl⟩ := e
      have hw2 : w2 <+: encN l := by
        obtain ⟨s, hs⟩ := hw
        rw [List.append_assoc] at hs
        exact ⟨s, List.append_cancel_left hs⟩
      obtain ⟨l1, l2, w', e1, e2, e3, e4, e5⟩ := read_pre (fun x hx => ho x (by simp [hx])) hw2
      refine ⟨r :: l1, l2, w', by rw [e1]; rfl, by rw [e2, encN_cons, List.append_assoc], e3, ?_, e5⟩
      rw [readA_rec hm hd, e4]
theorem wait_end {l : List Rec} (ho : okL l) (h : nextN (encN l) = .wait) : l = [] := by
  cases l with
  | nil => rfl
  | cons r l =>
    obtain ⟨hm, hd⟩ := ho r (by simp)
    rw [encN_cons, next_rec hm hd] at h
    cases h
/-! What is decoded is what was sealed. -/
theorem int_goodm {s : RdS} {m : Int} (hb : ∀ x ∈ s.bs, x < 256) (hg : (s.int m).2.why = 0 ∧ (s.int m).2.fat = 0) : ∃ n : Nat, s.int m = ((n : Int), { s with at_ := s.at_ + 8 }) ∧ s.at_ + 8 ≤ s.bs.length ∧ s.bs.take (s.at_ + 8) = s.bs.take s.at_ ++ leB 8 n := by
  have hs := (s.int_ok' m).1.good hg
  unfold RdS.int at hg ⊢
  cases hp : s.peek with
  | none =>
    exfalso
    rw [hp] at hg
    unfold RdS.peek at hp
    by_cases h8 : s.at_ + 8 ≤ s.bs.length
    · rw [if_pos ⟨hs.1, hs.2, h8⟩] at hp; cases hp
    · simp [RdS.short, h8, RdS.wrong, hs.1, hs.2] at hg
  | some n =>
    obtain ⟨k1, k2, _, _, k5⟩ := RdS.peek_some hp
    rw [hp] at hg
    simp only at hg ⊢
    by_cases hn : m < 0 ∨ m < (n : Int)
    · rw [if_pos hn] at hg
      simp [RdS.wrong, hs.1, hs.2] at hg
    · rw [if_neg hn]
      refine ⟨n, rfl, k1, ?_⟩
      have h8 : ((s.bs.drop s.at_).take 8).length = 8 := by simp; omega
      have e := leB_leN ((s.bs.drop s.at_).take 8) (fun x hx => hb x (List.mem_of_mem_drop (List.mem_of_mem_take hx)))
      rw [h8, ← k5] at e
      rw [e, List.take_add]
theorem get_good {s : RdS} (hb : ∀ x ∈ s.bs, x < 256) (hg : s.get.2.why = 0 ∧ s.get.2.fat = 0) : ∃ n : Nat, s.get = (n, { s with at_ := s.at_ + 8 }) ∧ s.at_ + 8 ≤ s.bs.length ∧ s.bs.take (s.at_ + 8) = s.bs.take s.at_ ++ leB 8 n := by
  have hs := (s.get_ok').1.good hg
  unfold RdS.get at hg ⊢
  cases hp : s.peek with
  | none =>
    exfalso
    rw [hp] at hg
    unfold RdS.peek at hp
    by_cases h8 : s.at_ + 8 ≤ s.bs.length
    · rw [if_pos ⟨hs.1, hs.2, h8⟩] at hp; cases hp
    · simp [RdS.short, h8, RdS.wrong, hs.1, hs.2] at hg
  | some n =>
    obtain ⟨k1, k2, _, _, k5⟩ := RdS.peek_some hp
    refine ⟨n, rfl, k1, ?_⟩
    have h8 : ((s.bs.drop s.at_).take 8).length = 8 := by simp; omega
    have e := leB_leN ((s.bs.drop s.at_).take 8) (fun x hx => hb x (List.mem_of_mem_drop (List.mem_of_mem_take hx)))
    rw [h8, ← k5] at e
    rw [e, List.take_add]
theorem dec_one {x : List Nat} (hb : ∀ y ∈ x, y < 256) : ∀ i, i ≤ 7 → ((stR ⟨x, 0, 0, 0⟩ i).why = 0 ∧ (stR ⟨x, 0, 0, 0⟩ i).fat = 0) → stR ⟨x, 0, 0, 0⟩ i = ⟨x, 8 * i, 0, 0⟩ ∧ x.take (8 * i) = (recOf ⟨x, 0, 0, 0⟩).fst i ∧ 8 * i ≤ x.length
  | 0, _, _ => ⟨rfl, by simp [Rec.fst], by omega⟩
  | i + 1, hi, hg => by
    have hg' := ((stR ⟨x, 0, 0, 0⟩ i).int_ok' 2147483648).1.good hg
    obtain ⟨h1, h2, h3⟩ := dec_one hb i (by omega) hg'
    have hg : ((stR ⟨x, 0, 0, 0⟩ i).int 2147483648).2.why = 0 ∧ ((stR ⟨x, 0, 0, 0⟩ i).int 2147483648).2.fat = 0 := hg
    rw [h1] at hg
    obtain ⟨n, k2, k3, k4⟩ := int_goodm hb hg
    have hx : xnR ⟨x, 0, 0, 0⟩ i = (n : Int) := by rw [xnR_eq, h1, k2]
    refine ⟨?_, ?_, by dsimp only at k3; omega⟩
    · show ((stR ⟨x, 0, 0, 0⟩ i).int 2147483648).2 = _
      rw [h1, k2]; simp; omega
    · rw [Rec.fst_succ (recOf_ns _ (by omega)), hx, ← h2, Nat.mul_succ]
      exact k4
theorem dec_many {x : List Nat} (hb : ∀ y ∈ x, y < 256) (p : Nat) : ∀ i, ((gtS ⟨x, p, 0, 0⟩ i).why = 0 ∧ (gtS ⟨x, p, 0, 0⟩ i).fat = 0) → gtS ⟨x, p, 0, 0⟩ i = ⟨x, p + 8 * i, 0, 0⟩ ∧ x.take (p + 8 * i) = x.take p ++ ((List.range i).map (gtN ⟨x, p, 0, 0⟩)).flatMap (leB 8)
  | 0, _ => ⟨rfl, by simp⟩
  | i + 1, hg => by
    have hg' := ((gtS ⟨x, p, 0, 0⟩ i).get_ok').1.good hg
    obtain ⟨h1, h2⟩ := dec_many hb p i hg'
    have hg : (gtS ⟨x, p, 0, 0⟩ i).get.2.why = 0 ∧ (gtS ⟨x, p, 0, 0⟩ i).get.2.fat = 0 := hg
    rw [h1] at hg
    obtain ⟨n, k2, k3, k4⟩ := get_good hb hg
    have hx : gtN ⟨x, p, 0, 0⟩ i = n := by show (gtS ⟨x, p, 0, 0⟩ i).get.1 = _; rw [h1, k2]
    refine ⟨?_, ?_⟩
    · show (gtS ⟨x, p, 0, 0⟩ i).get.2 = _
      rw [h1, k2]; simp; omega
    · rw [List.range_succ, List.map_append, List.flatMap_append, ← List.append_assoc, ← h2]
      simp only [List.map_cons, List.map_nil, List.flatMap_cons, List.flatMap_nil, List.append_nil, hx]
      rw [Nat.mul_succ, ← Nat.add_assoc]
      exact k4
theorem gts_good {s : RdS} : ∀ i, ((gtS s i).why = 0 ∧ (gtS s i).fat = 0) → s.why = 0 ∧ s.fat = 0
  | 0, h => h
  | i + 1, h => gts_good i (((gtS s i).get_ok').1.good h)
theorem dec_some {b : List Nat} {r : Rec} (hb : ∀ x ∈ b, x < 256) (h : decodeN b = .ok r) : b = sealN r.body := by
  unfold decodeN at h
  cases ho : openN b with
  | none => rw [ho] at h; cases h
  | some x =>
    rw [ho] at h
    simp only at h
    obtain ⟨e, hl⟩ := openN_some ho
    have hx : ∀ y ∈ x, y < 256 := fun y hy => hb y (by rw [e]; unfold sealN; exact List.mem_append_left _ hy)
    split at h
    · rename_i hc
      obtain ⟨hf, hmay⟩ := hc
      have hr : recOf ⟨x, 0, 0, 0⟩ = r := by cases h; rfl
      have hfin : (gtS (s8 ⟨x, 0, 0, 0⟩) (rcnt ⟨x, 0, 0, 0⟩).toNat).fin.why = 0 ∧ (gtS (s8 ⟨x, 0, 0, 0⟩) (rcnt ⟨x, 0, 0, 0⟩).toNat).fin.fat = 0 := hf
      have hg := ((gtS (s8 ⟨x, 0, 0, 0⟩) (rcnt ⟨x, 0, 0, 0⟩).toNat).fin_ok').good hfin
      have hg8 : ((stR ⟨x, 0, 0, 0⟩ 7).int 64).2.why = 0 ∧ ((stR ⟨x, 0, 0, 0⟩ 7).int 64).2.fat = 0 := gts_good _ hg
      have hg7 := ((stR ⟨x, 0, 0, 0⟩ 7).int_ok' 64).1.good hg8
      obtain ⟨a1, a2, a3⟩ := dec_one hx 7 (Nat.le_refl _) hg7
      rw [a1] at hg8
      obtain ⟨n, b1, b2, b3⟩ := int_goodm (s := ⟨x, 8 * 7, 0, 0⟩) hx hg8
      have c1 : rcnt ⟨x, 0, 0, 0⟩ = n := by unfold rcnt; rw [a1, b1]
      have c2 : s8 ⟨x, 0, 0, 0⟩ = ⟨x, 64, 0, 0⟩ := by unfold s8; rw [a1, b1]
      have hdata := recOf_data ⟨x, 0, 0, 0⟩
      rw [hr, c1, c2] at hdata
      rw [c1, c2] at hg hfin
      rw [show ((n : Int)).toNat = n from rfl] at hg hfin hdata
      obtain ⟨d1, d2⟩ := dec_many hx 64 n hg
      have hlen : r.data.length = n := by rw [hdata]; simp
      have hend : x.length ≤ 64 + 8 * n := by
        rw [d1] at hfin
        unfold RdS.fin at hfin
        split at hfin
        · simp [RdS.wrong] at hfin
        · rename_i hlt; dsimp only at hlt; omega
      rw [List.take_of_length_le hend, ← hdata] at d2
      rw [e]
      congr 1
      rw [← r.fst_end, hlen, d2]
      rw [hr] at a2
      rw [← a2]
      exact congrArg (· ++ r.data.flatMap (leB 8)) b3
    · cases h
/-- A byte of the first record was turned: it is not read as it was. -/
theorem turned_first {r : Rec} (hm : r.may) (hd : ∀ x ∈ r.data, x < 18446744073709551616) {c t : List Nat} {k : Nat} (hc : ∀ x ∈ c, x < 256) (hl : c.length = (recB r ++ t).length) (hk : k < (recB r).length) (hne : c[k]? ≠ (recB r ++ t)[k]?) : (readA c).1 = [] ∨ ∃ r' rs, (readA c).1 = r' :: rs ∧ r' ≠ r := by
  rw [readA_eq]
  cases hn : nextN c with
  | wait => exact .inl rfl
  | bad e => exact .inl rfl
  | got r' n =>
    refine .inr ⟨r', _, rfl, ?_⟩
    rintro rfl
    have hrl := recB_len r'
    have hsl := seal_len r'
    have hle := hm.len
    unfold nextN at hn
    split at hn
    · cases hn
    · rename_i h8
      split at hn
      · cases hn
      · split at hn
        · cases hn
        · rename_i h700 hlen
          split at hn
          · cases hn
          · rename_i r2 hdec
            cases hn
            have e := dec_some (fun x hx => hc x (List.mem_of_mem_drop (List.mem_of_mem_take hx))) hdec
            have en := congrArg List.length e
            rw [List.length_take, List.length_drop] at en
            have en2 : leN (c.take 8) = (sealN r'.body).length := by omega
            have e8 := leB_leN (c.take 8) (fun x hx => hc x (List.mem_of_mem_take hx))
            rw [List.length_take, Nat.min_eq_left (by omega), en2] at e8
            rw [en2] at e
            have ec : c.take (recB r').length = recB r' := by
              have : (recB r').length = 8 + (sealN r'.body).length := by omega
              rw [this, List.take_add, e, ← e8]
              rfl
            apply hne
            rw [List.getElem?_append_left hk]
            have := congrArg (fun l => l[k]?) ec
            rw [List.getElem?_take, if_pos hk] at this
            exact this
end Go.Proofs.Ytolnacokdjognaa
