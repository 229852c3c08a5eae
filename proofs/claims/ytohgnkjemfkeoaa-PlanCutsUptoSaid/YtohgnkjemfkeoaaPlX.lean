/- plan: the parts of an op, in plain words: together they are the op; done in any order they are as it. -/
import Derived.Test.YtohgnkjemfkeoaaPlW
set_option linter.unusedSimpArgs false
set_option linter.unusedVariables false
set_option linter.unnecessarySimpa false
set_option maxRecDepth 100000
namespace Go.Proofs.Ytohgnkjemfkeoaa
open Go.AM

theorem cut_kind (o : Op) (f k : Int) : (o.cut f k).kind = o.kind := by unfold Op.cut; split <;> simp_all
theorem cut_off (o : Op) (f k : Int) : (o.cut f k).off = f := by unfold Op.cut; split <;> rfl
theorem cut_right {o : Op} {n : Int} (ho : o.right n) {f t : Int} (h1 : o.range.1 ≤ f) (h2 : f < t) (h3 : t ≤ o.range.1 + o.range.2) : (o.cut f (t - f)).right n := by
  obtain ⟨n0, n1, r0, r1, r2⟩ := Op.range_right ho
  refine ⟨ho.1, ?_⟩
  unfold Op.cut
  rcases ho.2 with ⟨e, l, _, _⟩ | ⟨e, l, l1, l2, _⟩
  · left
    rw [Op.range2 e] at h1 h3 r0 r1 r2
    simp only at h1 h3 r0 r1 r2
    rw [if_neg (by omega)]
    refine ⟨e, rfl, by simp only; omega, ?_⟩
    unfold lies; simp only; omega
  · right
    rw [Op.range1 e] at h1 h3 r0 r1 r2
    simp only at h1 h3 r0 r1 r2
    rw [if_pos e]
    have hlen : ((o.data.drop (f - o.off).toNat).take (t - f).toNat).length = (t - f).toNat := by simp; omega
    refine ⟨rfl, rfl, by simp only [hlen]; omega, by simp only [hlen]; omega, ?_⟩
    unfold lies; simp only [hlen]; omega

/-- What has been put together so far. -/
def Op.upto (o : Op) (t : Int) : Op := ⟨o.kind, o.off, if o.kind = 2 then t - o.off else 0, if o.kind = 1 then o.data.take (t - o.off).toNat else []⟩
theorem upto_all {o : Op} {n : Int} (ho : o.right n) : o.upto (o.off + o.range.2) = o := by
  unfold Op.upto
  rcases ho.2 with ⟨e, l, _, _⟩ | ⟨e, l, l1, l2, _⟩
  · rw [Op.range2 e, if_pos e, if_neg (by omega)]
    have : o.data = [] := List.eq_nil_of_length_eq_zero l
    cases o; simp_all; omega
  · rw [Op.range1 e, if_neg (by omega), if_pos e]
    have e2 : (o.off + (o.data.length : Int) - o.off).toNat = o.data.length := by omega
    simp only [e2, List.take_length]
    cases o; simp_all

theorem wloop_parts {o : Op} {n : Int} (ho : o.right n) {ps : List Piece} (hc : chain 0 ps n) : ∀ (z : Nat) {a : Int}, z = (o.off + o.range.2 - a).toNat → o.off ≤ a → a ≤ o.off + o.range.2 →
    wloop (o.upto a, 1024 - (a - o.off)) (mkParts o.cut (segs 0 ps a (o.off + o.range.2))) = some (o, 1024 - o.range.2) := by
  have eo : o.range.1 = o.off := by rcases ho.2 with ⟨e, _⟩ | ⟨e, _⟩; rw [Op.range2 e]; rw [Op.range1 e]
  obtain ⟨n0, n1, r0, r1, r2⟩ := Op.range_right ho
  rw [eo] at r0 r2
  intro z
  induction z using Nat.strongRecOn with
  | ind z ih =>
    intro a hz h1 h2
    by_cases hab : a < o.off + o.range.2
    · obtain ⟨p, hp, hs⟩ := segs_step (b := o.off + o.range.2) 0 hc (a := a) (by omega) hab r2
      obtain ⟨q, k1, k2, k3, _⟩ := chain_idx hc (b := a) (by omega) (by omega)
      rw [hp] at k1; cases k1
      rw [hs]
      have hcr := cut_range ho (f := a) (t := min p.to (o.off + o.range.2)) (by omega) (by omega) (by omega)
      have hcR := cut_right ho (f := a) (t := min p.to (o.off + o.range.2)) (by omega) (by omega) (by omega)
      simp only [mkParts, List.map_cons]
      rw [wloop]
      have hcond : wcond (o.upto a, 1024 - (a - o.off)) (o.cut a (min p.to (o.off + o.range.2) - a)) := by
        refine ⟨?_, by rw [cut_kind]; rfl, by rw [cut_off]; omega, by rw [cut_off]; omega, by rw [cut_off]; simp [Op.upto]; omega, by rw [hcr]; simp only; omega, by rw [hcr]; simp only; omega⟩
        rcases hcR.2 with ⟨e, l, _⟩ | ⟨e, l, _⟩
        · exact .inr ⟨e, l⟩
        · exact .inl ⟨e, l⟩
      rw [wstep, if_pos hcond]
      simp only
      have est : (⟨(o.upto a).kind, (o.upto a).off, (o.upto a).len + (o.cut a (min p.to (o.off + o.range.2) - a)).len, (o.upto a).data ++ (o.cut a (min p.to (o.off + o.range.2) - a)).data⟩ : Op) = o.upto (min p.to (o.off + o.range.2)) := by
        unfold Op.upto Op.cut
        rcases ho.2 with ⟨e, l, _, _⟩ | ⟨e, l, l1, l2, _⟩
        · simp [e]; omega
        · have e2 : (min p.to (o.off + o.range.2) - o.off).toNat = (a - o.off).toNat + (min p.to (o.off + o.range.2) - a).toNat := by omega
          simp [e, e2, List.take_add]
      rw [est, hcr]
      have := ih _ (by omega) rfl (a := min p.to (o.off + o.range.2)) (by omega) (by omega)
      rw [show 1024 - (a - o.off) - (a, min p.to (o.off + o.range.2) - a).2 = 1024 - (min p.to (o.off + o.range.2) - o.off) by simp only; omega]
      exact this
    · have : a = o.off + o.range.2 := by omega
      subst this
      rw [segs_nil _ _ (Int.le_refl _)]
      simp only [mkParts, List.map_nil, wloop]
      rw [upto_all ho]
      congr 2; omega

theorem whole_parts {m : SMap} {o : Op} (hr : m.right) (ho : o.right m.n) : whole (m.parts o) = (o, 0) := by
  have eo : o.range.1 = o.off := by rcases ho.2 with ⟨e, _⟩ | ⟨e, _⟩; rw [Op.range2 e]; rw [Op.range1 e]
  obtain ⟨n0, n1, r0, r1, r2⟩ := Op.range_right ho
  have hw := wloop_parts ho hr.2 _ rfl (a := o.off) (Int.le_refl _) (by omega)
  obtain ⟨p, hp, hs⟩ := segs_step (b := o.off + o.range.2) 0 hr.2 (a := o.off) (by omega) (by omega) (by omega)
  unfold SMap.parts
  rw [eo]
  rw [hs] at hw ⊢
  simp only [mkParts, List.map_cons] at hw ⊢
  rw [whole]
  have e0 : o.upto o.off = ⟨o.kind, o.off, 0, []⟩ := by unfold Op.upto; simp
  rw [e0, show 1024 - (o.off - o.off) = 1024 by omega] at hw
  simp only [cut_kind, cut_off]
  rw [hw]

/-! Done in any order. -/
def Op.at_ (o : Op) (j : Nat) : Prop := o.off.toNat ≤ j ∧ j < o.off.toNat + o.range.2.toNat
instance (o : Op) (j : Nat) : Decidable (o.at_ j) := inferInstanceAs (Decidable (_ ∧ _))
theorem app_get (o : Op) (xs : List Nat) (j : Nat) : (o.app xs)[j]? = (xs[j]?).map fun x => if o.at_ j then o.val j else x := paint_get _ _ _ _ _

/-- What a part writes is what the op writes. -/
theorem cut_val {o : Op} {n : Int} (ho : o.right n) {f t : Int} (h1 : o.range.1 ≤ f) (h2 : f < t) (h3 : t ≤ o.range.1 + o.range.2) {j : Nat} (hj : (o.cut f (t - f)).at_ j) : (o.cut f (t - f)).val j = o.val j := by
  have hcr := cut_range ho h1 h2 h3
  obtain ⟨n0, n1, r0, r1, r2⟩ := Op.range_right ho
  unfold Op.at_ at hj
  rw [hcr, cut_off] at hj
  unfold Op.val
  rw [cut_kind, cut_off]
  split
  · rename_i e
    rw [Op.range1 e] at h1 h3 r0
    simp only at h1 h3 r0 hj
    unfold Op.cut
    rw [if_pos e]
    simp only [List.getD_eq_getElem?_getD]
    rw [List.getElem?_take, if_pos (by omega), List.getElem?_drop]
    congr 2; omega
  · rfl

/-- The parts from a turn on, so many of them. -/
def turned (P : List Part) (T : Nat) (v : List Nat) : Nat → List Nat
  | 0 => v
  | i + 1 => ((P.getD ((i + T) % P.length) ⟨0, 0, op0⟩).op).app (turned P T v i)
theorem turned_len (P : List Part) (T : Nat) (v : List Nat) : ∀ i, (turned P T v i).length = v.length
  | 0 => rfl
  | i + 1 => by rw [turned, app_len, turned_len P T v i]

theorem turned_get {m : SMap} {o : Op} (hr : m.right) (ho : o.right m.n) {T : Nat} {v : List Nat} : ∀ (i j : Nat), i ≤ (m.parts o).length →
    (turned (m.parts o) T v i)[j]? = (v[j]?).map fun x => if ∃ k, k < i ∧ ((m.parts o).getD ((k + T) % (m.parts o).length) ⟨0, 0, op0⟩).op.at_ j then o.val j else x
  | 0, j, _ => by simp [turned]
  | i + 1, j, hi => by
    rw [turned, app_get, turned_get hr ho i j (by omega)]
    cases v[j]? with
    | none => rfl
    | some x =>
      simp only [Option.map_some]
      congr 1
      have hlt : (i + T) % (m.parts o).length < (m.parts o).length := Nat.mod_lt _ (by omega)
      have hq := List.getElem?_eq_getElem hlt
      obtain ⟨ii, p, f, t, _, _, _, _, p5, _, p7, _, _, _, _, p12, p13⟩ := part_is hr ho hq
      have hg : (m.parts o).getD ((i + T) % (m.parts o).length) ⟨0, 0, op0⟩ = (m.parts o)[(i + T) % (m.parts o).length] := by rw [List.getD_eq_getElem?_getD, hq]; rfl
      by_cases ha : ((m.parts o).getD ((i + T) % (m.parts o).length) ⟨0, 0, op0⟩).op.at_ j
      · rw [if_pos ha, if_pos ⟨i, by omega, ha⟩]
        rw [hg, p7] at ha ⊢
        exact cut_val ho p12 p5 p13 ha
      · rw [if_neg ha]
        by_cases hk : ∃ k, k < i ∧ ((m.parts o).getD ((k + T) % (m.parts o).length) ⟨0, 0, op0⟩).op.at_ j
        · obtain ⟨k, h1, h2⟩ := hk
          rw [if_pos ⟨k, h1, h2⟩, if_pos ⟨k, by omega, h2⟩]
        · rw [if_neg hk, if_neg]
          rintro ⟨k, h1, h2⟩
          rcases Nat.lt_or_ge k i with h3 | h3
          · exact hk ⟨k, h3, h2⟩
          · have : k = i := by omega
            subst this; exact ha h2

theorem segs_cover : ∀ {ps : List Piece} {c n a b x : Int} (k : Nat), chain c ps n → c ≤ x → x < n → a ≤ x → x < b → ∃ s ∈ segs k ps a b, s.2.2.1 ≤ x ∧ x < s.2.2.2
  | [], c, n, a, b, x, k, h, h1, h2, _, _ => by simp only [chain] at h; omega
  | p :: ps, c, n, a, b, x, k, h, h1, h2, h3, h4 => by
    obtain ⟨k1, k2, k3, k4⟩ := h
    rw [segs]
    by_cases hx : x < p.to
    · rw [if_pos (by omega)]
      exact ⟨_, List.mem_cons_self, by simp only; omega, by simp only; omega⟩
    · obtain ⟨s, l1, l2⟩ := segs_cover (k + 1) k4 (x := x) (by omega) h2 h3 h4
      split
      · exact ⟨s, List.mem_cons_of_mem _ l1, l2⟩
      · exact ⟨s, l1, l2⟩

theorem turned_all {m : SMap} {o : Op} (hr : m.right) (ho : o.right m.n) {T : Nat} {v : List Nat} (hv : (v.length : Int) = m.n) (hT : T < (m.parts o).length) : turned (m.parts o) T v (m.parts o).length = o.app v := by
  have eo : o.range.1 = o.off := by rcases ho.2 with ⟨e, _⟩ | ⟨e, _⟩; rw [Op.range2 e]; rw [Op.range1 e]
  obtain ⟨n0, n1, r0, r1, r2⟩ := Op.range_right ho
  rw [eo] at r0 r2
  apply List.ext_getElem?
  intro j
  rw [turned_get hr ho _ j (Nat.le_refl _), app_get]
  cases hj : v[j]? with
  | none => rfl
  | some x =>
    simp only [Option.map_some]
    congr 1
    have hjl := (List.getElem?_eq_some_iff.1 hj).1
    have key : (∃ k, k < (m.parts o).length ∧ ((m.parts o).getD ((k + T) % (m.parts o).length) ⟨0, 0, op0⟩).op.at_ j) ↔ o.at_ j := by
      constructor
      · rintro ⟨k, _, h2⟩
        have hlt : (k + T) % (m.parts o).length < (m.parts o).length := Nat.mod_lt _ (by omega)
        have hq := List.getElem?_eq_getElem hlt
        obtain ⟨ii, p, f, t, _, _, _, _, p5, _, p7, p8, _, _, _, p12, p13⟩ := part_is hr ho hq
        rw [List.getD_eq_getElem?_getD, hq] at h2
        simp only [Option.getD_some] at h2
        unfold Op.at_ at h2 ⊢
        rw [p8, p7, cut_off] at h2
        simp only at h2
        omega
      · intro ha
        unfold Op.at_ at ha
        obtain ⟨s, s1, s2, s3⟩ := segs_cover (a := o.range.1) (b := o.range.1 + o.range.2) (x := j) 0 hr.2 (by omega) (by omega) (by omega) (by omega)
        obtain ⟨q, hq⟩ := List.getElem_of_mem s1
        obtain ⟨hq1, hq2⟩ := hq
        have hlen : (m.parts o).length = (segs 0 m.ps o.range.1 (o.range.1 + o.range.2)).length := by simp [SMap.parts, mkParts]
        have hp : (m.parts o)[q]? = some ⟨s.1, s.2.1, o.cut s.2.2.1 (s.2.2.2 - s.2.2.1)⟩ := by
          unfold SMap.parts mkParts; rw [List.getElem?_map, List.getElem?_eq_getElem hq1, hq2]; rfl
        obtain ⟨ii, p, f, t, _, _, _, _, p5, _, p7, p8, _, _, _, p12, p13⟩ := part_is hr ho hp
        have hf : s.2.2.1 = f := by have := congrArg Op.off p7; simpa [cut_off] using this
        have ht : s.2.2.2 = t := by
          obtain ⟨_, _, _, _, g1, g2, g3⟩ := segs_mem s1
          have := cut_range ho (f := s.2.2.1) (t := s.2.2.2) (by omega) (by omega) (by omega)
          simp only at p8
          rw [this] at p8
          have := congrArg Prod.snd p8
          simp only at this; omega
        refine ⟨(q + ((m.parts o).length - T)) % (m.parts o).length, Nat.mod_lt _ (by omega), ?_⟩
        have em : ((q + ((m.parts o).length - T)) % (m.parts o).length + T) % (m.parts o).length = q := by
          rw [Nat.mod_add_mod, show q + ((m.parts o).length - T) + T = q + (m.parts o).length by omega, Nat.add_mod_right, Nat.mod_eq_of_lt (by omega)]
        rw [em, List.getD_eq_getElem?_getD, hp]
        simp only [Option.getD_some]
        unfold Op.at_
        simp only at p7 p8
        rw [p8, p7, cut_off]
        simp only
        omega
    by_cases ha : o.at_ j
    · rw [if_pos ha, if_pos (key.2 ha)]
    · rw [if_neg ha, if_neg (fun e => ha (key.1 e))]
end Go.Proofs.Ytohgnkjemfkeoaa
