/- plan: the op that parts are together. -/
import Derived.Test.YtohgnkjemfkeoaaPlK
set_option linter.unusedSimpArgs false
set_option linter.unusedVariables false
set_option linter.unnecessarySimpa false
set_option maxRecDepth 100000
namespace Go.Proofs.Ytohgnkjemfkeoaa
open Go.AM

abbrev op0 : Op := ⟨0, 0, 0, []⟩
def wcond (st : Op × Int) (x : Op) : Prop :=
  ((x.kind = 1 ∧ x.len = 0) ∨ (x.kind = 2 ∧ x.data.length = 0)) ∧ x.kind = st.1.kind ∧ 0 ≤ x.off ∧ x.off ≤ 1024 ∧ x.off - st.1.off = 1024 - st.2 ∧ 1 ≤ x.range.2 ∧ x.range.2 ≤ st.2
instance (st : Op × Int) (x : Op) : Decidable (wcond st x) := inferInstanceAs (Decidable (_ ∧ _))
def wstep (st : Op × Int) (x : Op) : Option (Op × Int) :=
  if wcond st x then some (⟨st.1.kind, st.1.off, st.1.len + x.len, st.1.data ++ x.data⟩, st.2 - x.range.2) else none
def wloop : Op × Int → List Part → Option (Op × Int)
  | st, [] => some st
  | st, p :: ps => match wstep st p.op with | some st' => wloop st' ps | none => none
def whole : List Part → Op × Int
  | [] => (op0, 9)
  | p :: ps => match wloop (⟨p.op.kind, p.op.off, 0, []⟩, 1024) (p :: ps) with | some st => (st.1, 0) | none => (op0, 5)

section
variable {h : AHeap} {S : Nat → Prop}

theorem Whole_ok {ps : List Part} {v : Value} (hx : IsSl rPart S h ps v) : Does Try.prog 14 #[v] h
      (fun u h' => h.quiet h' ∧ ∃ d, u = .tuple #[opV (whole ps).1 d, .int .i64 (whole ps).2] ∧ OwnSl .u64 (h.next ≤ ·) h' (whole ps).1.data d) := by
  replace hx := hx.bound
  obtain ⟨a, c, rfl⟩ := hx.shape
  have hl := hx.len
  refine spec_go mixed Try.func14 rfl Try.results14 (n := Try.f14.ntmps) (by kernel_rfl) (by simp) ?_
  simp only [go_sem, simprocAttr]
  by_cases hl0 : ps = []
  · subst hl0
    simp only [go_sem, simprocAttr, List.length_nil]
    exact ⟨_, rfl, OwnSl.nil _ _ _⟩
  · have hpos : 0 < ps.length := List.length_pos_iff.2 hl0
    have hpos' : ¬ ((ps.length : Int) = 0) := by omega
    obtain ⟨b, off, sp, cc, md, p0, d0, rfl, hSb, hg, hpi, hx1, hx2, hxo, hxd, hle, hdt, _, f0, f1, f2, f3, f4, f5⟩ := hx.atPart hpos
    have hb1 : b < h.next := hSb.2
    have hw : whole ps = match wloop (⟨p0.op.kind, p0.op.off, 0, []⟩, 1024) ps with | some st => (st.1, 0) | none => (op0, 5) := by
      cases ps with
      | nil => cases hl0 rfl
      | cons q ps => simp at hpi; subst hpi; rfl
    have hposI : (0 : Int) < ps.length := by omega
    simp only [Nat.zero_mul, Nat.add_zero] at f2 f3
    simp only [go_sem, simprocAttr, hpos', decide_false, AHeap.get_push_lt _ _ hb1, hg, hposI, f2, f3]
    refine go_gen fun H eH => ?_
    have qH : h.quiet H := by rw [eH]; simp only [go_sem, simprocAttr]
    have nH : H.next = h.next + 1 + 1 := by rw [eH]; simp
    have gR : H.get h.next = .cells [.int .i64 0, .int .i64 0, .int .i64 0, .slice none 0 0] .rw := by rw [eH]; simp only [go_sem, simprocAttr]
    have gO : H.get (h.next + 1) = .cells [.int .i64 p0.op.kind, .int .i64 p0.op.off, .int .i64 0, .slice none 0 0] .rw := by rw [eH]; simp only [go_sem, simprocAttr]
    clear eH
    refine go_loop (fun z ρ k => ∃ (i : Nat) (len left : Int) (data : List Nat) (u : Value), i ≤ ps.length ∧ z = ps.length - i ∧ h.quiet k ∧ H.next ≤ k.next ∧ k.get h.next = .cells [.int .i64 0, .int .i64 0, .int .i64 0, .slice none 0 0] .rw ∧
      k.get (h.next + 1) = .cells [.int .i64 p0.op.kind, .int .i64 p0.op.off, .int .i64 len, u] .rw ∧ Lst rW H.next (fun _ => False) k data u ∧
      whole ps = (match wloop (⟨p0.op.kind, p0.op.off, len, data⟩, left) (ps.drop i) with | some st => (st.1, 0) | none => (op0, 5)) ∧
      0 ≤ left ∧ left ≤ 1024 ∧ 0 ≤ len ∧ len ≤ 1024 - left ∧ (data.length : Int) ≤ 1024 - left ∧ (0 < i → 0 ≤ p0.op.off ∧ p0.op.off ≤ 1024) ∧ (i = 0 → left = 1024) ∧
      ρ 2 = .pointer (some ⟨h.next, 0, none⟩) ∧ ρ 4 = .pointer (some ⟨h.next + 1, 0, none⟩) ∧ ρ 5 = .int .i64 left ∧ ρ 27 = .slice (some ⟨b, off, sp⟩) ps.length c ∧ ρ 28 = .int .i64 ps.length ∧ ρ 29 = .int .i64 i) ps.length
      ⟨0, 0, 1024, [], _, by omega, by omega, qH, Nat.le_refl _, gR, gO, .nil _ _ _ _, by rw [List.drop_zero]; exact hw, by omega, by omega, by omega, by omega, by simp, by omega, by omega, by simp only [go_sem, simprocAttr]⟩ ?_
    rintro z ρ k ⟨i, len, left, data, u, hi, rfl, qk, nk, gRk, gOk, hlu, hwk, i1, i2, i3, i4, i5, i6, i7, r2, r4, r5, r27, r28, r29⟩
    simp only [go_sem, simprocAttr, r2, r4, r5, r27, r28, r29]
    refine cnd_decide (fun hx' => ?_) (fun hx' => ?_)
    · have h1 : i < ps.length := by omega
      obtain ⟨b', off', sp', cc', md', p, d, e', hSb', hg', hpi', hx1', hx2', hxo', hxd', hle', hdt', _⟩ := (hx.quiet qk).atPart h1
      cases e'
      obtain ⟨ax, cx, rfl⟩ := hxd'.shape
      have hdl := hxd'.len
      have e9 : IntKind.i64.wrap ((i : Int) + 1) = ((i + 1 : Nat) : Int) := by rw [wi64] <;> omega
      simp only [go_sem, simprocAttr, r2, r4, r5, r27, r28, r29, h1, hg', hle', hdt']
      refine cl_gen fun K eK => ?_
      have qK : k.quiet K := by rw [eK]; simp only [go_sem, simprocAttr]
      have nK : K.next = k.next + 1 + 1 := by rw [eK]; simp
      have gX : K.get (k.next + 1) = .cells [.int .i64 p.op.kind, .int .i64 p.op.off, .int .i64 p.op.len, .slice ax p.op.data.length cx] .rw := by rw [eK]; simp only [go_sem, simprocAttr]
      clear eK
      refine cl_spec (Range_ok (o := p.op) (hxd'.quiet qK)) (fun _ _ _ hc => absurd hc (by decide +kernel)) ?_
      rintro u2 k2 ⟨rfl, q2⟩
      have Q2 := qK.trans q2
      have gX2 := (q2.2 _ (by omega)).trans gX
      have gO2 := (Q2.2 _ (by omega)).trans gOk
      have gR2 := (Q2.2 _ (by omega)).trans gRk
      have lR2 : h.next < k2.next := AHeap.lt_of_alive k2 (by rw [gR2]; simp)
      have lO2 : h.next + 1 < k2.next := AHeap.lt_of_alive k2 (by rw [gO2]; simp)
      rw [drop_cons hpi', wloop] at hwk
      have fail : ¬ wcond (⟨p0.op.kind, p0.op.off, len, data⟩, left) p.op → whole ps = (op0, 5) := fun hc => by rw [hwk, wstep, if_neg hc]
      have e3 : 0 ≤ p.op.off → p.op.off ≤ 1024 → p.op.kind = p0.op.kind → IntKind.i64.wrap (p.op.off - p0.op.off) = p.op.off - p0.op.off := fun a1 a2 _ => by
        rcases Nat.eq_zero_or_pos i with e0 | e0
        · subst e0; rw [hpi] at hpi'; cases hpi'; rw [wi64] <;> omega
        · have := i6 e0; rw [wi64] <;> omega
      have e4 : IntKind.i64.wrap (1024 - left) = 1024 - left := by rw [wi64] <;> omega
      have getR : ∀ o', (k2.set h.next o').get h.next = o' := fun o' => AHeap.get_set_self _ _ lR2
      by_cases hc : wcond (⟨p0.op.kind, p0.op.off, len, data⟩, left) p.op
      · have hs : wstep (⟨p0.op.kind, p0.op.off, len, data⟩, left) p.op = some (⟨p0.op.kind, p0.op.off, len + p.op.len, data ++ p.op.data⟩, left - p.op.range.2) := if_pos hc
        rw [hs] at hwk
        obtain ⟨hpure, hkind, ho1, ho2, hdiff, hn1, hn2⟩ := hc
        simp only at hkind hdiff hn2
        have e3' := e3 ho1 ho2 hkind
        have c1 : ¬ (p.op.off < 0) := by omega
        have c2 : ¬ (1024 < p.op.off) := by omega
        have c3 : ¬ (p.op.range.2 < 1) := by omega
        have c4 : ¬ (left < p.op.range.2) := by omega
        have e5 : IntKind.i64.wrap (left - p.op.range.2) = left - p.op.range.2 := by rw [wi64] <;> omega
        have hdata : (p.op.data.length : Int) ≤ p.op.range.2 := by
          rcases hpure with ⟨k1, k2⟩ | ⟨k1, k2⟩
          · rw [Op.range1 k1]; exact Int.le_refl _
          · omega
        have hlen : 0 ≤ p.op.len ∧ p.op.len ≤ p.op.range.2 := by
          rcases hpure with ⟨k1, k2⟩ | ⟨k1, k2⟩
          · omega
          · rw [Op.range2 k1] at hn1 ⊢; simp only at hn1 ⊢; omega
        have e6 : IntKind.i64.wrap (len + p.op.len) = len + p.op.len := by rw [wi64] <;> omega
        have gO3 : k2.get (h.next + 1) = .cells [.int .i64 p0.op.kind, .int .i64 p0.op.off, .int .i64 len, u] .rw := gO2
        obtain ⟨u4, k4, e7, hl4, hf4, _⟩ := (hlu.quiet Q2).app (ys := p.op.data) 1 rfl (bytes := 8) (n := p.op.data.length) (nat_all2 (fun n hn => by have := hxd'.vals rfl n hn; exact this)) rfl (by omega) (by omega) (by have := Q2.1; omega)
        rw [nat_flat] at e7
        obtain ⟨a4, cc4, rfl, _⟩ := hl4.len
        have f4O : k4.get (h.next + 1) = _ := (hf4.2 _ lO2 (fun e => by have := (hlu.blk_ge e).1; omega)).trans gO3
        have f4X : k4.get (k.next + 1) = _ := (hf4.2 _ (AHeap.lt_of_alive k2 (by rw [gX2]; simp)) (fun e => by have := (hlu.blk_ge e).2; omega)).trans gX2
        have l4O : h.next + 1 < k4.next := AHeap.lt_of_alive k4 (by rw [f4O]; simp)
        have f4R : k4.get h.next = _ := (hf4.2 _ lR2 (fun e => by have := (hlu.blk_ge e).1; omega)).trans gR2
        have s4 : ∀ o', (k4.set (h.next + 1) o').get (k.next + 1) = _ := fun o' => (AHeap.get_set_ne _ _ (by omega)).trans f4X
        generalize eK : k4.set (h.next + 1) (.cells [.int .i64 p0.op.kind, .int .i64 p0.op.off, .int .i64 (len + p.op.len), .slice a4 (data ++ p.op.data).length cc4] .rw) = K
        have F1 : h.quiet K := by rw [← eK]; exact (Fw.behind (qk.trans Q2) hf4 (fun j e => by have := (hlu.blk_ge e).1; omega)).set' (by omega) _
        have F2 : H.next ≤ K.next := by rw [← eK]; have := hf4.1; have := Q2.1; simp; omega
        have F3 : K.get h.next = .cells [.int .i64 0, .int .i64 0, .int .i64 0, .slice none 0 0] .rw := by rw [← eK, AHeap.get_set_ne _ _ (by omega)]; exact f4R
        have F4 : K.get (h.next + 1) = .cells [.int .i64 p0.op.kind, .int .i64 p0.op.off, .int .i64 (len + p.op.len), .slice a4 (data ++ p.op.data).length cc4] .rw := by rw [← eK]; exact AHeap.get_set_self _ _ l4O
        have F5 : Lst rW H.next (fun _ => False) K (data ++ p.op.data) (.slice a4 (data ++ p.op.data).length cc4) := by
          rw [← eK]; exact hl4.mono (Nat.le_refl _) (by simp) (fun _ e _ _ => e.elim) (fun j hj _ => AHeap.get_set_ne _ _ (by have := (hl4.blk_ge hj).1; omega))
        have F6 : 0 < i + 1 → 0 ≤ p0.op.off ∧ p0.op.off ≤ 1024 := fun _ => by
          rcases Nat.eq_zero_or_pos i with e0 | e0
          · have := i7 e0; omega
          · exact i6 e0
        rcases hpure with ⟨k1, k2⟩ | ⟨k1, k2⟩
        · rw [Op.range1 k1] at c3 c4 e5 hwk hn1 hn2 hdata hlen
          simp only at c3 c4 e5 hwk hn1 hn2 hdata hlen
          have hk2 : ((1 : Int) = p0.op.kind) = True := eq_true (by omega)
          rw [k2] at e6 eK F4 hwk
          simp only [go_sem, simprocAttr, r2, r4, r5, r27, r28, r29, gX2, gO2, k1, k2, hk2, e3', e4, hdiff, c1, c2, c3, c4, decide_false, decide_true, Op.range1 k1, e5, (hxd'.quiet Q2).acellsN, e7, f4O, f4X, s4, AHeap.get_set_self _ _ l4O, AHeap.set_set, e6, e9, eK]
          exact Hold.mk ⟨ps.length - (i + 1), by omega, i + 1, len + 0, left - p.op.data.length, data ++ p.op.data, _, by omega, rfl, F1, F2, F3, F4, F5, hwk, by omega, by omega, by omega, by omega, by rw [List.length_append]; omega, F6, by omega, by simp only [go_sem, simprocAttr, r2, r4, r27, r28]⟩
        · rw [Op.range2 k1] at c3 c4 e5 hwk hn1 hn2 hdata hlen
          simp only at c3 c4 e5 hwk hn1 hn2 hdata hlen
          have hk2 : ((2 : Int) = p0.op.kind) = True := eq_true (by omega)
          have k2' : ((p.op.data.length : Nat) : Int) = 0 := by omega
          simp only [go_sem, simprocAttr, r2, r4, r5, r27, r28, r29, gX2, gO2, k1, k2', hk2, e3', e4, hdiff, c1, c2, c3, c4, decide_false, decide_true, Op.range2 k1, e5, (hxd'.quiet Q2).acellsN, e7, f4O, f4X, s4, AHeap.get_set_self _ _ l4O, AHeap.set_set, e6, e9, eK]
          exact Hold.mk ⟨ps.length - (i + 1), by omega, i + 1, len + p.op.len, left - p.op.len, data ++ p.op.data, _, by omega, rfl, F1, F2, F3, F4, F5, hwk, by omega, by omega, by omega, by omega, by rw [List.length_append]; omega, F6, by omega, by simp only [go_sem, simprocAttr, r2, r4, r27, r28]⟩
      · by_cases k1 : p.op.kind = 1
        · simp only [go_sem, simprocAttr, r2, r4, r5, r27, r28, r29, gX2, k1, Op.range1 k1]
          repeat' (first | (refine gd_split (fun hb => ?_) (fun hb => ?_) <;> simp only [go_sem, simprocAttr, dec_t, dec_f, Bool.not_eq_true', Bool.not_eq_false', Bool.and_eq_true] at hb <;> simp only [go_sem, simprocAttr, r2, r4, r5, r27, r28, r29, gX2, gO2, k1, e4, gR2, getR, hb]) | (refine cnd_split (fun hb => ?_) (fun hb => ?_) <;> simp only [go_sem, simprocAttr, dec_t, dec_f, Bool.not_eq_true', Bool.not_eq_false', Bool.and_eq_true] at hb <;> simp only [go_sem, simprocAttr, r2, r4, r5, r27, r28, r29, gX2, gO2, k1, e4, gR2, getR, hb]))
          all_goals first | (rw [fail hc]; exact ⟨(qk.trans Q2).set' (Nat.le_refl _) _, _, rfl, OwnSl.nil _ _ _⟩) | (exfalso; apply hc; unfold wcond; have := e3 (by omega) (by omega) (by omega); rw [Op.range1 k1]; simp only; omega)
        · by_cases k2' : p.op.kind = 2
          · simp only [go_sem, simprocAttr, r2, r4, r5, r27, r28, r29, gX2, k2', Op.range2 k2']
            repeat' (first | (refine gd_split (fun hb => ?_) (fun hb => ?_) <;> simp only [go_sem, simprocAttr, dec_t, dec_f, Bool.not_eq_true', Bool.not_eq_false', Bool.and_eq_true] at hb <;> simp only [go_sem, simprocAttr, r2, r4, r5, r27, r28, r29, gX2, gO2, k2', e4, gR2, getR, hb]) | (refine cnd_split (fun hb => ?_) (fun hb => ?_) <;> simp only [go_sem, simprocAttr, dec_t, dec_f, Bool.not_eq_true', Bool.not_eq_false', Bool.and_eq_true] at hb <;> simp only [go_sem, simprocAttr, r2, r4, r5, r27, r28, r29, gX2, gO2, k2', e4, gR2, getR, hb]))
            all_goals first | (rw [fail hc]; exact ⟨(qk.trans Q2).set' (Nat.le_refl _) _, _, rfl, OwnSl.nil _ _ _⟩) | (exfalso; apply hc; unfold wcond; have := e3 (by omega) (by omega) (by omega); rw [Op.range2 k2']; simp only; omega)
          · simp only [go_sem, simprocAttr, r2, r4, r5, r27, r28, r29, gX2, gO2, k1, k2', gR2, getR]
            all_goals (rw [fail hc]; exact ⟨(qk.trans Q2).set' (Nat.le_refl _) _, _, rfl, OwnSl.nil _ _ _⟩)
    · have : i = ps.length := by omega
      subst this
      rw [List.drop_length, wloop] at hwk
      have lR : h.next < k.next := AHeap.lt_of_alive k (by rw [gRk]; simp)
      have hown := hlu.own (S := (H.next ≤ ·)) (fun j hj => hj)
      obtain ⟨au, eu⟩ := hown.shape
      subst eu
      simp only [go_sem, simprocAttr, r2, r4, gOk, gRk, AHeap.get_set_self _ _ lR]
      rw [hwk]
      exact ⟨qk.set' (Nat.le_refl _) _, _, rfl, hown.mono fun j hj _ => ⟨by omega, AHeap.get_set_ne _ _ (by omega)⟩⟩
end
end Go.Proofs.Ytohgnkjemfkeoaa
