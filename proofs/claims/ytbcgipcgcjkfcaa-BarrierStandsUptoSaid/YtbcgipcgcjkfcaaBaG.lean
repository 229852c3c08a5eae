/- barrier: the program's coordinator: what it hears. -/
import Derived.Test.YtbcgipcgcjkfcaaBaF
set_option linter.unusedSimpArgs false
set_option linter.unusedVariables false
set_option linter.unnecessarySimpa false
set_option maxRecDepth 100000
namespace Go.Proofs.Ytbcgipcgcjkfcaa
open Go.AM

def rOrd : Rep (Int × Int × Int) := Rep.pair rI (.pair rI rI)
theorem rOrd_iff {S : Nat → Prop} {h : AHeap} {x : Int × Int × Int} {cs : List Value} : rOrd.R S h x cs ↔ cs = [.int .i64 x.1, .int .i64 x.2.1, .int .i64 x.2.2] ∧ inI x.1 ∧ inI x.2.1 ∧ inI x.2.2 := by
  constructor
  · rintro ⟨c1, c2, rfl, ⟨rfl, h1⟩, c3, c4, rfl, ⟨rfl, h2⟩, ⟨rfl, h3⟩⟩
    exact ⟨rfl, inI_iff.2 h1, inI_iff.2 h2, inI_iff.2 h3⟩
  · rintro ⟨rfl, h1, h2, h3⟩
    exact ⟨[_], [_, _], rfl, ⟨rfl, inI_iff.1 h1⟩, [_], [_], rfl, ⟨rfl, inI_iff.1 h2⟩, ⟨rfl, inI_iff.1 h3⟩⟩

section
variable {h : AHeap} {S Z : Nat → Prop}

theorem without_ok {xs : List Int} {v : Value} {x : Int} (hx : IsSl rI S h xs v) (hl : xs.length ≤ 1099511627776) : Does Try.prog 41 #[v, .int .i64 x] h
    (fun u h' => OwnL rI (h.next ≤ ·) h' (xs.filter (· ≠ x)) u ∧ h.quiet h') := by
  obtain ⟨a, c, rfl⟩ := hx.shape
  have hlen := hx.len
  refine spec_go mixed Try.func41 rfl Try.results41 (n := Try.f41.ntmps) (by kernel_rfl) (by simp) ?_
  simp only [go_sem, simprocAttr]
  refine go_loop (fun z ρ k => ∃ (i : Nat) (w : Value), i ≤ xs.length ∧ z = xs.length - i ∧ OwnL rI (h.next ≤ ·) k ((xs.take i).filter (· ≠ x)) w ∧ h.quiet k ∧
    ρ 1 = .int .i64 x ∧ ρ 5 = w ∧ ρ 8 = .slice a xs.length c ∧ ρ 9 = .int .i64 xs.length ∧ ρ 10 = .int .i64 i) xs.length ⟨0, _, by omega, by omega, .nil _ _ _, .refl _, by simp only [go_sem, simprocAttr]⟩ ?_
  rintro z ρ k ⟨i, w, hi, rfl, hw, q, r1, r5, r8, r9, r10⟩
  simp only [go_sem, simprocAttr, r1, r5, r8, r9, r10]
  refine cnd_decide (fun hb => ?_) (fun hb => ?_)
  · have h1 : i < xs.length := by omega
    have e9 : IntKind.i64.wrap ((i : Int) + 1) = ((i + 1 : Nat) : Int) := by rw [wi64] <;> omega
    obtain ⟨b, off, sp, cc, md, y, rfl, hbs, hg, hyi, hy, hcc⟩ := (hx.quiet q).atI h1
    have et : xs.take (i + 1) = xs.take i ++ [y] := by rw [List.take_add_one, hyi]; rfl
    have hl2 : ((xs.take i).filter (· ≠ x)).length ≤ xs.length := Nat.le_trans (List.length_filter_le _ _) (by rw [List.length_take]; omega)
    simp only [go_sem, simprocAttr, r1, r5, r8, r9, r10, h1, hg, hcc]
    by_cases e : y = x
    · have e1 : (y = x) = True := eq_true e
      simp only [go_sem, simprocAttr, e1, r1, r5, r8, r9, r10, e9]
      refine Hold.mk ⟨xs.length - (i + 1), by omega, i + 1, w, by omega, rfl, ?_, q, by simp only [go_sem, simprocAttr, r1, r5, r8, r9]⟩
      rw [et, List.filter_append]; simpa [e] using hw
    · have e1 : (y = x) = False := eq_false e
      obtain ⟨w', k', e2, hw', f', hn', a2, n2, c2, rfl⟩ := hw.app2 (bytes := 8) (y := y) (cs := [.int .i64 y]) 1 rfl (fun _ => ⟨rfl, hy⟩) (by omega) (by omega)
      simp only [go_sem, simprocAttr, e1, r1, r5, r8, r9, r10, e9, e2]
      refine Hold.mk ⟨xs.length - (i + 1), by omega, i + 1, .slice a2 n2 c2, by omega, rfl, ?_, Fw.behind q f' (fun j e => hw.2 j e), by simp only [go_sem, simprocAttr, r1, r5, r8, r9]⟩
      rw [et, List.filter_append]
      have : [y].filter (· ≠ x) = [y] := by simp [e]
      rw [this]
      exact ⟨hw'.1, fun j hj => (hw'.2 j hj).elim id fun e => Nat.le_trans q.1 e⟩
  · simp only [go_sem, simprocAttr, r5]
    have hi' : i = xs.length := by omega
    subst hi'
    rw [List.take_length] at hw
    exact ⟨hw, q⟩

theorem cStep_ok {id : Nat} {c : Co} (ha : CoAt Z h id c) : Does Try.prog 16 #[.pointer (some ⟨id, 0, none⟩)] h
    (fun u h' => OwnL rOrd (h.next ≤ ·) h' c.step u ∧ h.quiet h') := by
  refine spec_go mixed Try.func16 rfl Try.results16 (n := Try.f16.ntmps) (by kernel_rfl) (by simp) ?_
  simp only [go_sem, simprocAttr]
  refine cl_spec (cok_ok ha) (fun _ _ _ hc => absurd hc (by decide +kernel)) ?_
  rintro u k ⟨rfl, rfl⟩
  have ha0 := ha
  obtain ⟨hz, hgd, v, r, es, ck, hg, ho, hne, hr, hgr, hms⟩ := ha
  have hlt := ha0.lt
  obtain ⟨n1, n2, p1, p2, hid, hop, hpa⟩ := hgd
  unfold Co.step
  simp only [go_sem, simprocAttr, hg, coC]
  by_cases h1 : c.ph = 0
  · have e1 : (c.ph = 0) = True := eq_true h1
    rw [if_pos h1]
    simp only [go_sem, simprocAttr, e1]
    exact .nil _ _ _
  have e1 : (c.ph = 0) = False := eq_false h1
  rw [if_neg h1]
  obtain ⟨a, cap, rfl⟩ := ho.sl.shape
  have hlen := ho.sl.len
  simp only [go_sem, simprocAttr, e1, hg, coC]
  refine go_loop (fun z ρ k' => ∃ (i : Nat) (w : Value), i ≤ c.op.length ∧ z = c.op.length - i ∧ OwnL rOrd (k.next ≤ ·) k' ((c.op.take i).map fun i => (i, c.ph, c.id)) w ∧ k.quiet k' ∧
    ρ 0 = .pointer (some ⟨id, 0, none⟩) ∧ ρ 3 = w ∧ ρ 19 = .slice a c.op.length cap ∧ ρ 20 = .int .i64 c.op.length ∧ ρ 21 = .int .i64 i) c.op.length ⟨0, _, by omega, by omega, .nil _ _ _, .refl _, by simp only [go_sem, simprocAttr]⟩ ?_
  rintro z ρ k' ⟨i, w, hi, rfl, hw, q, r0, r3, r19, r20, r21⟩
  simp only [go_sem, simprocAttr, r0, r3, r19, r20, r21]
  refine cnd_decide (fun hb => ?_) (fun hb => ?_)
  · have h1 : i < c.op.length := by omega
    have e9 : IntKind.i64.wrap ((i : Int) + 1) = ((i + 1 : Nat) : Int) := by rw [wi64] <;> omega
    obtain ⟨b, off, sp, cc, md, y, rfl, hbs, hg', hyi, hy, hcc⟩ := (ho.sl.quiet q).atI h1
    have et : (c.op.take (i + 1)).map (fun i => (i, c.ph, c.id)) = (c.op.take i).map (fun i => (i, c.ph, c.id)) ++ [(y, c.ph, c.id)] := by rw [List.take_add_one, hyi, List.map_append]; rfl
    have hl2 : ((c.op.take i).map fun i => (i, c.ph, c.id)).length ≤ 16 := by rw [List.length_map, List.length_take]; omega
    have g := (q.2 id hlt).trans hg
    obtain ⟨w', k2, e2, hw', f', hn', a2, n2, c2, rfl⟩ := hw.app2 (bytes := 24) (y := (y, c.ph, c.id)) (cs := [.int .i64 y, .int .i64 c.ph, .int .i64 c.id]) 3 rfl (fun _ => rOrd_iff.2 ⟨rfl, inI_iff.2 hy, show inI c.ph from ⟨by omega, by omega⟩, hid⟩) (by omega) (by omega)
    simp only [go_sem, simprocAttr, r0, r3, r19, r20, r21, h1, hg', hcc, g, coC, e2, e9]
    refine Hold.mk ⟨c.op.length - (i + 1), by omega, i + 1, .slice a2 n2 c2, by omega, rfl, ?_, Fw.behind q f' (fun j e => hw.2 j e), by simp only [go_sem, simprocAttr, r0, r3, r19, r20]⟩
    rw [et]
    exact ⟨hw'.1, fun j hj => (hw'.2 j hj).elim (fun e => e) fun e => Nat.le_trans q.1 e⟩
  · simp only [go_sem, simprocAttr, r3]
    have hi' : i = c.op.length := by omega
    subst hi'
    rw [List.take_length] at hw
    exact ⟨hw, q⟩

theorem putM_len (m : List (Int × Int)) (n v : Int) : (putM m n v).length ≤ m.length + 1 := by
  induction m with
  | nil => simp [putM]
  | cons p ps ih => unfold putM; split <;> simp <;> omega
theorem past_put {r : Nat} {es : List MapEntry} {ck : Nat} {m : List (Int × Int)} {n v : Int} (hg : h.get r = .map es ck) (hm : MsI es m) :
    ∃ es' ck', amapUpdate Try.prog h 77 (.map (some r)) (.int .i64 n) (.int .i64 v) = some (h.set r (.map es' ck')) ∧ MsI es' (putM m n v) := by
  unfold amapUpdate
  simp only [go_sem, hg]
  rcases hm.find (n := n) 0 with ⟨k, k1, k2⟩ | ⟨k1, k2, k3⟩
  · rw [k1]; exact ⟨_, _, by rw [Nat.zero_add], k2 v⟩
  · rw [k1]; exact ⟨_, _, rfl, k3 v _⟩

theorem next_ok {id : Nat} {c : Co} (ha : CoAt Z h id c) : Does Try.prog 42 #[.pointer (some ⟨id, 0, none⟩)] h
    (fun u h' => u = .tuple #[] ∧ CoAt (up Z h) h' id c.next ∧ Fw Z h h') := by
  have ha0 := ha
  obtain ⟨hz, hgd, v, r, es, ck, hg, ho, hne, hr, hgr, hms⟩ := ha
  obtain ⟨n1, n2, p1, p2, hid, hop, hpa⟩ := hgd
  have hlt := ha0.lt
  have hri : r ≠ id := by rintro rfl; rw [hg] at hgr; cases hgr
  have hlr : r < h.next := AHeap.lt_of_alive h (by rw [hgr]; simp)
  refine spec_go mixed Try.func42 rfl Try.results42 (n := Try.f42.ntmps) (by kernel_rfl) (by simp) ?_
  unfold Co.next
  simp only [go_sem, simprocAttr, hg, coC]
  have w1 : IntKind.i64.wrap (c.ph + 1) = c.ph + 1 := by rw [wi64] <;> omega
  have w3 : IntKind.i64.wrap (c.ph - 3) = c.ph - 3 := by rw [wi64] <;> omega
  have w4 : IntKind.i64.wrap (c.ph - 3 + 2) = c.ph - 3 + 2 := by rw [wi64] <;> omega
  have two : ∀ {X : Prop}, (c.ph = 1 ∨ c.ph = 2) → c.ph = 1 ∨ c.ph = 2 := fun e => e
  by_cases h12 : c.ph = 1 ∨ c.ph = 2
  · rw [if_pos h12]
    by_cases h1 : c.ph = 1
    · have e1 : (c.ph = 1) = True := eq_true h1
      simp only [go_sem, simprocAttr, e1, hg, coC, w1]
      refine cl_spec (enter_ok ha0 (by omega)) (fun _ _ _ hc => absurd hc (by decide +kernel)) ?_
      rintro u k ⟨rfl, h2⟩
      simp only [go_sem, simprocAttr]
      exact h2
    · have e1 : (c.ph = 1) = False := eq_false h1
      have e2 : (c.ph = 2) = True := eq_true (h12.resolve_left h1)
      simp only [go_sem, simprocAttr, e1, e2, hg, coC, w1]
      refine cl_spec (enter_ok ha0 (by omega)) (fun _ _ _ hc => absurd hc (by decide +kernel)) ?_
      rintro u k ⟨rfl, h2⟩
      simp only [go_sem, simprocAttr]
      exact h2
  · rw [if_neg h12]
    have e1 : (c.ph = 1) = False := eq_false (fun e => h12 (.inl e))
    have e2 : (c.ph = 2) = False := eq_false (fun e => h12 (.inr e))
    obtain ⟨es', ck', hu, hm'⟩ := past_put (n := c.id) (v := c.ph - 3 + 2) hgr hms
    have g1 : (h.set r (.map es' ck')).get id = .cells (coC c v r) .rw := by rw [AHeap.get_set_ne _ _ hri]; exact hg
    have l1 : id < (h.set r (.map es' ck')).next := by simpa using hlt
    have gs := fun o => AHeap.get_set_self (h.set r (.map es' ck')) o l1
    have fin : CoAt (up Z h) ((h.set r (.map es' ck')).set id (.cells (coC ⟨c.n, 0, 0, [], putM c.past c.id (c.ph - 3 + 2)⟩ (.slice none 0 0) r) .rw)) id ⟨c.n, 0, 0, [], putM c.past c.id (c.ph - 3 + 2)⟩ ∧
        Fw Z h ((h.set r (.map es' ck')).set id (.cells (coC ⟨c.n, 0, 0, [], putM c.past c.id (c.ph - 3 + 2)⟩ (.slice none 0 0) r) .rw)) := by
      refine ⟨⟨.inl hz, ⟨n1, n2, Int.le_refl 0, (show (0 : Int) ≤ 4 by decide), (show inI 0 from ⟨by decide, by decide⟩), Nat.zero_le _, trivial⟩, _, r, es', ck', gs _, .nil _ _ _, by simp, .inl hr, ?_, hm'⟩, ?_⟩
      · rw [AHeap.get_set_ne _ _ (Ne.symm hri), AHeap.get_set_self _ _ hlr]
      · exact (Fw.set (h := h) (id := r) (.map es' ck')).trans (.set _) (fun j _ e => by subst e; exact hr) (fun j _ e => by subst e; exact hz)
    unfold coC at fin gs g1
    by_cases h3 : c.ph = 3
    · have e3 : (c.ph = 3) = True := eq_true h3
      rw [if_pos (.inl h3)]
      simp only [go_sem, simprocAttr, e1, e2, e3, hg, coC, w3, w4, hu, g1, gs, AHeap.set_set]
      exact fin
    · have e3 : (c.ph = 3) = False := eq_false h3
      by_cases h4 : c.ph = 4
      · have e4 : (c.ph = 4) = True := eq_true h4
        rw [if_pos (.inr h4)]
        simp only [go_sem, simprocAttr, e1, e2, e3, e4, hg, coC, w3, w4, hu, g1, gs, AHeap.set_set]
        exact fin
      · have e4 : (c.ph = 4) = False := eq_false h4
        rw [if_neg (fun e => e.elim h3 h4)]
        simp only [go_sem, simprocAttr, e1, e2, e3, e4]
        exact ⟨ha0.weaken fun _ e => .inl e, .refl _ _⟩

theorem cHear_ok {id : Nat} {c : Co} {a k x : Int} (ha : CoAt Z h id c) : Does Try.prog 18 #[.pointer (some ⟨id, 0, none⟩), .int .i64 a, .int .i64 k, .int .i64 x] h
    (fun u h' => u = .int .i64 (c.hear a k x).1 ∧ CoAt (up Z h) h' id (c.hear a k x).2 ∧ Fw Z h h') := by
  have stay : CoAt (up Z h) h id c ∧ Fw Z h h := ⟨ha.weaken fun _ e => .inl e, .refl _ _⟩
  have ha0 := ha
  obtain ⟨hz, hgd, v, r, es, ck, hg, ho, hne, hr, hgr, hms⟩ := ha
  have hgd0 := hgd
  obtain ⟨n1, n2, p1, p2, hid, hop, hpa⟩ := hgd
  have hlt := ha0.lt
  have hri : r ≠ id := by rintro rfl; rw [hg] at hgr; cases hgr
  have hlr : r < h.next := AHeap.lt_of_alive h (by rw [hgr]; simp)
  refine spec_go mixed Try.func18 rfl Try.results18 (n := Try.f18.ntmps) (by kernel_rfl) (by simp) ?_
  simp only [go_sem, simprocAttr]
  refine cl_spec (cok_ok ha0) (fun _ _ _ hc => absurd hc (by decide +kernel)) ?_
  rintro u k0 ⟨rfl, hk0⟩
  subst hk0
  unfold Co.hear
  have w1 : IntKind.i64.wrap (c.ph - 1) = c.ph - 1 := by rw [wi64] <;> omega
  have w2 : IntKind.i64.wrap (c.ph - 1 + 11) = c.ph - 1 + 11 := by rw [wi64] <;> omega
  by_cases hA : a < 0 ∨ a ≥ c.n ∨ k < 11 ∨ k > 14
  · rw [if_pos hA]
    by_cases h1 : a < 0
    · simp only [go_sem, simprocAttr, decide_eq_true h1]
      exact stay
    by_cases h2 : (c.n : Int) ≤ a
    · simp only [go_sem, simprocAttr, decide_eq_false h1, hg, coC, decide_eq_true h2]
      exact stay
    by_cases h3 : k < 11
    · simp only [go_sem, simprocAttr, decide_eq_false h1, hg, coC, decide_eq_false h2, decide_eq_true h3]
      exact stay
    have h4 : 14 < k := by omega
    simp only [go_sem, simprocAttr, decide_eq_false h1, hg, coC, decide_eq_false h2, decide_eq_false h3, decide_eq_true h4]
    exact stay
  rw [if_neg hA]
  have h1 : ¬ a < 0 := by omega
  have h2 : ¬ (c.n : Int) ≤ a := by omega
  have h3 : ¬ k < 11 := by omega
  have h4 : ¬ 14 < k := by omega
  simp only [go_sem, simprocAttr, decide_eq_false h1, hg, coC, decide_eq_false h2, decide_eq_false h3, decide_eq_false h4]
  by_cases hB : c.ph = 0 ∨ x ≠ c.id
  · rw [if_pos hB]
    by_cases b1 : c.ph = 0
    · have e1 : (c.ph = 0) = True := eq_true b1
      simp only [go_sem, simprocAttr, e1]
      exact stay
    · have e1 : (c.ph = 0) = False := eq_false b1
      have e2 : (x = c.id) = False := eq_false (hB.resolve_left b1)
      simp only [go_sem, simprocAttr, e1, hg, coC, e2]
      exact stay
  rw [if_neg hB]
  have e1 : (c.ph = 0) = False := eq_false (fun e => hB (.inl e))
  have e2 : (x = c.id) = True := eq_true (Classical.not_not.1 fun e => hB (.inr e))
  simp only [go_sem, simprocAttr, e1, hg, coC, e2]
  by_cases h5 : k = 14
  · rw [if_pos h5]
    subst h5
    simp only [go_sem, simprocAttr]
    refine cl_spec (cAbort_ok ha0) (fun _ _ _ hc => absurd hc (by decide +kernel)) ?_
    rintro u k2 ⟨rfl, h6⟩
    simp only [go_sem, simprocAttr]
    exact h6
  rw [if_neg h5]
  have e5 : (k = 14) = False := eq_false h5
  simp only [go_sem, simprocAttr, e5, hg, coC, w1, w2]
  by_cases h6 : k = min (c.ph - 1 + 11) 13
  · rw [if_pos h6]
    have e6 : (k = min (c.ph - 1 + 11) 13) = True := eq_true h6
    simp only [go_sem, simprocAttr, e6, hg, coC]
    refine cl_spec (without_ok ho.sl (by omega)) (fun _ _ _ hc => absurd hc (by decide +kernel)) ?_
    rintro u k2 ⟨ow, q2⟩
    have g2 := (q2.2 id hlt).trans hg
    have hlt2 : id < k2.next := by have := q2.1; omega
    obtain ⟨a3, c3, rfl⟩ := ow.sl.shape
    unfold coC at g2
    have gs := fun o => AHeap.get_set_self k2 o hlt2
    simp only [go_sem, simprocAttr, g2, gs]
    have hbw : ∀ j, blk (.slice a3 (c.op.filter (· ≠ a)).length c3) = some j → k0.next ≤ j := ow.2
    have hC : CoAt (up Z k0) (k2.set id (.cells (coC { c with op := c.op.filter (· ≠ a) } (.slice a3 (c.op.filter (· ≠ a)).length c3) r) .rw)) id { c with op := c.op.filter (· ≠ a) } :=
      ⟨.inl hz, ⟨n1, n2, p1, p2, hid, Nat.le_trans (List.length_filter_le _ _) hop, trivial⟩, _, r, es, ck, gs _, ⟨ow.1.mono (Nat.le_refl _) (by simp) (fun _ e _ _ => e.elim) (fun j hj _ => AHeap.get_set_ne _ _ (by rintro rfl; have := hbw _ hj; omega)), fun j hj => .inr (hbw j hj)⟩,
        ⟨fun e => by have := hbw _ e; omega, fun e => by have := hbw _ e; omega⟩, .inl hr, by rw [AHeap.get_set_ne _ _ (Ne.symm hri), q2.2 r hlr]; exact hgr, hms⟩
    have fC : Fw Z k0 (k2.set id (.cells (coC { c with op := c.op.filter (· ≠ a) } (.slice a3 (c.op.filter (· ≠ a)).length c3) r) .rw)) :=
      (Fw.of_quiet (W := Z) q2).trans (.set _) (fun _ _ e => e) (fun j _ e => by subst e; exact hz)
    unfold coC at hC fC
    by_cases h7 : (c.op.filter (· ≠ a)).length = 0
    · have e7 : (((c.op.filter (· ≠ a)).length : Nat) : Int) = 0 := by omega
      rw [if_pos h7]
      simp only [go_sem, simprocAttr, e7]
      refine cl_spec (next_ok hC) (fun _ _ _ hc => absurd hc (by decide +kernel)) ?_
      rintro u k3 ⟨rfl, h8, f8⟩
      simp only [go_sem, simprocAttr]
      exact ⟨h8.weaken (up_up fC.1), fC.trans f8 (fun _ _ e => e) (fun j hl e => e.elim (fun e => e) (fun e => by omega))⟩
    · have e7 : (((c.op.filter (· ≠ a)).length : Nat) : Int) = 0 ↔ False := ⟨fun e => h7 (by omega), False.elim⟩
      rw [if_neg h7]
      simp only [go_sem, simprocAttr, e7]
      exact ⟨hC, fC⟩
  · rw [if_neg h6]
    have e6 : (k = min (c.ph - 1 + 11) 13) = False := eq_false h6
    simp only [go_sem, simprocAttr, e6]
    exact stay

theorem newCoord_ok {n : Int} : Does Try.prog 10 #[.int .i64 n] h
    (fun u h' => h.quiet h' ∧ ((1 ≤ n ∧ n ≤ 16 ∧ u = .tuple #[.pointer (some ⟨h.next + 1, 0, none⟩), .int .i64 0] ∧ CoAt (h.next ≤ ·) h' (h.next + 1) ⟨n.toNat, 0, 0, [], []⟩) ∨ ((n < 1 ∨ 16 < n) ∧ u = .tuple #[.pointer none, .int .i64 1]))) := by
  refine spec_go mixed Try.func10 rfl Try.results10 (n := Try.f10.ntmps) (by kernel_rfl) (by simp) ?_
  by_cases h1 : n < 1
  · simp only [go_sem, simprocAttr, decide_eq_true h1]
    exact .inr (.inl h1)
  · by_cases h2 : 16 < n
    · simp only [go_sem, simprocAttr, decide_eq_false h1, decide_eq_true h2]
      exact .inr (.inr h2)
    · simp only [go_sem, simprocAttr, decide_eq_false h1, decide_eq_false h2]
      refine .inl ⟨by omega, by omega, ?_⟩
      refine ⟨by show _ ≤ _; omega, ⟨by simp only; omega, by simp only; omega, Int.le_refl 0, (show (0 : Int) ≤ 4 by decide), (show inI 0 from ⟨by decide, by decide⟩), Nat.zero_le _, trivial⟩, .slice none 0 0, h.next, [], 0, ?_, .nil _ _ _, by simp, Nat.le_refl _, ?_, rfl⟩
      · simp only [coC, Int.toNat_of_nonneg (show 0 ≤ n by omega)]
        simp only [go_sem, simprocAttr]
      · simp only [go_sem, simprocAttr]
end
end Go.Proofs.Ytbcgipcgcjkfcaa
