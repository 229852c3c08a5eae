/- barrier: the program's coordinator: phases. -/
import Derived.Test.YtbcgipcgcjkfcaaBaE
set_option linter.unusedSimpArgs false
set_option linter.unusedVariables false
set_option linter.unnecessarySimpa false
set_option maxRecDepth 100000
namespace Go.Proofs.Ytbcgipcgcjkfcaa
open Go.AM

section
variable {h : AHeap} {S Z : Nat → Prop}

theorem up_up {k : AHeap} (hn : h.next ≤ k.next) : ∀ j, up (up Z h) k j → up Z h j := fun j e => e.elim id fun e => .inr (Nat.le_trans hn e)
/-- One more, behind a box. -/
theorem OwnL.app2 {α : Type} {r : Rep α} {Z : Nat → Prop} {h : AHeap} {xs : List α} {v : Value} {y : α} {cs : List Value} {bytes : Nat} (ho : OwnL r Z h xs v) (sz : Nat) (hsz : r.sz = sz) (hy : ∀ k, r.R (fun _ => False) k y cs) (hb : (xs.length + 1) * bytes ≤ 140737488355328) (h62 : xs.length + 1 ≤ 281474976710656) :
    ∃ v' h', aappend (h.push (.cells cs .rw)) sz bytes v 1 cs = some (v', h') ∧ OwnL r (up Z h) h' (xs ++ [y]) v' ∧ Fw (fun j => blk v = some j) h h' ∧ (blk v' = blk v ∨ ∃ ob, blk v' = some ob ∧ h.next ≤ ob) ∧ ∃ a n c, v' = .slice a n c := by
  have q := AHeap.quiet.push h (.cells cs .rw)
  have ho2 := ho.mono q.1 (fun j hj hl => ⟨hj, q.2 j hl⟩)
  obtain ⟨v', h', e, hl, hf, hn⟩ := ho2.1.app1 (y := y) (cs := cs) (bytes := bytes) sz hsz (r.weaken (hy _) (fun _ e => e.elim)) hb h62 (Nat.zero_le _)
  have hn' : blk v' = blk v ∨ ∃ ob, blk v' = some ob ∧ h.next ≤ ob := hn.imp id fun ⟨ob, h1, h2⟩ => ⟨ob, h1, by have := q.1; omega⟩
  obtain ⟨a, c, rfl, _⟩ := hl.len
  refine ⟨_, h', e, ⟨hl, fun j hj => ?_⟩, hf.after q, hn', _, _, _, rfl⟩
  rcases hn' with hn | ⟨ob, hn, hge⟩
  · exact .inl (ho.2 j (hn ▸ hj))
  · rw [hn] at hj; cases hj; exact .inr hge

theorem Co.all_at {c : Co} {i : Nat} (hi : i < c.n) : c.all.take (i + 1) = c.all.take i ++ [((i : Nat) : Int)] := by
  rw [List.take_add_one]; congr 1; simp [Co.all, hi]
theorem Co.all_len (c : Co) : c.all.length = c.n := by simp [Co.all]

theorem enter_ok {id : Nat} {c : Co} {p : Int} (ha : CoAt Z h id c) (hp : 0 ≤ p ∧ p ≤ 4) : Does Try.prog 39 #[.pointer (some ⟨id, 0, none⟩), .int .i64 p] h
    (fun u h' => u = .tuple #[] ∧ CoAt (up Z h) h' id (c.enter p) ∧ Fw Z h h') := by
  have hlt := ha.lt
  obtain ⟨hz, hgd, v, r, es, ck, hg, ho, hne, hr, hgr, hms⟩ := ha
  obtain ⟨n1, n2, p1, p2, hid, hop, hpa⟩ := hgd
  have hri : r ≠ id := by rintro rfl; rw [hg] at hgr; cases hgr
  have hlr : r < h.next := AHeap.lt_of_alive h (by rw [hgr]; simp)
  have gs := fun o => AHeap.get_set_self h o hlt
  refine spec_go mixed Try.func39 rfl Try.results39 (n := Try.f39.ntmps) (by kernel_rfl) (by simp) ?_
  simp only [go_sem, simprocAttr, hg, coC, gs, AHeap.set_set]
  refine go_gen fun h1 e1 => ?_
  have g1 : h1.get id = .cells (coC { c with ph := p } (.slice none 0 0) r) .rw := by rw [e1]; exact gs _
  have f1 : Fw Z h h1 := by rw [e1]; exact (Fw.set _).mono fun j _ e => by subst e; exact hz
  have gr1 : h1.get r = .map es ck := by rw [e1, AHeap.get_set_ne _ _ (Ne.symm hri)]; exact hgr
  clear e1
  refine go_loop (fun z ρ k => ∃ (i : Nat) (w : Value), i ≤ c.n ∧ z = c.n - i ∧ k.get id = .cells (coC { c with ph := p } w r) .rw ∧ k.get r = .map es ck ∧ OwnL rI (up Z h) k (c.all.take i) w ∧ (blk w ≠ some id ∧ blk w ≠ some r) ∧ Fw Z h k ∧
    ρ 0 = .pointer (some ⟨id, 0, none⟩) ∧ ρ 15 = .int .i64 c.n ∧ ρ 16 = .int .i64 i) c.n ⟨0, _, by omega, by omega, g1, gr1, .nil _ _ _, by simp, f1, by simp only [go_sem, simprocAttr]⟩ ?_
  rintro z ρ k ⟨i, w, hi, rfl, g, gr, hw, hb, f, r0, r15, r16⟩
  simp only [go_sem, simprocAttr, r0, r15, r16]
  refine cnd_decide (fun hx => ?_) (fun hx => ?_)
  · have h1 : i < c.n := by omega
    have e9 : IntKind.i64.wrap ((i : Int) + 1) = ((i + 1 : Nat) : Int) := by rw [wi64] <;> omega
    have hli : id < k.next := AHeap.lt_of_alive k (by rw [g]; simp)
    have hlk : r < k.next := AHeap.lt_of_alive k (by rw [gr]; simp)
    have hl2 : (c.all.take i).length ≤ 16 := by rw [List.length_take, Co.all_len]; omega
    obtain ⟨w', k', e, hw', f', hn', a, n, cp, rfl⟩ := hw.app2 (bytes := 8) (y := ((i : Nat) : Int)) (cs := [.int .i64 i]) 1 rfl (fun _ => ⟨rfl, inI_iff.1 ⟨by omega, by omega⟩⟩) (by omega) (by omega)
    have g' : k'.get id = .cells (coC { c with ph := p } w r) .rw := (f'.2 id hli hb.1).trans g
    have gr' : k'.get r = .map es ck := (f'.2 r hlk hb.2).trans gr
    have hl' : id < k'.next := AHeap.lt_of_alive _ (by rw [g']; simp)
    have hbn : blk (.slice a n cp) ≠ some id ∧ blk (.slice a n cp) ≠ some r := by
      rcases hn' with hn | ⟨ob, hn, hge⟩
      · rw [hn]; exact hb
      · rw [hn]; exact ⟨by rintro e; cases e; omega, by rintro e; cases e; omega⟩
    have gs' := fun o => AHeap.get_set_self k' o hl'
    simp only [go_sem, simprocAttr, r0, r15, r16, g, coC, e, g', e9]
    refine Hold.mk ⟨c.n - (i + 1), by omega, i + 1, .slice a n cp, by omega, rfl, gs' _, by rw [AHeap.get_set_ne _ _ (Ne.symm hri)]; exact gr', ?_, hbn, ?_, by simp only [go_sem, simprocAttr, r0, r15]⟩
    · rw [Co.all_at h1]
      exact ⟨hw'.1.mono (Nat.le_refl _) (by simp) (fun _ e _ _ => e.elim) (fun j hj _ => AHeap.get_set_ne _ _ (by rintro rfl; exact hbn.1 hj)), fun j hj => up_up f.1 _ (hw'.2 j hj)⟩
    · refine (f.trans f' (fun _ _ e => e) (fun j hl e => ?_)).trans (.set _) (fun _ _ e => e) (fun j _ e => by subst e; exact hz)
      rcases hw.2 j e with h2 | h2
      · exact h2
      · omega
  · simp only [go_sem, simprocAttr]
    have hi' : i = c.n := by omega
    subst hi'
    rw [show c.all.take c.n = c.all from List.take_of_length_le (by rw [Co.all_len]; exact Nat.le_refl _)] at hw
    exact ⟨⟨.inl hz, ⟨n1, n2, hp.1, hp.2, hid, by show c.all.length ≤ 16; rw [Co.all_len]; exact n2, hpa⟩, w, r, es, ck, g, hw, hb, .inl hr, gr, hms⟩, f⟩

theorem cAbort_ok {id : Nat} {c : Co} (ha : CoAt Z h id c) : Does Try.prog 20 #[.pointer (some ⟨id, 0, none⟩)] h
    (fun u h' => u = .int .i64 c.abort.1 ∧ CoAt (up Z h) h' id c.abort.2 ∧ Fw Z h h') := by
  refine spec_go mixed Try.func20 rfl Try.results20 (n := Try.f20.ntmps) (by kernel_rfl) (by simp) ?_
  simp only [go_sem, simprocAttr]
  refine cl_spec (cok_ok ha) (fun _ _ _ hc => absurd hc (by decide +kernel)) ?_
  rintro u k ⟨rfl, rfl⟩
  have ha0 := ha
  obtain ⟨hz, hgd, v, r, es, ck, hg, ho, hne, hr, hgr, hms⟩ := ha
  unfold Co.abort
  simp only [go_sem, simprocAttr, hg, coC]
  by_cases h1 : c.ph = 1
  · have e1 : (c.ph = 1) = True := eq_true h1
    rw [if_neg (fun e => e.1 h1)]
    simp only [go_sem, simprocAttr, e1]
    refine cl_spec (enter_ok ha0 (by decide)) (fun _ _ _ hc => absurd hc (by decide +kernel)) ?_
    rintro u k ⟨rfl, h2⟩
    simp only [go_sem, simprocAttr]
    exact h2
  · have e1 : (c.ph = 1) = False := eq_false h1
    by_cases h3 : c.ph = 2
    · have e3 : (c.ph = 2) = True := eq_true h3
      rw [if_neg (fun e => e.2 h3)]
      simp only [go_sem, simprocAttr, e1, e3, hg, coC]
      refine cl_spec (enter_ok ha0 (by decide)) (fun _ _ _ hc => absurd hc (by decide +kernel)) ?_
      rintro u k ⟨rfl, h2⟩
      simp only [go_sem, simprocAttr]
      exact h2
    · have e3 : (c.ph = 2) = False := eq_false h3
      rw [if_pos ⟨h1, h3⟩]
      simp only [go_sem, simprocAttr, e1, e3, hg, coC]
      exact ⟨ha0.weaken fun _ e => .inl e, .refl _ _⟩

theorem cCrash_ok {id : Nat} {c : Co} (ha : CoAt Z h id c) : Does Try.prog 22 #[.pointer (some ⟨id, 0, none⟩)] h
    (fun u h' => u = .tuple #[] ∧ CoAt (up Z h) h' id c.crash ∧ Fw Z h h') := by
  refine spec_go mixed Try.func22 rfl Try.results22 (n := Try.f22.ntmps) (by kernel_rfl) (by simp) ?_
  simp only [go_sem, simprocAttr]
  refine cl_spec (cok_ok ha) (fun u h' hp _ => hp.2 ▸ .refl _) ?_
  rintro u k ⟨rfl, rfl⟩
  have ha0 := ha
  obtain ⟨hz, hgd, v, r, es, ck, hg, ho, hne, hr, hgr, hms⟩ := ha
  unfold Co.crash
  simp only [go_sem, simprocAttr, hg, coC]
  by_cases h1 : c.ph = 0
  · have e1 : (c.ph = 0) = True := eq_true h1
    rw [if_pos h1]
    simp only [go_sem, simprocAttr, e1]
    exact ⟨ha0.weaken fun _ e => .inl e, .refl _ _⟩
  · have e1 : (c.ph = 0) = False := eq_false h1
    rw [if_neg h1]
    simp only [go_sem, simprocAttr, e1]
    refine cl_spec (cAbort_ok ha0) (fun _ _ _ hc => absurd hc (by decide +kernel)) ?_
    rintro u k ⟨rfl, h2, f2⟩
    by_cases h3 : c.ph = 1 ∨ c.ph = 2
    · have e2 : c.abort.1 = 0 := by unfold Co.abort; rw [if_neg (by omega)]
      rw [if_pos e2]
      rw [e2]
      simp only [go_sem, simprocAttr]
      exact ⟨h2, f2⟩
    · have e2 : c.abort = (11, c) := by unfold Co.abort; rw [if_pos (by omega)]
      rw [e2] at h2 ⊢
      rw [if_neg (by simp)]
      have h20 := h2
      obtain ⟨hz, hgd, v, r, es, ck, hg, ho, hne, hr, hgr, hms⟩ := h2
      simp only [go_sem, simprocAttr, hg, coC]
      refine cl_spec (enter_ok h20 ⟨hgd.2.2.1, hgd.2.2.2.1⟩) (fun _ _ _ hc => absurd hc (by decide +kernel)) ?_
      rintro u k2 ⟨rfl, h4, f4⟩
      simp only [go_sem, simprocAttr]
      exact ⟨h4.weaken (up_up f2.1), f2.trans f4 (fun _ _ e => e) (fun j hl e => e.elim (fun e => e) (fun e => by omega))⟩

theorem cBegin_ok {id : Nat} {c : Co} {x : Int} (ha : CoAt Z h id c) (hx : inI x) : Does Try.prog 13 #[.pointer (some ⟨id, 0, none⟩), .int .i64 x] h
    (fun u h' => u = .int .i64 (c.begin x).1 ∧ CoAt (up Z h) h' id (c.begin x).2 ∧ Fw Z h h') := by
  have stay : CoAt (up Z h) h id c ∧ Fw Z h h := ⟨ha.weaken fun _ e => .inl e, .refl _ _⟩
  refine spec_go mixed Try.func13 rfl Try.results13 (n := Try.f13.ntmps) (by kernel_rfl) (by simp) ?_
  simp only [go_sem, simprocAttr]
  refine cl_spec (cok_ok ha) (fun _ _ _ hc => absurd hc (by decide +kernel)) ?_
  rintro u k ⟨rfl, rfl⟩
  have ha0 := ha
  obtain ⟨hz, hgd, v, r, es, ck, hg, ho, hne, hr, hgr, hms⟩ := ha
  have hl := past_look (n := x) hgr hms
  have hlt := ha0.lt
  have hri : r ≠ id := by rintro rfl; rw [hg] at hgr; cases hgr
  unfold Co.begin
  simp only [go_sem, simprocAttr]
  refine cnd_decide (fun h1 => ?_) (fun h1 => ?_)
  · rw [if_pos h1]
    simp only [go_sem, simprocAttr]
    exact stay
  rw [if_neg h1]
  simp only [go_sem, simprocAttr, hg, coC]
  by_cases h2 : c.ph = 0
  · have e2 : (c.ph = 0) = True := eq_true h2
    rw [if_neg (fun e => e h2)]
    simp only [go_sem, simprocAttr, e2, hg, coC, hl]
    by_cases h3 : look c.past x = 0
    · have e3 : (look c.past x = 0) = True := eq_true h3
      rw [if_neg (fun e => e h3)]
      simp only [go_sem, simprocAttr, e3, hg, coC, hgr, hms.len]
      refine cnd_decide (fun h4 => ?_) (fun h4 => ?_)
      · rw [if_pos (by omega)]
        simp only [go_sem, simprocAttr]
        exact stay
      rw [if_neg (by omega)]
      simp only [go_sem, simprocAttr, hg, coC]
      have gs := AHeap.get_set_self k (.cells (coC { c with id := x } v r) .rw) hlt
      have h5 : CoAt Z (k.set id (.cells (coC { c with id := x } v r) .rw)) id { c with id := x } := by
        obtain ⟨n1, n2, p1, p2, hid, hop, hpa⟩ := hgd
        exact ⟨hz, ⟨n1, n2, p1, p2, hx, hop, hpa⟩, v, r, es, ck, gs, ⟨ho.1.mono (Nat.le_refl _) (by simp) (fun _ e _ _ => e.elim) (fun j hj _ => AHeap.get_set_ne _ _ (by rintro rfl; exact hne.1 hj)), ho.2⟩, hne, hr, by rw [AHeap.get_set_ne _ _ (Ne.symm hri)]; exact hgr, hms⟩
      have f5 : Fw Z k (k.set id (.cells (coC { c with id := x } v r) .rw)) := (Fw.set _).mono fun j _ e => by subst e; exact hz
      unfold coC at h5 f5
      refine cl_spec (enter_ok h5 (by decide)) (fun _ _ _ hc => absurd hc (by decide +kernel)) ?_
      rintro u k2 ⟨rfl, h6, f6⟩
      simp only [go_sem, simprocAttr]
      exact ⟨h6.weaken (by unfold up; simp), f5.trans f6 (fun _ _ e => e) (fun _ _ e => e)⟩
    · have e3 : (look c.past x = 0) = False := eq_false h3
      rw [if_pos h3]
      simp only [go_sem, simprocAttr, e3]
      exact stay
  · have e2 : (c.ph = 0) = False := eq_false h2
    rw [if_pos h2]
    simp only [go_sem, simprocAttr, e2]
    exact stay
end
end Go.Proofs.Ytbcgipcgcjkfcaa
