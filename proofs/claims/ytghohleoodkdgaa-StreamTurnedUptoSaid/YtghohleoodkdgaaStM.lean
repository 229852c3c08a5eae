/- stream: what is encoded is read, however it is cut. -/
import Derived.Test.YtghohleoodkdgaaStL
set_option linter.unusedSimpArgs false
set_option linter.unusedVariables false
set_option linter.unnecessarySimpa false
set_option maxRecDepth 100000
namespace Go.Proofs.Ytghohleoodkdgaa
open Go.AM
theorem isl_dat {S : Nat → Prop} {h : AHeap} {l : List Rec} {v : Value} (hs : IsSl rRec S h l v) : ∀ r ∈ l, (∀ x ∈ r.data, x < 18446744073709551616) ∧ r.inI := fun r hr => by
  obtain ⟨i, hi⟩ := List.mem_iff_getElem?.1 hr
  obtain ⟨a, c, rfl⟩ := hs.shape
  obtain ⟨b, off, sp, cc, md, x, lv, _, _, _, hxi, hlv, hxb, _, _⟩ := IsSl.atR hs (List.getElem?_eq_some_iff.1 hi).1
  rw [hi] at hxi
  cases hxi
  exact ⟨hlv.lt64, hxb⟩
theorem len_enc (l : List Rec) : l.length ≤ (encN l).length := by
  induction l with
  | nil => simp
  | cons r l ih => rw [encN_cons, List.length_append, recB_len, List.length_cons]; omega
section
variable {h k h' : AHeap} {S S' Z : Nat → Prop} {v w : Value} {id : Nat}
theorem cuts_law {l : List Rec} {cuts : List Nat} (hs : IsSl rRec (· < h.next) h l v) (hc : Bytes (· < h.next) h cuts w) : Does Try.prog 3 #[v, w] h (fun u _ => u = .bool true) := by
  obtain ⟨a, c, rfl⟩ := hs.shape
  obtain ⟨a2, c2, rfl⟩ := hc.shape
  have hcl := hc.len
  refine spec_go mixed Try.func3 rfl Try.results3 (n := Try.f3.ntmps) (by kernel_rfl) (by simp) ?_
  simp only [go_sem, simprocAttr]
  refine cl_spec (Encode_ok hs) (fun _ _ _ hc => absurd hc (by decide +kernel)) ?_
  rintro u k1 ⟨q1, hp⟩
  cases he : encE l with
  | error e =>
    rw [he] at hp
    obtain rfl := hp
    have hne := encE_err he
    simp only [go_sem, simprocAttr]
    refine cl_spec snew_ok (fun _ _ _ hc => absurd hc (by decide +kernel)) ?_
    rintro u k2 ⟨rfl, q2, s2⟩
    simp only [go_sem, simprocAttr, hne, eq_self, decide_true, decide_false]
    refine cl_spec salive_ok (fun u h' hp _ => hp.2) ?_
    rintro u k5 ⟨rfl, q5⟩
    simp only [go_sem, simprocAttr, eq_self, decide_true]
  | ok B =>
    rw [he] at hp
    obtain ⟨hmay, hB, rfl⟩ := encE_inv he
    have hok : okL l := fun r hr => ⟨hmay r hr, (isl_dat hs r hr).1⟩
    have hln := len_enc l
    obtain ⟨bw, rfl, hbl⟩ := hp
    have hb1 := (hbl.isSl (S := fun _ => True) (fun _ e _ => e.elim) (fun _ _ => trivial)).bound
    obtain ⟨ab, cb, rfl⟩ := hb1.shape
    simp only [go_sem, simprocAttr]
    refine cl_spec snew_ok (fun _ _ _ hc => absurd hc (by decide +kernel)) ?_
    rintro u k2 ⟨rfl, q2, s2⟩
    have hk12 := s2.lt
    have hb2 : Bytes (· < k1.next) k2 (encN l) (.slice ab (encN l).length cb) := (hb1.quiet q2).weaken fun j hj => hj.2
    simp only [go_sem, simprocAttr, eq_self, decide_true, decide_false]
    have q12 := q1.trans q2
    refine go_cutb (fun ρ k => ∃ (g l2 : List Rec) (W B2 : List Nat) (gv bv : Value) (S : Nat → Prop), l = g ++ l2 ∧ W ++ B2 = encN l2 ∧ Fw (· = k1.next) k2 k ∧ StAt S k k1.next W 0 ∧ Lst rRec k2.next (k2.next ≤ ·) k g gv ∧ Bytes (· < k1.next) k B2 bv ∧ ρ 0 = .slice a l.length c ∧ ρ 5 = bv ∧ ρ 7 = .pointer (some ⟨k1.next, 0, none⟩) ∧ ρ 8 = gv) ?_ ?_
    · refine go_loop (fun z ρ k => ∃ (i : Nat) (g l2 : List Rec) (W B2 : List Nat) (gv bv : Value) (S : Nat → Prop), i ≤ cuts.length ∧ z = cuts.length - i ∧ l = g ++ l2 ∧ W ++ B2 = encN l2 ∧ Fw (· = k1.next) k2 k ∧ StAt S k k1.next W 0 ∧ Lst rRec k2.next (k2.next ≤ ·) k g gv ∧ Bytes (· < k1.next) k B2 bv ∧ ρ 0 = .slice a l.length c ∧ ρ 5 = bv ∧ ρ 7 = .pointer (some ⟨k1.next, 0, none⟩) ∧ ρ 8 = gv ∧ ρ 28 = .slice a2 cuts.length c2 ∧ ρ 29 = .int .i64 cuts.length ∧ ρ 30 = .int .i64 i) cuts.length
        ⟨0, [], l, [], encN l, _, _, _, by omega, by omega, rfl, rfl, .refl _ _, s2, .nil _ _ _ _, hb2, by simp only [go_sem, simprocAttr]⟩ ?_
      rintro z ρ k ⟨i, g, l2, W, B2, gv, bv, S, hi, rfl, hl, hW, f, st, hg, hb, r0, r5, r7, r8, r28, r29, r30⟩
      obtain ⟨ab, cb, rfl⟩ := hb.shape
      simp only [go_sem, simprocAttr, r0, r5, r7, r8, r28, r29, r30]
      refine cnd_decide (fun hy => ?_) (fun hy => ?_)
      · have h1 : i < cuts.length := by omega
        have qk : h.quiet k := Fw.behind q12 f (fun j e => by have := q1.1; omega)
        obtain ⟨b, off, sp, cc, md, x, hA, _, hgx, hxi, hx8, hcx⟩ := (hc.quiet qk).atN h1
        rw [u8_max] at hx8
        have e9 : IntKind.i64.wrap ((i : Int) + 1) = ((i + 1 : Nat) : Int) := by rw [wi64] <;> omega
        have e8 : IntKind.i64.wrap (x : Int) = x := by rw [wi64] <;> omega
        have hbl2 : (W ++ B2).length ≤ 65536 := by
          rw [hW]
          have : (encN l).length = (encN g).length + (encN l2).length := by rw [hl, encN_app, List.length_append]
          omega
        have hbn := hb.len
        have em : min (x : Int) (B2.length : Int) = ((min x B2.length : Nat) : Int) := by omega
        have hmn : min x B2.length ≤ B2.length := Nat.min_le_right _ _
        generalize hme : min x B2.length = m at *
        obtain ⟨a1, c1, e5, s1⟩ := hb.slice 1 rfl (l := 0) (m := m) (by omega) hmn
        have e5 : slI 1 ab B2.length cb (some 0) (some (m : Int)) = some (.slice a1 m c1) := e5
        have s1 : Bytes (· < k1.next) k (B2.take m) (.slice a1 m c1) := s1
        obtain ⟨gl, gn, gc, rfl⟩ : ∃ ax nx cx, gv = .slice ax nx cx := by obtain ⟨ax, cx, e, _⟩ := hg.len; exact ⟨ax, _, cx, e⟩
        simp only [go_sem, simprocAttr, r0, r5, r7, r8, r28, r29, r30, h1, hy, hA, hgx, hcx, e8, em, hme, e5]
        refine cl_spec (Feed_ok st s1 (by simp at hbl2 ⊢; omega)) (fun _ _ _ hc => absurd hc (by decide +kernel)) ?_
        rintro u k3 ⟨f3, hk3, st3⟩
        have hpre : (W ++ B2.take m) <+: encN l2 := ⟨B2.drop m, by rw [List.append_assoc, List.take_append_drop, hW]⟩
        have hok2 : okL l2 := fun r hr => hok r (by rw [hl]; simp [hr])
        obtain ⟨g', l3, W', el, eW, hW', hrd, hwt⟩ := read_pre hok2 hpre
        rw [hrd] at hk3 st3
        obtain ⟨ak, nk, ck, rfl, hnk⟩ : ∃ ax nx cx, u = .slice ax nx cx ∧ g'.length = nx := by obtain ⟨ax, cx, e⟩ := hk3.shape; exact ⟨ax, _, cx, e, rfl⟩
        subst hnk
        obtain ⟨css, eac, hall⟩ := hk3.acells 8 rfl
        have hk2k := f.1
        have hg3 : Lst rRec k2.next (k2.next ≤ ·) k3 g (.slice gl gn gc) := Lst.fr hg f3 (fun j hj e => by have : k2.next ≤ j := hj.elim (fun e => e) (fun e => e); omega)
        have hgl : g.length + g'.length ≤ l.length := by rw [hl, el, List.length_append, List.length_append]; omega
        obtain ⟨gv', k4, e4, hg4, f4, _⟩ := hg3.app (ys := g') (css' := css) 8 rfl (bytes := 80) (n := g'.length) (hall.moves fun j hj hjl => ⟨⟨by omega, fun e => by have := (hg.blk_ge e).2; omega⟩, rfl⟩) rfl (by omega) (by omega) (by have := f3.1; omega)
        obtain ⟨a2', c2', e6, s2'⟩ := ((hb.fr f3 (fun j hj _ e => by omega)).fr f4 (fun j hj _ e => by have := (hg.blk_ge e).1; omega)).slice 1 rfl (l := m) (m := B2.length) hmn (Nat.le_refl _)
        have s2' : Bytes (· < k1.next) k4 (B2.drop m) (.slice a2' (B2.length - m) c2') := by
          rwa [List.take_of_length_le (by simp)] at s2'
        obtain ⟨ag, ng, cg, rfl⟩ : ∃ ax nx cx, gv' = .slice ax nx cx := by obtain ⟨ax, cx, e, _⟩ := hg4.len; exact ⟨ax, _, cx, e⟩
        simp only [go_sem, simprocAttr, r0, r5, r7, r8, r28, r29, r30, eac, hall.ones, e4, e6, e9]
        have hst4 : StAt (k.next ≤ ·) k4 k1.next W' 0 := by
          obtain ⟨v7, z7, f7, hg7, hb7, hni7, hf7⟩ := st3
          exact ⟨v7, z7, f7, (f4.2 _ (AHeap.lt_of_alive k3 (by rw [hg7]; simp)) (fun e => by have := (hg.blk_ge e).1; omega)).trans hg7, hb7.fr f4 (fun j hj _ e => by have := (hg.blk_ge e).2; omega), hni7, hf7⟩
        refine Hold.mk ⟨cuts.length - (i + 1), by omega, i + 1, g ++ g', l3, W', B2.drop m, _, _, _, by omega, rfl, by rw [hl, el, List.append_assoc], ?_, (f.trans f3 (fun _ _ e => e) (fun _ _ e => e)).trans f4 (fun _ _ e => e) (fun j hj e => by have := (hg.blk_ge e).1; omega), hst4, hg4, s2', by simp only [go_sem, simprocAttr, r0, r7, r28, r29, hA]⟩
        have : W ++ B2 = encN g' ++ (W' ++ B2.drop m) := by
          conv => lhs; rw [← List.take_append_drop m B2, ← List.append_assoc, eW]
          rw [List.append_assoc]
        rw [hW, el, encN_app] at this
        exact (List.append_cancel_left this).symm
      · simp only [go_sem, simprocAttr, r0, r5, r7, r8]
        exact Hold.mk ⟨g, l2, W, B2, gv, _, S, hl, hW, f, st, hg, hb, r0, r5, r7, r8⟩
    · rintro ρ k ⟨g, l2, W, B2, gv, bv, S, hl, hW, f, st, hg, hb, r0, r5, r7, r8⟩
      obtain ⟨ab, cb, rfl⟩ := hb.shape
      have hok2 : okL l2 := fun r hr => hok r (by rw [hl]; simp [hr])
      have hbl2 : (W ++ B2).length ≤ 65536 := by
        rw [hW]
        have : (encN l).length = (encN g).length + (encN l2).length := by rw [hl, encN_app, List.length_append]
        omega
      obtain ⟨gl, gn, gc, rfl⟩ : ∃ ax nx cx, gv = .slice ax nx cx := by obtain ⟨ax, cx, e, _⟩ := hg.len; exact ⟨ax, _, cx, e⟩
      simp only [go_sem, simprocAttr, r0, r5, r7, r8]
      refine cl_spec (Feed_ok st hb (by omega)) (fun _ _ _ hc => absurd hc (by decide +kernel)) ?_
      rintro u k3 ⟨f3, hk3, st3⟩
      rw [hW, read_all hok2] at hk3 st3
      obtain ⟨ak, nk, ck, rfl, hnk⟩ : ∃ ax nx cx, u = .slice ax nx cx ∧ l2.length = nx := by obtain ⟨ax, cx, e⟩ := hk3.shape; exact ⟨ax, _, cx, e, rfl⟩
      subst hnk
      obtain ⟨css, eac, hall⟩ := hk3.acells 8 rfl
      have hk2k := f.1
      have hg3 : Lst rRec k2.next (k2.next ≤ ·) k3 g (.slice gl gn gc) := Lst.fr hg f3 (fun j hj e => by have : k2.next ≤ j := hj.elim (fun e => e) (fun e => e); omega)
      have hgl : g.length + l2.length = l.length := by rw [hl, List.length_append]
      obtain ⟨gv', k4, e4, hg4, f4, _⟩ := hg3.app (ys := l2) (css' := css) 8 rfl (bytes := 80) (n := l2.length) (hall.moves fun j hj hjl => ⟨⟨by omega, fun e => by have := (hg.blk_ge e).2; omega⟩, rfl⟩) rfl (by omega) (by omega) (by have := f3.1; omega)
      rw [← hl] at hg4
      have hst4 : StAt (k.next ≤ ·) k4 k1.next [] 0 := by
        obtain ⟨v7, z7, f7, hg7, hb7, hni7, hf7⟩ := st3
        exact ⟨v7, z7, f7, (f4.2 _ (AHeap.lt_of_alive k3 (by rw [hg7]; simp)) (fun e => by have := (hg.blk_ge e).1; omega)).trans hg7, hb7.fr f4 (fun j hj _ e => by have := (hg.blk_ge e).2; omega), hni7, hf7⟩
      have hq4 : h.quiet k4 := Fw.behind q12 ((f.trans f3 (fun _ _ e => e) (fun _ _ e => e)).trans f4 (V := fun j => k1.next ≤ j) (fun _ _ e => by omega) (fun j hj e => by have := (hg.blk_ge e).1; omega)) (fun j e => by have := q1.1; omega)
      have hgs := hg4.isSl (S := fun _ => True) (fun _ _ _ => trivial) (fun _ _ => trivial)
      obtain ⟨ag, ng, cg, rfl⟩ : ∃ ax nx cx, gv' = .slice ax nx cx := by obtain ⟨ax, cx, e, _⟩ := hg4.len; exact ⟨ax, _, cx, e⟩
      simp only [go_sem, simprocAttr, r0, r5, r7, r8, eac, hall.ones, e4]
      refine cl_spec (Same_ok hgs (hs.quiet hq4)) (fun u h' hp _ => hp.2) ?_
      rintro u k5 ⟨rfl, q5⟩
      simp only [go_sem, simprocAttr, eq_self, decide_true, r7]
      refine cl_spec (sWaits_ok (hst4.quiet q5)) (fun u h' hp _ => by rw [hp.2]; exact .refl _) ?_
      rintro u k6 ⟨rfl, rfl⟩
      simp only [go_sem, simprocAttr, eq_self, decide_true, r7]
      refine cl_spec (sFault_ok (hst4.quiet q5)) (fun u h' hp _ => hp.2) ?_
      rintro u k7 ⟨rfl, q7⟩
      simp only [go_sem, simprocAttr, eq_self, decide_true]
      refine cl_spec salive_ok (fun u h' hp _ => hp.2) ?_
      rintro u k8 ⟨rfl, q8⟩
      simp only [go_sem, simprocAttr, eq_self, decide_true]
end
end Go.Proofs.Ytghohleoodkdgaa
