/- shard: the law Nobody, walked. -/
import Derived.Test.YtjkganmkfhciiaaShT
set_option linter.unusedSimpArgs false
set_option linter.unusedVariables false
set_option linter.unnecessarySimpa false
set_option maxRecDepth 100000
namespace Go.Proofs.Ytjkganmkfhciiaa
open Go.AM

section
variable {own own' own'' : Nat → Nat} {h h' h'' : AHeap} {S S' : Nat → Prop} {m : Sm} {id : Nat} {v w : Value} {b : Nat}
theorem lst_up {lo : Nat} {k k' : AHeap} {xs : List Nat} (l : Lst rW lo (fun _ => False) k xs v) {lo' : Nat} (hl : lo' ≤ lo) : Lst rW lo' (fun _ => False) k xs v := l.mono hl (Nat.le_refl _) (fun _ e _ _ => e.elim) (fun _ _ _ => rfl)
theorem breadL_ok {ws : List Nat} (hv : Words S h ws v) {off n : Int} (h1 : inJ off) (h2 : inJ n) : Does Try.prog 30 #[v, .int .i64 off, .int .i64 n] h
    (fun u h' => ∃ w, u = .tuple #[w, .int .i64 (readL ws off n).2] ∧ Lst rW h.next (fun _ => False) h' (readL ws off n).1 w ∧ h.quiet h') := by
  obtain ⟨a, c, rfl⟩ := hv.shape
  have hl := hv.len
  unfold readL
  refine spec_go mixed Try.func30 rfl Try.results30 (n := Try.f30.ntmps) (by kernel_rfl) (by simp) ?_
  simp only [go_sem, simprocAttr]
  by_cases c1 : 1024 < ws.length
  · have c1' : (1024 : Int) < ws.length := by omega
    simp only [go_sem, simprocAttr, c1', c1, decide_true, if_true]
    exact ⟨_, rfl, .nil _ _ _ _⟩
  · have c1' : ¬ (1024 : Int) < ws.length := by omega
    simp only [go_sem, simprocAttr, c1', c1, decide_false, if_false]
    refine cl_spec (lies_ok (by unfold inJ; omega) h1 h2) (fun _ _ _ hc => absurd hc (by decide +kernel)) ?_
    rintro u k ⟨rfl, rfl⟩
    by_cases c2 : 0 ≤ off ∧ 0 ≤ n ∧ n ≤ ws.length ∧ off ≤ ws.length - n
    · have e1 : IntKind.i64.wrap (off + n) = off + n := by rw [wi64] <;> omega
      obtain ⟨a', cap', es, hs⟩ := hv.sliceI 1 rfl (l := off) (m := off + n) c2.1 (by omega) (by omega)
      simp only [go_sem, simprocAttr, decide_eq_true c2, e1, if_neg (Decidable.not_not.2 c2), es]
      have en : (off + n).toNat - off.toNat = n.toNat := by omega
      rw [en] at hs ⊢
      refine cl_spec (cloneW_ok hs (by have := hs.len; omega)) (fun _ _ _ hc => absurd hc (by decide +kernel)) ?_
      rintro u k1 ⟨q1, l1⟩
      obtain ⟨au, cu, rfl, _⟩ := l1.len
      simp only [go_sem, simprocAttr]
      exact ⟨_, rfl, l1, q1⟩
    · simp only [go_sem, simprocAttr, decide_eq_false c2, if_pos c2]
      exact ⟨_, rfl, .nil _ _ _ _⟩
theorem sReadL_ok (a : ShAt own h id m) (g : m.good b) {off n : Int} (h1 : inJ off) (h2 : inJ n) : Does Try.prog 12 #[.pointer (some ⟨id, 0, none⟩), .int .i64 off, .int .i64 n] h
    (fun u h' => ∃ w, u = .tuple #[w, .int .i64 (readL (m.vol m.now) off n).2] ∧ Lst rW h.next (fun _ => False) h' (readL (m.vol m.now) off n).1 w ∧ h.quiet h') := by
  refine spec_go mixed Try.func12 rfl Try.results12 (n := Try.f12.ntmps) (by kernel_rfl) (by simp) ?_
  simp only [go_sem, simprocAttr]
  refine cl_spec (sok_ok a) (fun _ _ _ hc => absurd hc (by decide +kernel)) ?_
  rintro u k ⟨rfl, rfl⟩
  have a0 := a
  obtain ⟨ho, fid, uv, ov, mid, rv, hg, c⟩ := a
  unfold shC at hg
  simp only [go_sem, simprocAttr, hg]
  refine cl_spec (svolume_ok a0 g g.now) (fun _ _ _ hc => absurd hc (by decide +kernel)) ?_
  rintro u k1 ⟨w1, q1⟩
  obtain ⟨aw, cw, rfl⟩ := w1.shape
  simp only [go_sem, simprocAttr]
  refine cl_spec (breadL_ok w1 h1 h2) (fun _ _ _ hc => absurd hc (by decide +kernel)) ?_
  rintro u k2 ⟨w, rfl, w2, q2⟩
  obtain ⟨aw2, cw2, rfl, _⟩ := w2.len
  simp only [go_sem, simprocAttr]
  exact ⟨_, rfl, lst_up (k' := k2) w2 q1.1, q1.trans q2⟩
theorem sLookL_ok (a : ShAt own h id m) (g : m.good b) {x off n : Int} (e0 : (m.find x).2 = 0) (h1 : inJ off) (h2 : inJ n) : Does Try.prog 15 #[.pointer (some ⟨id, 0, none⟩), .int .i64 x, .int .i64 off, .int .i64 n] h
    (fun u h' => ∃ w, u = .tuple #[w, .int .i64 (readL (m.vol (m.find x).1) off n).2] ∧ Lst rW h.next (fun _ => False) h' (readL (m.vol (m.find x).1) off n).1 w ∧ h.quiet h') := by
  refine spec_go mixed Try.func15 rfl Try.results15 (n := Try.f15.ntmps) (by kernel_rfl) (by simp) ?_
  simp only [go_sem, simprocAttr]
  refine cl_spec (sfind_ok a) (fun _ _ _ hc => absurd hc (by decide +kernel)) ?_
  rintro u k ⟨rfl, rfl⟩
  simp only [go_sem, simprocAttr, e0]
  refine cl_spec (svolume_ok a g (find_has g e0)) (fun _ _ _ hc => absurd hc (by decide +kernel)) ?_
  rintro u k1 ⟨w1, q1⟩
  obtain ⟨aw, cw, rfl⟩ := w1.shape
  simp only [go_sem, simprocAttr]
  refine cl_spec (breadL_ok w1 h1 h2) (fun _ _ _ hc => absurd hc (by decide +kernel)) ?_
  rintro u k2 ⟨w, rfl, w2, q2⟩
  obtain ⟨aw2, cw2, rfl, _⟩ := w2.len
  simp only [go_sem, simprocAttr]
  exact ⟨_, rfl, lst_up (k' := k2) w2 q1.1, q1.trans q2⟩
theorem vol23 : (sm2 3).vol 1 = [0, 5, 0] := by
  rw [vol_eq (good2 (.inl rfl)) (by unfold Has sm2; decide)]
  show viewL [5] 3 (Tput .nil x5).list = _
  rw [list5]
  decide
theorem vol230 : (sm2 3).vol 0 = [0, 0, 0] := by
  rw [vol_eq (good2 (.inl rfl)) (by unfold Has sm2; decide)]
  rfl
theorem find23 : (sm2 3).find 1 = (1, 0) := by rfl
theorem since23 : (sm2 3).since 0 1 = ([op5], 0) := by
  unfold Sm.since Sm.old
  rw [find23]
  simp only [ne_eq, not_true_eq_false, if_false, false_and, if_true]
  rw [vol23, vol230]
  decide
theorem crash23 : (sm2 3).crash [true] = sm2 3 := by rfl
theorem quiet_ks {k k1 k2 : AHeap} {ow1 ow2 : Nat → Nat} (q : k.quiet k1) (z : ∀ j, j < k.next → ow1 j = 0) (k12 : Ks shT ow1 k1 ow2 k2) : k.quiet k2 ∧ ∀ j, j < k.next → ow2 j = 0 :=
  ⟨⟨Nat.le_trans q.1 k12.1, fun j hj => ((k12.2 j (Nat.lt_of_lt_of_le hj q.1)).2 (by rw [z j hj]; unfold shT; omega)).trans (q.2 j hj)⟩, fun j hj => (k12.2 j (Nat.lt_of_lt_of_le hj q.1)).1.trans (z j hj)⟩
theorem sa_set0 (x : SAct) (v w : Value) (r : Nat) : (x.cs v w).set 0 (.int .u8 (r : Nat)) = ({ x with kd := r } : SAct).cs v w := rfl
theorem nobodyLaw_ok {x : SAct} (hx : x.inI) (hv : Words S h x.op.data v) (hw : IsSl rBool S h x.keep w) : Does Try.prog 7 #[.agg (x.cs v w).toArray] h (fun u h' => u = .bool true ∧ h.quiet h') := by
  obtain ⟨av, cv, rfl⟩ := hv.shape
  obtain ⟨aw, cw, rfl⟩ := hw.shape
  refine spec_go mixed Try.func7 rfl Try.results7 (n := Try.f7.ntmps) (by kernel_rfl) (by simp) ?_
  simp only [go_sem, simprocAttr, sa_len, sa_one, sa_take, sa_put]
  refine go_cutb (fun ρ k => h.quiet k) ?_ ?_
  · refine go_loop (fun z ρ k => ∃ i kd : Nat, i ≤ 2 ∧ z = 2 - i ∧ kd < 256 ∧ h.quiet k ∧ k.get h.next = .cells (({ x with kd := kd } : SAct).cs (.slice av x.op.data.length cv) (.slice aw x.keep.length cw)) .rw ∧ k.get (h.next + 1) = .cells nobC .rw ∧ k.get (h.next + 1 + 1) = .cells [np none, np (some (h.next + 1))] .rw ∧
      ρ 1 = .pointer (some ⟨h.next, 0, none⟩) ∧ ρ 26 = .slice (some ⟨h.next + 1 + 1, 0, none⟩) 2 2 ∧ ρ 27 = .int .i64 2 ∧ ρ 28 = .int .i64 i) 2 ⟨0, x.kd, by omega, by omega, hx.2.2, by simp only [go_sem, simprocAttr], by simp only [go_sem, simprocAttr], by simp only [go_sem, simprocAttr, nobC], by simp only [go_sem, simprocAttr, np, Option.map_none, Option.map_some], by simp only [go_sem, simprocAttr]⟩ ?_
    rintro z ρ k ⟨i, kd, hi, rfl, hkd, q, g0, g1, g2, r1, r26, r27, r28⟩
    simp only [go_sem, simprocAttr, r1, r26, r27, r28]
    refine cnd_decide (fun hy => ?_) (fun hy => ?_)
    · have h1 : i < 2 := by omega
      have h1' : (i : Int) < 2 := by omega
      have e28 : IntKind.i64.wrap ((i : Int) + 1) = ((i + 1 : Nat) : Int) := by rw [wi64] <;> omega
      obtain ⟨p, hp, hnob⟩ : ∃ p, ([np none, np (some (h.next + 1))] : List Value)[0 + i]? = some (np p) ∧ Nob k p := by
        rcases (by omega : i = 0 ∨ i = 1) with rfl | rfl
        · exact ⟨none, rfl, fun _ e => by cases e⟩
        · exact ⟨some (h.next + 1), rfl, fun _ e => by cases e; exact g1⟩
      rw [Nat.zero_add] at hp
      simp only [go_sem, simprocAttr, r26, r28, h1, h1', g2, hp, Nat.zero_add]
      refine cl_spec (nRead_ok hnob) (fun _ _ _ hc => absurd hc (by decide +kernel)) ?_
      rintro u k2 ⟨rfl, rfl⟩
      simp only [go_sem, simprocAttr]
      refine cl_spec (nLook_ok hnob) (fun _ _ _ hc => absurd hc (by decide +kernel)) ?_
      rintro u k3 ⟨rfl, rfl⟩
      simp only [go_sem, simprocAttr]
      refine cl_spec (nSince_ok hnob) (fun _ _ _ hc => absurd hc (by decide +kernel)) ?_
      rintro u k4 ⟨rfl, rfl⟩
      have et : ((kd : Nat) : Int).tmod 6 = ((kd % 6 : Nat) : Int) := rfl
      have l0 := AHeap.lt_of_alive k4 (i := h.next) (by rw [g0]; simp)
      simp only [go_sem, simprocAttr, r1, g0, sa_0, et, sa_set0, sa_len, AHeap.get_set_self _ _ l0, sa_take]
      obtain ⟨k5, hk5⟩ : ∃ k5, k4.set h.next (.cells (({ x with kd := kd % 6 } : SAct).cs (.slice av x.op.data.length cv) (.slice aw x.keep.length cw)) .rw) = k5 := ⟨_, rfl⟩
      have q5 : h.quiet k5 := by rw [← hk5]; exact q.set' (Nat.le_refl _) _
      have n5 : k5.next = k4.next := by rw [← hk5]; simp
      have g05 : k5.get h.next = .cells (({ x with kd := kd % 6 } : SAct).cs (.slice av x.op.data.length cv) (.slice aw x.keep.length cw)) .rw := by rw [← hk5]; exact AHeap.get_set_self _ _ l0
      have g15 : k5.get (h.next + 1) = .cells nobC .rw := by rw [← hk5, AHeap.get_set_ne _ _ (by omega)]; exact g1
      have g25 : k5.get (h.next + 1 + 1) = .cells [np none, np (some (h.next + 1))] .rw := by rw [← hk5, AHeap.get_set_ne _ _ (by omega)]; exact g2
      have hnob5 : Nob k5 p := fun id e => by
        rw [← hk5]
        have := hnob id e
        by_cases e2 : h.next = id
        · rw [← e2, g0] at this
          simp only [AObj.cells.injEq] at this
          exact absurd (congrArg List.length this.1) (by simp [nobC, sa_len])
        · rw [AHeap.get_set_ne _ _ e2]; exact this
      rw [hk5]
      clear hk5
      refine cl_spec (ndoes_ok (x := { x with kd := kd % 6 }) hnob5 ⟨hx.1, hx.2.1, by dsimp only; omega⟩ (hv.quiet q5) (hw.quiet q5) (by dsimp only; omega)) (fun _ _ _ hc => absurd hc (by decide +kernel)) ?_
      rintro u k6 ⟨rfl, q6⟩
      have hnob6 := hnob5.quiet q6
      have w0 : IntKind.i64.wrap 0 = 0 := rfl
      simp only [go_sem, simprocAttr, w0, Int.add_zero]
      refine cl_spec (nFrozen_ok hnob6) (fun _ _ _ hc => absurd hc (by decide +kernel)) ?_
      rintro u k7 ⟨rfl, rfl⟩
      simp only [go_sem, simprocAttr]
      refine cl_spec (nSnaps_ok hnob6) (fun _ _ _ hc => absurd hc (by decide +kernel)) ?_
      rintro u k8 ⟨rfl, rfl⟩
      simp only [go_sem, simprocAttr]
      refine cl_spec (nDirty_ok hnob6) (fun _ _ _ hc => absurd hc (by decide +kernel)) ?_
      rintro u k9 ⟨rfl, rfl⟩
      simp only [go_sem, simprocAttr]
      refine cl_spec (nCrash_ok hnob6) (fun _ _ _ hc => absurd hc (by decide +kernel)) ?_
      rintro u k10 ⟨rfl, rfl⟩
      simp only [go_sem, simprocAttr, r28, e28]
      have lt5 : ∀ j o, k5.get j = o → o ≠ .dead → j < k5.next := fun j o e1 e2 => AHeap.lt_of_alive k5 (by rw [e1]; exact e2)
      refine Hold.mk ⟨2 - (i + 1), by omega, i + 1, kd % 6, by omega, rfl, by omega, q5.trans q6, (q6.2 _ (lt5 _ _ g05 (by simp))).trans g05, (q6.2 _ (lt5 _ _ g15 (by simp))).trans g15, (q6.2 _ (lt5 _ _ g25 (by simp))).trans g25, ?_⟩
      simp only [go_sem, simprocAttr, r1, r26, r27]
    · simp only [go_sem, simprocAttr]
      exact Hold.mk q
  · rintro ρ k q
    simp only [go_sem, simprocAttr]
    refine cl_spec (snew_ok (own := fun _ => 0) (n := 3) (by unfold inI; omega)) (fun _ _ _ hc => absurd hc (by decide +kernel)) ?_
    rintro u k0 ⟨q0, ⟨_, _, id, ow, rfl, hid, a, ks0⟩ | ⟨h4, _⟩⟩
    rotate_left
    · exact absurd (by omega) h4
    simp only [go_sem, simprocAttr]
    have qa : k0.quiet (k0.push (.cells [.int .u64 ((5 : Nat) : Int)] .rw)) := .push _ _
    have w5 := words1 (x := 5) (by decide) (AHeap.get_push_self k0 (.cells [.int .u64 ((5 : Nat) : Int)] .rw))
    have gd5 : (k0.push (.cells [.int .u64 ((5 : Nat) : Int)] .rw)).get k0.next = .cells [.int .u64 ((5 : Nat) : Int)] .rw := AHeap.get_push_self _ _
    have oa := a.quiet qa 0
    have ksa : Ks shT (fun _ => 0) k (bump ow k0 0) (k0.push (.cells [.int .u64 ((5 : Nat) : Int)] .rw)) := (ks0.weaken fun t e => e.elim).trans (.quiet qa 0)
    have od5 : bump ow k0 0 k0.next = 0 := bump_ge (Nat.le_refl _)
    refine cl_spec (sDo_ok (o := op5) oa (Sm.new_good (n := 3) (by omega) (by omega)) (by omega) (by unfold Bop.inI inJ op5; decide) w5) (fun _ _ _ hc => absurd hc (by decide +kernel)) ?_
    rw [do5 (.inl rfl)]
    rintro u k1 ⟨rfl, ow1, a1, k01⟩
    have ld : k0.next < (k0.push (.cells [.int .u64 ((5 : Nat) : Int)] .rw)).next := by simp
    have gd1 := ((k01.2 _ ld).2 (by rw [od5]; unfold shT; omega)).trans gd5
    have od1 := (k01.2 _ ld).1.trans od5
    have ld1 := Nat.lt_of_lt_of_le ld k01.1
    simp only [go_sem, simprocAttr, gd1]
    have kset : Ks (· = 0) ow1 k1 ow1 (k1.set k0.next (.cells [.int .u64 6] .rw)) := .set (T := (· = 0)) od1 _
    have a1' := a1.ks kset (by omega) (by decide)
    have qk1 : k.quiet (k1.set k0.next (.cells [.int .u64 6] .rw)) := by
      have := (ksa.trans k01).quiet0 fun j => by show ¬ shT 0; unfold shT; omega
      exact this.set' q0.1 _
    have z1 : ∀ j, j < k.next → ow1 j = 0 := fun j hj => ((ksa.trans k01).2 j hj).1
    refine cl_spec (sSnap_ok a1' (good1 (.inl rfl)) (by omega) (x := 1) (by unfold inI; omega)) (fun _ _ _ hc => absurd hc (by decide +kernel)) ?_
    rw [snap1 (.inl rfl)]
    rintro u k2 ⟨rfl, ow2, a2, k12⟩
    obtain ⟨qk2, z2⟩ := quiet_ks qk1 z1 k12
    have gm := good2 (n := 3) (.inl rfl)
    simp only [go_sem, simprocAttr]
    refine cl_spec (sReadL_ok a2 gm (off := 0) (n := 3) (by unfold inJ; omega) (by unfold inJ; omega)) (fun _ _ _ hc => absurd hc (by decide +kernel)) ?_
    rw [show (sm2 3).now = 1 from rfl, vol23, show readL [0, 5, 0] 0 3 = ([0, 5, 0], 0) from rfl]
    rintro u k3 ⟨v3, rfl, l3, q3⟩
    obtain ⟨a3, c3, rfl, _⟩ := l3.len
    simp only [go_sem, simprocAttr]
    refine cl_spec (sLookL_ok (a2.quiet q3 0) gm (x := 1) rfl (off := 0) (n := 3) (by unfold inJ; omega) (by unfold inJ; omega)) (fun _ _ _ hc => absurd hc (by decide +kernel)) ?_
    rw [find23, vol23, show readL [0, 5, 0] 0 3 = ([0, 5, 0], 0) from rfl]
    rintro u k4 ⟨v4, rfl, l4, q4⟩
    obtain ⟨a4, c4, rfl, _⟩ := l4.len
    simp only [go_sem, simprocAttr]
    refine cl_spec (sSince_ok (a2.quiet (q3.trans q4) 0) gm (base := 0) (x := 1)) (fun _ _ _ hc => absurd hc (by decide +kernel)) ?_
    rw [since23]
    rintro u k5 ⟨v5, rfl, l5, q5⟩
    obtain ⟨a5, c5, rfl, _⟩ := l5.len
    have a6 := a2.quiet (q3.trans (q4.trans q5)) 0
    have z5 : ∀ j, k2.next ≤ j → bump ow2 k2 0 j = 0 := fun j hj => bump_ge hj
    have z5' : ∀ j, j < k.next → bump ow2 k2 0 j = 0 := fun j hj => (bump_lt (Nat.lt_of_lt_of_le hj qk2.1)).trans (z2 j hj)
    obtain ⟨ow5, how5⟩ : ∃ ow5, bump ow2 k2 0 = ow5 := ⟨_, rfl⟩
    rw [how5] at a6 z5 z5'
    -- what was read stands in objects of its own
    obtain ⟨o1, ccs1, y1, e1, hlo1, hlt1, hg1, hc1, hcl1, _, _, _⟩ := (l3.quiet (q4.trans q5)).setN (i := 1) (by simp)
    obtain ⟨o2, ccs2, y2, e2, hlo2, hlt2, hg2, hc2, hcl2, _, _, _⟩ := (l4.quiet q5).setN (i := 1) (by simp)
    obtain ⟨o3, css, cs, xo, e3, hlo3, hg3, hcl3, hc3, hx3, hr3, _, hn3, _⟩ := l5.put 4 rfl (i := 0) (by simp)
    obtain rfl : xo = op5 := by simpa using hx3.symm
    obtain ⟨dv, rfl, _, ad, rfl, _, _, ⟨e4, _⟩ | ⟨o4, rfl, hlo4, hg4⟩⟩ := rBopO_iff.1 hr3
    · cases e4
    have hcss : css = [op5.cs (.slice (some ⟨o4, 0, some 1⟩) op5.data.length op5.data.length)] := by
      match css, hn3, hc3 with
      | [c], _, hc => simp at hc; rw [hc]
    rw [hcss] at hg3
    subst e1 e2 e3
    have l31 : o1 < k3.next := (l3.blk_ge rfl).2
    have l42 : o2 < k4.next := (l4.blk_ge rfl).2
    have hg3' : k5.get o3 = .cells [.int .i64 1, .int .i64 1, .int .i64 0, .slice (some ⟨o4, 0, some 1⟩) 1 1] (.tail 4) := hg3
    have hg4' : k5.get o4 = .cells [.int .u64 5] (.tail 1) := hg4
    have hlt4 : o4 < k5.next := AHeap.lt_of_alive k5 (by rw [hg4']; simp)
    have h34 : k4.next ≤ o4 := hlo4.1
    have n12 : o2 ≠ o1 := by omega
    have n14 : o4 ≠ o1 := by have := q4.1; omega
    have n24 : o4 ≠ o2 := by omega
    simp only [go_sem, simprocAttr, hg3']
    have f1 : 1 + 1 ≤ ccs1.length := by rw [hcl1]; decide
    have f2 : 1 + 1 ≤ ccs2.length := by rw [hcl2]; decide
    have s12 : ∀ o, (k5.set o1 o).get o2 = .cells ccs2 (.tail 1) := fun o => (AHeap.get_set_ne _ _ (Ne.symm n12)).trans hg2
    have s14 : ∀ o o', ((k5.set o1 o).set o2 o').get o4 = .cells [.int .u64 5] (.tail 1) := fun o o' => ((AHeap.get_set_ne _ _ (Ne.symm n24)).trans (AHeap.get_set_ne _ _ (Ne.symm n14))).trans hg4'
    simp only [go_sem, simprocAttr, hg3', hg1, f1, s12, f2, s14]
    have hge1 : k2.next ≤ o1 := hlo1
    have hge2 : k2.next ≤ o2 := Nat.le_trans q3.1 hlo2
    have hge4 : k2.next ≤ o4 := Nat.le_trans (Nat.le_trans q3.1 q4.1) h34
    have kk1 : ∀ o, Ks (· = 0) ow5 k5 ow5 (k5.set o1 o) := fun o => .set (T := (· = 0)) (z5 _ hge1) _
    have kk2 : ∀ o o', Ks (· = 0) ow5 k5 ow5 ((k5.set o1 o).set o2 o') := fun o o' => (kk1 o).trans (.set (T := (· = 0)) (z5 _ hge2) _)
    have kk3 : ∀ o o' o'', Ks (· = 0) ow5 k5 ow5 (((k5.set o1 o).set o2 o').set o4 o'') := fun o o' o'' => (kk2 o o').trans (.set (T := (· = 0)) (z5 _ hge4) _)
    have qk5 : k.quiet k5 := qk2.trans (q3.trans (q4.trans q5))
    have qk6 : ∀ o o' o'', k.quiet (((k5.set o1 o).set o2 o').set o4 o'') := fun o o' o'' => ((qk5.set' (Nat.le_trans qk2.1 hge1) o).set' (Nat.le_trans qk2.1 hge2) o').set' (Nat.le_trans qk2.1 hge4) o''
    obtain ⟨k6, hk6⟩ : ∃ k6, ((k5.set o1 (.cells (ccs1.set 1 (.int .u64 7)) (.tail 1))).set o2 (.cells (ccs2.set 1 (.int .u64 7)) (.tail 1))).set o4 (.cells [.int .u64 7] (.tail 1)) = k6 := ⟨_, rfl⟩
    have a7 : ShAt ow5 k6 id (sm2 3) := by rw [← hk6]; exact a6.ks (kk3 _ _ _) (by omega) (by decide)
    have q6 : k.quiet k6 := by rw [← hk6]; exact qk6 _ _ _
    have n6 : k6.next = k5.next := by rw [← hk6]; simp
    rw [hk6]
    clear hk6
    have qb : k6.quiet (k6.push (.cells [.bool true] .rw)) := .push _ _
    have wb : IsSl Rep.bool (fun j => j = k6.next) (k6.push (.cells [.bool true] .rw)) [true] (.slice (some ⟨k5.next, 0, none⟩) 1 1) := .fresh (css := [[.bool true]]) (.cons rfl .nil) rfl (by decide) n6.symm (by rw [← n6]; exact AHeap.get_push_self _ _) rfl
    have a8 := a7.quiet qb 0
    refine cl_spec (sCrash_ok (S := fun j => j = k6.next) (ks := [true]) a8 gm (by omega) wb (fun j (hj : j = k6.next) => by rw [hj, bump_ge (Nat.le_refl _)]; decide)) (fun _ _ _ hc => absurd hc (by decide +kernel)) ?_
    rw [crash23]
    rintro u k7 ⟨rfl, ow7, a9, k67⟩
    have zb : ∀ j, j < k.next → bump ow5 k6 0 j = 0 := fun j hj => (bump_lt (Nat.lt_of_lt_of_le hj q6.1)).trans (z5' j hj)
    obtain ⟨qk7, z7⟩ := quiet_ks (q6.trans qb) zb k67
    simp only [go_sem, simprocAttr]
    refine cl_spec (sRead_ok a9 gm (off := 1) (n := 1) (by unfold inJ; omega) (by unfold inJ; omega)) (fun _ _ _ hc => absurd hc (by decide +kernel)) ?_
    rw [show (sm2 3).now = 1 from rfl, vol23, show readL [0, 5, 0] 1 1 = ([5], 0) from rfl]
    rintro u k8 ⟨v8, rfl, wr8, q8⟩
    obtain ⟨a8', c8, rfl⟩ := wr8.shape
    simp only [go_sem, simprocAttr]
    refine cl_spec (sLook_ok (a9.quiet q8 0) gm (x := 1) (off := 1) (n := 1) (by unfold inJ; omega) (by unfold inJ; omega)) (fun _ _ _ hc => absurd hc (by decide +kernel)) ?_
    rw [find23, vol23, show readL [0, 5, 0] 1 1 = ([5], 0) from rfl]
    simp only [ne_eq, not_true_eq_false, if_false]
    rintro u k9 ⟨v9, rfl, wr9, q9⟩
    obtain ⟨a9', c9, rfl⟩ := wr9.shape
    simp only [go_sem, simprocAttr]
    have qc : k9.quiet (k9.push (.cells [.int .u64 ((5 : Nat) : Int)] .rw)) := .push _ _
    have wc := words1 (x := 5) (by decide) (AHeap.get_push_self k9 (.cells [.int .u64 ((5 : Nat) : Int)] .rw))
    refine cl_spec (Words_ok (wr8.quiet (q9.trans qc)) wc) (fun _ _ _ hc => absurd hc (by decide +kernel)) ?_
    rintro u k10 ⟨rfl, rfl⟩
    simp only [go_sem, simprocAttr]
    have qd : (k9.push (.cells [.int .u64 ((5 : Nat) : Int)] .rw)).quiet ((k9.push (.cells [.int .u64 ((5 : Nat) : Int)] .rw)).push (.cells [.int .u64 ((5 : Nat) : Int)] .rw)) := .push _ _
    have wd : Words (fun _ => True) ((k9.push (.cells [.int .u64 ((5 : Nat) : Int)] .rw)).push (.cells [.int .u64 ((5 : Nat) : Int)] .rw)) [5] (.slice (some ⟨k9.next + 1, 0, none⟩) 1 1) := wv_words (vs := [5]) rfl (by decide) (by decide) (by simp only [go_sem, simprocAttr, wv, List.map_cons, List.map_nil]) trivial
    refine cl_spec (Words_ok (wr9.quiet (qc.trans qd)) wd) (fun _ _ _ hc => absurd hc (by decide +kernel)) ?_
    rintro u k10 ⟨rfl, rfl⟩
    simp only [go_sem, simprocAttr]
    refine cl_spec alive_ok (fun _ _ _ hc => absurd hc (by decide +kernel)) ?_
    rintro u k11 ⟨rfl, q11⟩
    simp only [go_sem, simprocAttr]
    exact q.trans (qk7.trans (q8.trans (q9.trans (qc.trans (qd.trans q11)))))
end
end Go.Proofs.Ytjkganmkfhciiaa
