/- shard: what is done to it. -/
import Derived.Test.YtjkganmkfhciiaaShD
set_option linter.unusedSimpArgs false
set_option linter.unusedVariables false
set_option linter.unnecessarySimpa false
set_option maxRecDepth 100000
namespace Go.Proofs.Ytjkganmkfhciiaa
open Go.AM

theorem bo_set3 (m : Bop) (v w : Value) : (m.cs v).set 3 w = m.cs w := rfl
theorem Sm.good.more {m : Sm} {b : Nat} (g : m.good b) {o : Bop} (f : o.fits m.n) (hl : m.opn.length < 256) : ({ m with opn := m.opn ++ [o] } : Sm).good (b + 1) := by
  obtain ⟨a1, a2, a3, a4, a5, a6, a7, a8, a9, a10, a11, a12⟩ := g
  refine ⟨a1, a2, a3, a4, a5, a6, fun x hx => ?_, ?_, a9, ?_, ?_, by dsimp only; omega⟩
  · rcases List.mem_append.1 hx with hx | hx
    · exact a7 x hx
    · obtain rfl : x = o := by simpa using hx
      exact f
  · simp only [List.length_append, List.length_cons, List.length_nil]; omega
  · simp only [List.length_append, List.length_cons, List.length_nil]; omega
  · simp only [List.length_append, List.length_cons, List.length_nil]; omega
section
variable {own own' own'' : Nat → Nat} {h h' h'' : AHeap} {S : Nat → Prop} {m : Sm} {id : Nat} {v : Value} {b : Nat}
theorem sDo_ok (a : ShAt own h id m) (g : m.good b) (hb : b < 1073741824) {o : Bop} (hi : o.inI) (hv : Words S h o.data v) : Does Try.prog 23 #[.pointer (some ⟨id, 0, none⟩), .agg (o.cs v).toArray] h
    (fun u h' => u = .int .i64 (m.doOp o).1 ∧ ∃ own', ShAt own' h' id (m.doOp o).2 ∧ Ks shT own h own' h') := by
  obtain ⟨av, cv, rfl⟩ := hv.shape
  have hN := g.c.n1
  have hN0 := g.c.n0
  unfold Sm.doOp
  refine spec_go mixed Try.func23 rfl Try.results23 (n := Try.f23.ntmps) (by kernel_rfl) (by simp) ?_
  simp only [go_sem, simprocAttr, bo_len, bo_one, bo_take, bo_put]
  have q0 : h.quiet (h.push (.cells (o.cs (.slice av o.data.length cv)) .rw)) := .push _ _
  have g0 : (h.push (.cells (o.cs (.slice av o.data.length cv)) .rw)).get h.next = .cells (o.cs (.slice av o.data.length cv)) .rw := by simp
  generalize h.push (.cells (o.cs (.slice av o.data.length cv)) .rw) = k at q0 g0
  have l0 := AHeap.lt_of_alive k (i := h.next) (by rw [g0]; simp)
  have ak := a.quiet q0 9
  refine cl_spec (sok_ok ak) (fun _ _ _ hc => absurd hc (by decide +kernel)) ?_
  rintro u k' ⟨rfl, rfl⟩
  have hl := a.lt
  obtain ⟨ho, fid, uv, ov, mid, rv, hg, c⟩ := a
  unfold shC at hg
  have hgk := (q0.2 _ hl).trans hg
  obtain ⟨ao, co, rfl⟩ := c.op.slz.shape
  simp only [go_sem, simprocAttr, hgk, g0, bo_len, bo_take]
  refine cl_spec (bright_ok hi (n := m.n) (by unfold inJ; omega) (hv.quiet q0)) (fun _ _ _ hc => absurd hc (by decide +kernel)) ?_
  rintro u k1 ⟨rfl, q1⟩
  have Q1 := q0.trans q1
  have hg1 := (Q1.2 _ hl).trans hg
  have g1 := (q1.2 _ l0).trans g0
  have l1 := Nat.lt_of_lt_of_le l0 q1.1
  by_cases hf : o.fits m.n
  · rw [if_neg (Decidable.not_not.2 hf)]
    cases hz : m.frozen with
    | true =>
      rw [hz] at hg1
      simp only [go_sem, simprocAttr, decide_eq_true hf, hg1]
      refine ⟨bump own h 9, ?_, .quiet Q1 9⟩
      exact ShAt.quiet ⟨ho, fid, _, _, mid, rv, hg, c⟩ Q1 9
    | false =>
      rw [hz] at hg1
      simp only [go_sem, simprocAttr, decide_eq_true hf, hg1]
      by_cases hc : 256 ≤ m.opn.length
      · have hc' : (256 : Int) ≤ m.opn.length := by omega
        simp only [go_sem, simprocAttr, hc', hc, decide_true]
        refine ⟨bump own h 9, ?_, .quiet Q1 9⟩
        exact ShAt.quiet ⟨ho, fid, _, _, mid, rv, hg, c⟩ Q1 9
      · have hc' : ¬ (256 : Int) ≤ m.opn.length := by omega
        simp only [go_sem, simprocAttr, hc', hc, decide_false, g1, bo_3]
        have bd := hf.dat
        refine cl_spec (cloneW_ok (hv.quiet Q1) (by omega)) (fun _ _ _ hc => absurd hc (by decide +kernel)) ?_
        rintro u k2 ⟨q2, l2⟩
        have g2 := (q2.2 _ l1).trans g1
        have lb2 := Nat.lt_of_lt_of_le l1 q2.1
        have Q2 := Q1.trans q2
        have w2 := lst_words l2
        obtain ⟨a2, c2, rfl, _⟩ := l2.len
        simp only [go_sem, simprocAttr, g2, bo_set3, bo_len]
        obtain ⟨k3, hk3⟩ : ∃ k3, k2.set h.next (.cells (o.cs (.slice a2 o.data.length c2)) .rw) = k3 := ⟨_, rfl⟩
        have Q3 : h.quiet k3 := by rw [← hk3]; exact Q2.set' (Nat.le_refl _) _
        have g3 : k3.get h.next = .cells (o.cs (.slice a2 o.data.length c2)) .rw := by rw [← hk3]; exact AHeap.get_set_self _ _ lb2
        have lb3 : h.next < k3.next := by rw [← hk3]; simpa using lb2
        have w3 : Words (fun j => h.next ≤ j) k3 o.data (.slice a2 o.data.length c2) := by
          rw [← hk3]
          refine w2.mono fun j hj _ => ⟨by have := q0.1; have := q1.1; omega, AHeap.get_set_ne _ _ (by omega)⟩
        rw [hk3]
        have hg3 := (Q3.2 _ hl).trans hg
        rw [hz] at hg3
        simp only [go_sem, simprocAttr, hg3, g3, bo_put, bo_len, bo_take, bo_one]
        -- one open op more
        obtain ⟨k4, hk4⟩ : ∃ k4, k3.push (.cells (o.cs (.slice a2 o.data.length c2)) .rw) = k4 := ⟨_, rfl⟩
        have q4 : k3.quiet k4 := by rw [← hk4]; exact .push _ _
        rw [hk4]
        clear hk4 hk3
        obtain ⟨ow4, how4⟩ : ∃ ow4, bump own h 9 = ow4 := ⟨_, rfl⟩
        have ks4 : Ks (fun _ => False) own h ow4 k4 := by rw [← how4]; exact .quiet (Q3.trans q4) 9
        have hge4 : ∀ j, h.next ≤ j → ow4 j = 9 := fun j hj => by rw [← how4]; exact bump_ge hj
        clear how4
        have op4 := c.op.ks ks4 (fun e => e) (fun e => e)
        have c4 := c.ks ks4 (fun _ e => e.elim)
        have hl4 : id < k4.next := Nat.lt_of_lt_of_le hl ks4.1
        have ho4 := (ks4.2 id hl).1.trans ho
        have hg4 := (q4.2 _ (Nat.lt_of_lt_of_le hl Q3.1)).trans hg3
        have w4 := (w3.quiet q4).bound
        have op4' : Lst rBop 0 (fun j => tg ow4 9 j ∧ j < k4.next) k4 m.opn (.slice ao m.opn.length co) := op4.1.mono (Nat.le_refl _) (Nat.le_refl _) (fun j hj hl _ => ⟨⟨hj, hl⟩, rfl⟩) (fun _ _ _ => rfl)
        have hw4 : Words (fun j => (tg ow4 9 j ∧ j < k4.next) ∧ blk (.slice ao m.opn.length co) ≠ some j) k4 o.data (.slice a2 o.data.length c2) :=
          w4.mono fun j hj _ => ⟨⟨⟨hge4 j hj.1, hj.2⟩, fun e => by
            have := op4.2 j e
            rw [hge4 j hj.1] at this; omega⟩, rfl⟩
        have hlen := op4.1.len
        obtain ⟨v5, k5, e5, l5, f5, n5⟩ := op4'.app1 (y := o) (cs := o.cs (.slice a2 o.data.length c2)) (bytes := 48) 4 rfl (rBop_iff.2 ⟨_, rfl, hi, hw4⟩) (by omega) (by omega) (Nat.zero_le _)
        obtain ⟨a5, c5, rfl, _⟩ := l5.len
        have k45 : Ks (· = 8) ow4 k4 (bump ow4 k4 8) k5 := Ks.fw (T := (· = 8)) (own := ow4) f5 (fun j _ e => op4.2 j e) 8
        obtain ⟨ow5, how5⟩ : ∃ ow5, bump ow4 k4 8 = ow5 := ⟨_, rfl⟩
        have hge5 : ∀ j, k4.next ≤ j → ow5 j = 8 := fun j hj => by rw [← how5]; exact bump_ge hj
        rw [how5] at k45
        clear how5
        have op5 : OpL ow5 k5 (m.opn ++ [o]) (.slice a5 (m.opn ++ [o]).length c5) := ⟨l5.weaken fun j hj => (k45.2 j hj.2).1.trans hj.1, fun j hj => by
          rcases n5 with n5 | ⟨ob, n5, hge⟩
          · rw [n5] at hj
            exact (k45.2 j (op4.1.blk_ge hj).2).1.trans (op4.2 j hj)
          · rw [n5] at hj; cases hj; exact hge5 _ hge⟩
        have hg5 := ((k45.2 id hl4).2 (by rw [ho4]; decide)).trans hg4
        have ho5 := (k45.2 id hl4).1.trans ho4
        have hl5 : id < k5.next := Nat.lt_of_lt_of_le hl4 k45.1
        have lb4 : h.next < k4.next := Nat.lt_of_lt_of_le lb3 q4.1
        have g4 := (q4.2 _ lb3).trans g3
        have g5 := ((k45.2 _ lb4).2 (by rw [hge4 _ (Nat.le_refl _)]; decide)).trans g4
        have hw5 : Words (fun j => ow5 j = 9) k5 o.data (.slice a2 o.data.length c2) := w4.mono fun j hj _ => ⟨(k45.2 j hj.2).1.trans (hge4 j hj.1), (k45.2 j hj.2).2 (by rw [hge4 j hj.1]; decide)⟩
        simp only [go_sem, simprocAttr, e5, hg5]
        obtain ⟨k6, hk6⟩ : ∃ k6, k5.set id (.cells [.int .i64 m.n, .pointer (some ⟨fid, 0, none⟩), uv, .int .i64 m.gen, .int .i64 m.now, .int .i64 m.sure, .slice a5 (m.opn ++ [o]).length c5, .map (some mid), rv, .bool false] .rw) = k6 := ⟨_, rfl⟩
        rw [hk6]
        have k56 : Ks (· = 6) ow5 k5 ow5 k6 := by rw [← hk6]; exact Ks.set (T := (· = 6)) ho5 _
        have hg6 : k6.get id = .cells [.int .i64 m.n, .pointer (some ⟨fid, 0, none⟩), uv, .int .i64 m.gen, .int .i64 m.now, .int .i64 m.sure, .slice a5 (m.opn ++ [o]).length c5, .map (some mid), rv, .bool false] .rw := by rw [← hk6]; exact AHeap.get_set_self _ _ hl5
        clear hk6
        have lb5 := Nat.lt_of_lt_of_le lb4 k45.1
        have g6 := ((k56.2 _ lb5).2 (by rw [(k45.2 _ lb4).1, hge4 _ (Nat.le_refl _)]; decide)).trans g5
        have a6 : ShAt ow5 k6 id { m with opn := m.opn ++ [o] } := by
          refine ⟨ho5, fid, uv, _, mid, rv, by unfold shC; dsimp only; rw [hz]; exact hg6, ?_⟩
          exact ⟨(c4.fo.ks k45 (by decide) (by decide)).ks k56 (by decide) (by decide), (c4.un.mono k45.1 (k45.tg (by decide))).mono k56.1 (k56.tg (by decide)), op5.ks k56 (by decide) (by decide), (c4.mp.ks k45 (by decide)).ks k56 (by decide), (c4.od.ks k45 (by decide)).ks k56 (by decide)⟩
        have hw6 : Words (fun j => ow5 j = 9) k6 o.data (.slice a2 o.data.length c2) := hw5.mono fun j hj hl => ⟨hj, (k56.2 j hl).2 (by rw [hj]; decide)⟩
        simp only [go_sem, simprocAttr, hg6, g6, bo_len, bo_take]
        have g6' := g.more hf (by omega)
        refine cl_spec (sdone_ok a6 g6' (by omega) g6'.now hf hi hw6 (fun j hj => by rw [hj]; decide)) (fun _ _ _ hc => absurd hc (by decide +kernel)) ?_
        rintro u k7 ⟨rfl, ow7, a7, k67⟩
        have hl7 := a7.lt
        obtain ⟨ho7, fid7, uv7, ov7, mid7, rv7, hg7, c7⟩ := a7
        unfold shC at hg7
        simp only [go_sem, simprocAttr, hg7]
        have k78 : Ks (· = 6) ow7 k7 ow7 (k7.set id (.cells (shC { m.go o with opn := m.opn ++ [o] } fid7 uv7 ov7 mid7 rv7) .rw)) := .set (T := (· = 6)) ho7 _
        have c8 := c7.ks k78 (by omega)
        refine ⟨ow7, ⟨ho7, fid7, _, _, mid7, rv7, AHeap.get_set_self _ _ hl7, ⟨c8.fo, c8.un, c8.op, c8.mp, c8.od⟩⟩, ?_⟩
        exact (ks4.weaken fun t e => e.elim).trans ((k45.weaken fun t e => by subst e; unfold shT; decide).trans ((k56.weaken fun t e => by subst e; unfold shT; decide).trans ((k67.weaken fun t e => by unfold shT; omega).trans (k78.weaken fun t e => by subst e; unfold shT; decide))))
  · rw [if_pos hf]
    simp only [go_sem, simprocAttr, decide_eq_false hf]
    refine ⟨bump own h 9, ?_, .quiet Q1 9⟩
    exact ShAt.quiet ⟨ho, fid, _, _, mid, rv, hg, c⟩ Q1 9
end
end Go.Proofs.Ytjkganmkfhciiaa
