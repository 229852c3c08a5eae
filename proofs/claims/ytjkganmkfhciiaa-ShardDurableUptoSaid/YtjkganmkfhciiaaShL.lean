/- shard: the law Frozen. -/
import Derived.Test.YtjkganmkfhciiaaShK
set_option linter.unusedSimpArgs false
set_option linter.unusedVariables false
set_option linter.unnecessarySimpa false
set_option maxRecDepth 100000
namespace Go.Proofs.Ytjkganmkfhciiaa
open Go.AM

theorem readL_all {m : Sm} {b : Nat} (g : m.good b) (r : Int) : readL (m.vol r) 0 m.n = (m.vol r, 0) := by
  have hl := m.vol_len r
  have := g.c.n0; have := g.c.n1
  unfold readL
  rw [if_neg (by omega), if_neg (by omega)]
  simp only [Int.toNat_zero, List.drop_zero]
  rw [← hl, List.take_length]
def Sm.same (m m' : Sm) : Prop := m'.n = m.n ∧ m'.ts = m.ts ∧ m'.us = m.us ∧ m'.now = m.now ∧ m'.frozen = m.frozen
theorem Sm.same.vol {m m' : Sm} (s : m.same m') : m'.vol m'.now = m.vol m.now := by
  obtain ⟨h1, h2, h3, h4, _⟩ := s
  unfold Sm.vol
  rw [h1, h2, h3, h4]
theorem frozen_act {m : Sm} (hf : m.frozen = true) {a : SAct} (h2 : a.kd % 8 ≠ 2) (h6 : a.kd % 8 ≠ 6) : m.same (m.act a).2 ∧ ((a.kd % 8 = 0 ∨ a.kd % 8 = 5) → (m.act a).1 ≠ 0) := by
  have r : m.same m := ⟨rfl, rfl, rfl, rfl, rfl⟩
  have e := Nat.mod_lt a.kd (show 0 < 8 by omega)
  unfold Sm.act
  by_cases k0 : a.kd % 8 = 0
  · rw [if_pos k0]
    unfold Sm.doOp
    by_cases c : a.op.fits m.n
    · rw [if_neg (Decidable.not_not.2 c), if_pos hf]; exact ⟨r, fun _ => (by decide : (11 : Int) ≠ 0)⟩
    · rw [if_pos c]; exact ⟨r, fun _ => (by decide : (1 : Int) ≠ 0)⟩
  rw [if_neg k0]
  by_cases k1 : a.kd % 8 = 1
  · rw [if_pos k1]; exact ⟨r, by omega⟩
  rw [if_neg k1, if_neg h2]
  by_cases k3 : a.kd % 8 = 3
  · rw [if_pos k3]
    refine ⟨?_, by omega⟩
    unfold Sm.snap
    by_cases c1 : a.id < 1
    · rw [if_pos c1]; exact r
    rw [if_neg c1]
    by_cases c2 : (m.find a.id).2 = 0
    · rw [if_pos c2]; exact r
    rw [if_neg c2]
    by_cases c3 : 32 ≤ m.snaps.length
    · rw [if_pos c3]; exact r
    rw [if_neg c3]; exact r
  rw [if_neg k3]
  by_cases k4 : a.kd % 8 = 4
  · rw [if_pos k4]
    refine ⟨?_, by omega⟩
    unfold Sm.delete
    by_cases c1 : (m.find a.id).2 ≠ 0
    · rw [if_pos c1]; exact r
    · rw [if_neg c1]; exact r
  rw [if_neg k4]
  by_cases k5 : a.kd % 8 = 5
  · rw [if_pos k5]
    unfold Sm.rollback
    dsimp only
    rw [if_pos (.inr hf)]
    refine ⟨r, fun _ => ?_⟩
    by_cases c1 : (m.find a.id).2 ≠ 0
    · rw [if_pos c1]; exact c1
    · rw [if_neg c1, if_pos hf]; decide
  rw [if_neg k5, if_neg h6]
  exact ⟨r, by omega⟩
theorem and63 (n : Int) : ∃ k : Nat, k < 64 ∧ ∀ (h : AHeap) (t : TypeId), abin Try.prog h .and t (.int .i64 n) (.int .i64 63) = some (.int .i64 (k : Nat)) := by
  have h : (BitVec.ofInt 64 n &&& BitVec.ofInt 64 63).toNat ≤ 63 := by
    rw [BitVec.toNat_and]; exact Nat.and_le_right
  refine ⟨_, Nat.lt_succ_of_le h, fun hp t => ?_⟩
  rw [abin_and]
  show some (Value.int .i64 (IntKind.i64.wrap ((BitVec.ofInt 64 n &&& BitVec.ofInt 64 63).toNat : Int))) = _
  rw [wi64] <;> omega
theorem sa_put (a : SAct) (v w : Value) : putCells [.int .u8 0, .int .i64 0, .int .i64 0, .int .i64 0, .slice none 0 0, .int .i64 0, .bool false, .slice none 0 0] 0 (a.cs v w) = a.cs v w := rfl
theorem replay_n : ∀ (os : List Bop) (ks : List Bool) (m : Sm), (m.replay os ks).n = m.n
  | [], _, _ => rfl
  | _ :: _, [], _ => rfl
  | o :: os, k :: ks, m => by
    rw [Sm.replay_cons, replay_n os ks]
    cases k <;> rfl
theorem act_n (m : Sm) (a : SAct) : (m.act a).2.n = m.n := by
  unfold Sm.act
  by_cases k0 : a.kd % 8 = 0
  · rw [if_pos k0]; unfold Sm.doOp; repeat' split
    all_goals rfl
  rw [if_neg k0]
  by_cases k1 : a.kd % 8 = 1
  · rw [if_pos k1]; rfl
  rw [if_neg k1]
  by_cases k2 : a.kd % 8 = 2
  · rw [if_pos k2]
  rw [if_neg k2]
  by_cases k3 : a.kd % 8 = 3
  · rw [if_pos k3]; unfold Sm.snap; repeat' split
    all_goals rfl
  rw [if_neg k3]
  by_cases k4 : a.kd % 8 = 4
  · rw [if_pos k4]; unfold Sm.delete; repeat' split
    all_goals rfl
  rw [if_neg k4]
  by_cases k5 : a.kd % 8 = 5
  · rw [if_pos k5]; unfold Sm.rollback; dsimp only; split <;> rfl
  rw [if_neg k5]
  by_cases k6 : a.kd % 8 = 6
  · rw [if_pos k6]; unfold Sm.crash Sm.flush; exact replay_n _ _ _
  rw [if_neg k6]
section
variable {own own' own'' : Nat → Nat} {h h' h'' : AHeap} {S S' : Nat → Prop} {m : Sm} {id : Nat} {v w : Value} {b : Nat}
theorem frozenLaw_ok {n : Int} {xs ys : List SAct} {vs ws : Value} (hn : inI n) (hx : IsSl rSAct (· < h.next) h xs vs) (hy : IsSl rSAct (· < h.next) h ys ws) (hxl : xs.length ≤ 1048576) (hyl : ys.length ≤ 1048576) :
    Does Try.prog 3 #[.int .i64 n, vs, ws] h (fun u h' => u = .bool true ∧ h.quiet h') := by
  obtain ⟨ax, cx, rfl⟩ := hx.shape
  obtain ⟨ay, cy, rfl⟩ := hy.shape
  obtain ⟨N, hN, eN⟩ := and63 n
  obtain ⟨X, hX⟩ : ∃ X, Value.int .i64 n = X := ⟨_, rfl⟩
  rw [hX] at eN ⊢
  refine spec_go mixed Try.func3 rfl Try.results3 (n := Try.f3.ntmps) (by kernel_rfl) (by simp) ?_
  simp only [go_sem, simprocAttr, eN]
  refine cl_spec (snew_ok (own := fun _ => 0) (n := N) (by unfold inI; omega)) (fun _ _ _ hc => absurd hc (by decide +kernel)) ?_
  rintro u k ⟨q, ⟨_, _, id, ow, rfl, hid, a, k0⟩ | ⟨h4, _⟩⟩
  rotate_left
  · exact absurd (by omega) h4
  simp only [go_sem, simprocAttr]
  refine cl_spec alive_ok (fun _ _ _ hc => absurd hc (by decide +kernel)) ?_
  rintro u k1 ⟨rfl, q1⟩
  have a1 := a.quiet q1 0
  have kk1 : Ks shT (fun _ => 0) h (bump ow k 0) k1 := (k0.weaken fun t e => e.elim).trans (.quiet q1 0)
  have g1 := Sm.new_good (n := N) (by omega) (by omega)
  simp only [go_sem, simprocAttr]
  refine go_cutb (fun ρ k => ∃ (m : Sm) (ow : Nat → Nat) (b : Nat), b ≤ xs.length ∧ m.good b ∧ m.n = N ∧ ShAt ow k id m ∧ Ks shT (fun _ => 0) h ow k ∧ ρ 0 = .int .i64 N ∧ ρ 2 = .slice ay ys.length cy ∧ ρ 7 = .pointer (some ⟨id, 0, none⟩)) ?_ ?_
  · refine go_loop (fun z ρ k => ∃ (i : Nat) (m : Sm) (ow : Nat → Nat), i ≤ xs.length ∧ z = xs.length - i ∧ m.good i ∧ m.n = N ∧ ShAt ow k id m ∧ Ks shT (fun _ => 0) h ow k ∧ ρ 0 = .int .i64 N ∧ ρ 2 = .slice ay ys.length cy ∧ ρ 7 = .pointer (some ⟨id, 0, none⟩) ∧ ρ 35 = .slice ax xs.length cx ∧ ρ 36 = .int .i64 xs.length ∧ ρ 37 = .int .i64 i) xs.length
      ⟨0, _, _, by omega, by omega, g1, rfl, a1, kk1, by simp only [go_sem, simprocAttr]⟩ ?_
    rintro z ρ k ⟨i, m, ow, hi, rfl, gm, hmn, am, kk, r0, r2, r7, r35, r36, r37⟩
    simp only [go_sem, simprocAttr, r0, r2, r7, r35, r36, r37]
    refine cnd_decide (fun hy => ?_) (fun hy => ?_)
    · have h1 : i < xs.length := by omega
      have e37 : IntKind.i64.wrap ((i : Int) + 1) = ((i + 1 : Nat) : Int) := by rw [wi64] <;> omega
      have hxk := hx.mono (S' := (· < h.next)) (h' := k) fun j hj _ => ⟨hj, (kk.2 j hj).2 (by show ¬ shT 0; unfold shT; omega)⟩
      obtain ⟨jb, off, sp, cc, md, x, xv, xw, hA, hSb, hgb, hxi, hxv, hxw, hxin, hle, hdt⟩ := IsSl.atS hxk h1
      subst hA
      obtain ⟨av, cv, rfl⟩ := hxv.shape
      obtain ⟨aw, cw, rfl⟩ := hxw.shape
      simp only [go_sem, simprocAttr, r7, r35, r37, h1, hgb, hle, hdt, sa_len, sa_one, sa_take, sa_put]
      have qp : k.quiet (k.push (.cells (x.cs (.slice av x.op.data.length cv) (.slice aw x.keep.length cw)) .rw)) := .push _ _
      have kkp := kk.trans (Ks.quiet (T := shT) qp 0)
      refine cl_spec (does_ok (am.quiet qp 0) gm (by omega) hxin (hxv.quiet qp) (hxw.quiet qp) (fun j hj => by rw [(kkp.2 j hj).1]; show (0 : Nat) ≠ 1 ∧ (0 : Nat) ≠ 6 ∧ (0 : Nat) ≠ 7; decide)) (fun _ _ _ hc => absurd hc (by decide +kernel)) ?_
      rintro u k2 ⟨rfl, ow2, a2, k12⟩
      simp only [go_sem, simprocAttr, r37, e37]
      exact Hold.mk ⟨xs.length - (i + 1), by omega, i + 1, _, ow2, by omega, rfl, gm.act (by omega) hxin.2.1, by rw [act_n]; exact hmn, a2, kkp.trans k12, by simp only [go_sem, simprocAttr, r0, r2, r7, r35, r36]⟩
    · simp only [go_sem, simprocAttr]
      exact Hold.mk ⟨m, ow, i, hi, gm, hmn, am, kk, by simp only [go_sem, simprocAttr, r0, r2, r7]⟩
  · rintro ρ k ⟨m, ow, b, hb, gm, hmn, am, kk, r0, r2, r7⟩
    simp only [go_sem, simprocAttr, r0, r2, r7]
    refine cl_spec (sFreeze_ok am) (fun _ _ _ hc => absurd hc (by decide +kernel)) ?_
    rintro u k2 ⟨rfl, a2, k12⟩
    have g2 : ({ m with frozen := true } : Sm).good b := by
      obtain ⟨x1, x2, x3, x4, x5, x6, x7, x8, x9, x10, x11, x12⟩ := gm
      exact ⟨x1, x2, x3, x4, x5, x6, x7, x8, x9, x10, x11, x12⟩
    have kk2 := kk.trans (k12.weaken (T' := shT) fun t e => by subst e; unfold shT; decide)
    simp only [go_sem, simprocAttr, r0, r2, r7]
    refine cl_spec (sRead_ok a2 g2 (off := 0) (n := N) (by unfold inJ; omega) (by unfold inJ; omega)) (fun _ _ _ hc => absurd hc (by decide +kernel)) ?_
    have hrd0 : readL (({ m with frozen := true } : Sm).vol ({ m with frozen := true } : Sm).now) 0 N = (({ m with frozen := true } : Sm).vol m.now, 0) := by rw [← hmn]; exact readL_all g2 m.now
    rw [hrd0]
    rintro u k3 ⟨w3, rfl, wr3, q3⟩
    obtain ⟨a3, c3, rfl⟩ := wr3.shape
    have a3' := a2.quiet q3 0
    have kk3 := kk2.trans (Ks.quiet (T := shT) q3 0)
    have wr3' : Words (fun j => bump ow k2 0 j = 0) k3 (({ m with frozen := true } : Sm).vol m.now) (.slice a3 (({ m with frozen := true } : Sm).vol m.now).length c3) := wr3.weaken fun j hj => bump_ge hj
    obtain ⟨m0, hm0⟩ : ∃ m0 : Sm, { m with frozen := true } = m0 := ⟨_, rfl⟩
    have hv0 : ({ m with frozen := true } : Sm).vol m.now = m0.vol m0.now := by rw [← hm0]
    have hn0 : m0.n = N := by rw [← hm0]; exact hmn
    have hf0 : m0.frozen = true := by rw [← hm0]
    dsimp only
    rw [hv0] at wr3' ⊢
    rw [hm0] at g2 a3'
    clear wr3 a2 hv0
    obtain ⟨ow3, how3⟩ : ∃ ow3, bump ow k2 0 = ow3 := ⟨_, rfl⟩
    rw [how3] at wr3' a3' kk3
    simp only [go_sem, simprocAttr, r0, r2, r7]
    refine go_loop (fun z ρ k => ∃ (i : Nat) (m' : Sm) (ow : Nat → Nat), i ≤ ys.length ∧ z = ys.length - i ∧ m'.good (b + i) ∧ m0.same m' ∧ ShAt ow k id m' ∧ Ks shT (fun _ => 0) h ow k ∧ Words (fun j => ow j = 0) k (m0.vol m0.now) (.slice a3 (m0.vol m0.now).length c3) ∧
      ρ 0 = .int .i64 N ∧ ρ 7 = .pointer (some ⟨id, 0, none⟩) ∧ ρ 11 = .slice a3 (m0.vol m0.now).length c3 ∧ ρ 53 = .slice ay ys.length cy ∧ ρ 54 = .int .i64 ys.length ∧ ρ 55 = .int .i64 i) ys.length
      ⟨0, m0, ow3, by omega, by omega, g2, ⟨rfl, rfl, rfl, rfl, rfl⟩, a3', kk3, wr3', by simp only [go_sem, simprocAttr, r0, r7]⟩ ?_
    rintro z ρ k4 ⟨i, m', ow, hi, rfl, gm', sm, am', kk', wv', s0, s7, s11, s53, s54, s55⟩
    simp only [go_sem, simprocAttr, s0, s7, s11, s53, s54, s55]
    refine cnd_decide (fun hlt => ?_) (fun hlt => ?_)
    · have h1 : i < ys.length := by omega
      have e55 : IntKind.i64.wrap ((i : Int) + 1) = ((i + 1 : Nat) : Int) := by rw [wi64] <;> omega
      have hyk := hy.mono (S' := (· < h.next)) (h' := k4) fun j hj _ => ⟨hj, (kk'.2 j hj).2 (by show ¬ shT 0; unfold shT; omega)⟩
      obtain ⟨jb, off, sp, cc, md, x, xv, xw, hA, hSb, hgb, hxi, hxv, hxw, hxin, hle, hdt⟩ := IsSl.atS hyk h1
      subst hA
      obtain ⟨av, cv, rfl⟩ := hxv.shape
      obtain ⟨aw, cw, rfl⟩ := hxw.shape
      have f0 := seg_get hdt (k := 0) (by omega)
      rw [Nat.add_zero, sa_0] at f0
      obtain ⟨r, hr⟩ : ∃ r, x.kd % 8 = r := ⟨_, rfl⟩
      have et : ((x.kd : Nat) : Int).tmod 8 = (r : Int) := by rw [← hr]; rfl
      simp only [go_sem, simprocAttr, s0, s7, s11, s53, s54, s55, h1, hgb, hle, hdt, sa_len, sa_one, sa_take, sa_put, sa_0, et]
      have qp : k4.quiet (k4.push (.cells (x.cs (.slice av x.op.data.length cv) (.slice aw x.keep.length cw)) .rw)) := .push _ _
      have gp : (k4.push (.cells (x.cs (.slice av x.op.data.length cv) (.slice aw x.keep.length cw)) .rw)).get k4.next = .cells (x.cs (.slice av x.op.data.length cv) (.slice aw x.keep.length cw)) .rw := by simp
      generalize k4.push (.cells (x.cs (.slice av x.op.data.length cv) (.slice aw x.keep.length cw)) .rw) = k5 at qp gp
      have kkp := kk'.trans (Ks.quiet (T := shT) qp 0)
      have amp := am'.quiet qp 0
      have wvp : Words (fun j => bump ow k4 0 j = 0) k5 (m0.vol m0.now) (.slice a3 (m0.vol m0.now).length c3) := wv'.mono fun j hj hl => ⟨by rw [bump_lt hl]; exact hj, qp.2 j hl⟩
      obtain ⟨ow5, how5⟩ : ∃ ow5, bump ow k4 0 = ow5 := ⟨_, rfl⟩
      rw [how5] at kkp amp wvp
      have hown : ow5 k4.next = 0 := by rw [← how5]; exact bump_ge (Nat.le_refl _)
      have skip : ∀ ρ' : Env, ρ' 0 = .int .i64 N → ρ' 7 = .pointer (some ⟨id, 0, none⟩) → ρ' 11 = .slice a3 (m0.vol m0.now).length c3 → ρ' 53 = .slice (some ⟨jb, off, sp⟩) ys.length cy → ρ' 54 = .int .i64 ys.length → ρ' 55 = .int .i64 (i + 1 : Nat) → ∃ z', z' < ys.length - i ∧ ∃ (i : Nat) (m' : Sm) (ow : Nat → Nat), i ≤ ys.length ∧ z' = ys.length - i ∧ m'.good (b + i) ∧ m0.same m' ∧ ShAt ow k5 id m' ∧ Ks shT (fun _ => 0) h ow k5 ∧ Words (fun j => ow j = 0) k5 (m0.vol m0.now) (.slice a3 (m0.vol m0.now).length c3) ∧
          ρ' 0 = .int .i64 N ∧ ρ' 7 = .pointer (some ⟨id, 0, none⟩) ∧ ρ' 11 = .slice a3 (m0.vol m0.now).length c3 ∧ ρ' 53 = .slice (some ⟨jb, off, sp⟩) ys.length cy ∧ ρ' 54 = .int .i64 ys.length ∧ ρ' 55 = .int .i64 i :=
        fun ρ' e1 e2 e3 e4 e5 e6 => ⟨ys.length - (i + 1), by omega, i + 1, m', ow5, by omega, rfl, gm'.mono (by omega), sm, amp, kkp, wvp, e1, e2, e3, e4, e5, e6⟩
      by_cases k2_ : r = 2
      · simp only [go_sem, simprocAttr, k2_, s55, e55]
        refine Hold.mk (skip _ ?_ ?_ ?_ ?_ ?_ ?_)
        all_goals simp only [go_sem, simprocAttr, s0, s7, s11, s53, s54]
      · by_cases k6_ : r = 6
        · simp only [go_sem, simprocAttr, k2_, k6_, gp, sa_0, et, s55, e55]
          refine Hold.mk (skip _ ?_ ?_ ?_ ?_ ?_ ?_)
          all_goals simp only [go_sem, simprocAttr, s0, s7, s11, s53, s54]
        · have k2' : ¬ (r : Int) = 2 := by omega
          have k6' : ¬ (r : Int) = 6 := by omega
          simp only [go_sem, simprocAttr, k2', k6', gp, sa_0, et, s0, s7, s11, s55, sa_len, sa_take]
          refine cl_spec (does_ok amp gm' (by omega) hxin (hxv.quiet qp) (hxw.quiet qp) (fun j hj => by rw [(kkp.2 j hj).1]; show (0 : Nat) ≠ 1 ∧ (0 : Nat) ≠ 6 ∧ (0 : Nat) ≠ 7; decide)) (fun _ _ _ hc => absurd hc (by decide +kernel)) ?_
          rintro u k6 ⟨rfl, ow6, a6, k56⟩
          obtain ⟨sa, sz⟩ := frozen_act (a := x) (sm.2.2.2.2.trans hf0) (by rw [hr]; exact k2_) (by rw [hr]; exact k6_)
          rw [hr] at sz
          have gm6 := gm'.act (a := x) (by omega) hxin.2.1
          have sm6 : m0.same (m'.act x).2 := ⟨sa.1.trans sm.1, sa.2.1.trans sm.2.1, sa.2.2.1.trans sm.2.2.1, sa.2.2.2.1.trans sm.2.2.2.1, sa.2.2.2.2.trans sm.2.2.2.2⟩
          have kk6 := kkp.trans k56
          have wv6 : Words (fun j => ow6 j = 0) k6 (m0.vol m0.now) (.slice a3 (m0.vol m0.now).length c3) := wvp.mono fun j hj hl => ⟨(k56.2 j hl).1.trans hj, (k56.2 j hl).2 (by rw [hj]; unfold shT; omega)⟩
          obtain ⟨m6, hm6⟩ : ∃ m6, (m'.act x).2 = m6 := ⟨_, rfl⟩
          obtain ⟨e6, he6⟩ : ∃ e6, (m'.act x).1 = e6 := ⟨_, rfl⟩
          rw [hm6] at gm6 sm6 a6
          rw [he6] at sz
          have l5 := AHeap.lt_of_alive k5 (i := k4.next) (by rw [gp]; simp)
          have g6 := ((k56.2 _ l5).2 (by rw [hown]; unfold shT; omega)).trans gp
          rw [he6]
          simp only [go_sem, simprocAttr, s0, s7]
          refine cl_spec (sRead_ok a6 gm6 (off := 0) (n := N) (by unfold inJ; omega) (by unfold inJ; omega)) (fun _ _ _ hc => absurd hc (by decide +kernel)) ?_
          have hrd : readL (m6.vol m6.now) 0 N = (m0.vol m0.now, 0) := by rw [← hn0, ← sm6.1, readL_all gm6, sm6.vol]
          rw [hrd]
          rintro u k7 ⟨w7, rfl, wr7, q7⟩
          obtain ⟨a7, c7, rfl⟩ := wr7.shape
          have a7' := a6.quiet q7 0
          have kk7 := kk6.trans (Ks.quiet (T := shT) q7 0)
          have wv7 : Words (fun j => bump ow6 k6 0 j = 0) k7 (m0.vol m0.now) (.slice a3 (m0.vol m0.now).length c3) := wv6.mono fun j hj hl => ⟨by rw [bump_lt hl]; exact hj, q7.2 j hl⟩
          simp only [go_sem, simprocAttr, s7]
          refine cl_spec (sFrozen_ok a7') (fun _ _ _ hc => absurd hc (by decide +kernel)) ?_
          rintro u k8 ⟨rfl, rfl⟩
          rw [sm6.2.2.2.2, hf0]
          simp only [go_sem, simprocAttr, s11]
          refine cl_spec (Words_ok wv7 wr7) (fun _ _ _ hc => absurd hc (by decide +kernel)) ?_
          rintro u k8' ⟨rfl, rfl⟩
          have l6 := Nat.lt_of_lt_of_le l5 k56.1
          have g7 := (q7.2 _ l6).trans g6
          have fin : ∀ ρ' : Env, ρ' 0 = .int .i64 N → ρ' 7 = .pointer (some ⟨id, 0, none⟩) → ρ' 11 = .slice a3 (m0.vol m0.now).length c3 → ρ' 53 = .slice (some ⟨jb, off, sp⟩) ys.length cy → ρ' 54 = .int .i64 ys.length → ρ' 55 = .int .i64 (i + 1 : Nat) → ∃ z', z' < ys.length - i ∧ ∃ (i : Nat) (m' : Sm) (ow : Nat → Nat), i ≤ ys.length ∧ z' = ys.length - i ∧ m'.good (b + i) ∧ m0.same m' ∧ ShAt ow k8' id m' ∧ Ks shT (fun _ => 0) h ow k8' ∧ Words (fun j => ow j = 0) k8' (m0.vol m0.now) (.slice a3 (m0.vol m0.now).length c3) ∧
              ρ' 0 = .int .i64 N ∧ ρ' 7 = .pointer (some ⟨id, 0, none⟩) ∧ ρ' 11 = .slice a3 (m0.vol m0.now).length c3 ∧ ρ' 53 = .slice (some ⟨jb, off, sp⟩) ys.length cy ∧ ρ' 54 = .int .i64 ys.length ∧ ρ' 55 = .int .i64 i :=
            fun ρ' e1 e2 e3 e4 e5 e6 => ⟨ys.length - (i + 1), by omega, i + 1, m6, _, by omega, rfl, gm6, sm6, a7', kk7, wv7, e1, e2, e3, e4, e5, e6⟩
          by_cases ez : e6 = 0
          · have r0' : ¬ (r : Int) = 0 := fun e => sz (.inl (by omega)) ez
            have r5' : ¬ (r : Int) = 5 := fun e => sz (.inr (by omega)) ez
            simp only [go_sem, simprocAttr, ez, decide_true, g7, sa_0, et, r0', r5', s55, e55]
            refine Hold.mk (fin _ ?_ ?_ ?_ ?_ ?_ ?_)
            all_goals simp only [go_sem, simprocAttr, s0, s7, s11, s53, s54]
          · simp only [go_sem, simprocAttr, ez, decide_false, s55, e55]
            refine Hold.mk (fin _ ?_ ?_ ?_ ?_ ?_ ?_)
            all_goals simp only [go_sem, simprocAttr, s0, s7, s11, s53, s54]
    · simp only [go_sem, simprocAttr]
      exact kk'.quiet0 fun j => by show ¬ shT 0; unfold shT; omega
end
end Go.Proofs.Ytjkganmkfhciiaa
