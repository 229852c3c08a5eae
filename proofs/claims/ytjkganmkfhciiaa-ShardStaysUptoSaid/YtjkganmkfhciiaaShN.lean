/- shard: the law Stays, walked. -/
import Derived.Test.YtjkganmkfhciiaaShM
set_option linter.unusedSimpArgs false
set_option linter.unusedVariables false
set_option linter.unnecessarySimpa false
set_option maxRecDepth 100000
namespace Go.Proofs.Ytjkganmkfhciiaa
open Go.AM

def rTk : Rep (Int × List Nat) := .pair rI rW.list
theorem rTk_iff {S : Nat → Prop} {h : AHeap} {x : Int × List Nat} {cs : List Value} : rTk.R S h x cs ↔ ∃ v, cs = [.int .i64 x.1, v] ∧ inI x.1 ∧ Words S h x.2 v := by
  constructor
  · rintro ⟨c1, c2, rfl, ⟨rfl, h1⟩, v, rfl, h2⟩
    exact ⟨v, rfl, inI_iff.2 h1, h2⟩
  · rintro ⟨v, rfl, h1, h2⟩
    exact ⟨[_], [_], rfl, ⟨rfl, inI_iff.1 h1⟩, v, rfl, h2⟩
theorem IsSl.atT {S : Nat → Prop} {h : AHeap} {xs : List (Int × List Nat)} {a : Option Addr} {n cap : Nat} (hs : IsSl rTk S h xs (.slice a n cap)) {i : Nat} (hi : i < n) :
    ∃ b off sp c md x v, a = some ⟨b, off, sp⟩ ∧ S b ∧ h.get b = .cells c md ∧ xs[i]? = some x ∧ Words S h x.2 v ∧ inI x.1 ∧ off + i * 2 + 2 ≤ c.length ∧ (c.drop (off + i * 2)).take 2 = [.int .i64 x.1, v] := by
  obtain ⟨b, off, sp, c, md, cs, x, h1, h2, h3, h4, h5, h6, h7⟩ := hs.at 2 rfl hi
  obtain ⟨v, rfl, h8, h9⟩ := rTk_iff.1 h5
  exact ⟨b, off, sp, c, md, x, v, h1, h2, h3, h4, h9, h8, h6, h7⟩
def Sm.tk (m : Sm) : List (Int × List Nat) := m.snaps.map fun p => (p.1, m.vol p.2)
theorem delS_tk : ∀ {l : List (Int × Int)} {y : Int} {f : Int → List Nat}, (l.map Prod.fst).Nodup → (l.map fun p => (p.1, f p.2)).filter (fun x => decide (x.1 ≠ y)) = (delS l y).map fun p => (p.1, f p.2)
  | [], _, _, _ => rfl
  | p :: l, y, f, hn => by
    rw [List.map_cons, List.nodup_cons] at hn
    unfold delS
    by_cases e : y = p.1
    · rw [if_pos e, List.map_cons, List.filter_cons_of_neg (by simp [e]), List.filter_eq_self.2 fun x hx => ?_]
      obtain ⟨q, hq, rfl⟩ := List.mem_map.1 hx
      exact decide_eq_true fun e2 => hn.1 (e ▸ e2 ▸ List.mem_map_of_mem hq)
    · rw [if_neg e, List.map_cons, List.map_cons, List.filter_cons_of_pos (by simpa using Ne.symm e), delS_tk hn.2]
theorem tk_act {m : Sm} {b : Nat} (g : m.good b) (a : SAct) : (m.act a).2.tk = if (m.act a).1 = 0 ∧ a.kd % 8 = 3 then m.tk ++ [(a.id, m.vol m.now)] else if (m.act a).1 = 0 ∧ a.kd % 8 = 4 then m.tk.filter (fun x => decide (x.1 ≠ a.id)) else m.tk := by
  have gr := act_grow m a
  have keep : ∀ l : List (Int × Int), (∀ p ∈ l, Has m.ts p.2) → (l.map fun p => (p.1, (m.act a).2.vol p.2)) = l.map fun p => (p.1, m.vol p.2) := fun l hl => List.map_congr_left fun p hp => by rw [vol_grow g.c (hl p hp) gr]
  unfold Sm.tk
  rw [act_snaps]
  split
  · rw [keep _ fun p hp => ?_, List.map_append]; rfl
    rcases List.mem_append.1 hp with hp | hp
    · exact (g.sn p hp).1
    · obtain rfl : p = _ := by simpa using hp
      exact g.now
  split
  · rw [delS_tk g.nd, keep _ fun p hp => (g.sn p ((delS_sub _ _).subset hp)).1]
  · rw [keep _ fun p hp => (g.sn p hp).1]
theorem lookS_of : ∀ {l : List (Int × Int)} {p : Int × Int}, (l.map Prod.fst).Nodup → p ∈ l → lookS l p.1 = some p.2
  | q :: l, p, hn, hp => by
    rw [List.map_cons, List.nodup_cons] at hn
    unfold lookS
    rcases List.mem_cons.1 hp with rfl | hp
    · rw [if_pos rfl]
    · rw [if_neg (show ¬ p.1 = q.1 from fun e => hn.1 (by rw [← e]; exact List.mem_map_of_mem hp))]
      exact lookS_of hn.2 hp
def lawT (t : Nat) : Prop := shT t ∨ t = 20
section
variable {own own' own'' : Nat → Nat} {h h' h'' : AHeap} {S S' : Nat → Prop} {m : Sm} {id : Nat} {v w : Value} {b : Nat}
theorem staysLaw_ok {n : Int} {xs : List SAct} {vs : Value} (hn : inI n) (hx : IsSl rSAct (· < h.next) h xs vs) (hxl : xs.length ≤ 1048576) :
    Does Try.prog 4 #[.int .i64 n, vs] h (fun u h' => u = .bool true ∧ h.quiet h') := by
  obtain ⟨ax, cx, rfl⟩ := hx.shape
  obtain ⟨N, hN, eN⟩ := and63 n
  obtain ⟨X, hX⟩ : ∃ X, Value.int .i64 n = X := ⟨_, rfl⟩
  rw [hX] at eN ⊢
  refine spec_go mixed Try.func4 rfl Try.results4 (n := Try.f4.ntmps) (by kernel_rfl) (by simp) ?_
  simp only [go_sem, simprocAttr, eN]
  refine cl_spec (snew_ok (own := fun _ => 0) (n := N) (by unfold inI; omega)) (fun _ _ _ hc => absurd hc (by decide +kernel)) ?_
  rintro u k ⟨q, ⟨_, _, id, ow, rfl, hid, a, k0⟩ | ⟨h4, _⟩⟩
  rotate_left
  · exact absurd (by omega) h4
  simp only [go_sem, simprocAttr]
  refine cl_spec alive_ok (fun _ _ _ hc => absurd hc (by decide +kernel)) ?_
  rintro u k1 ⟨rfl, q1⟩
  have a1 := a.quiet q1 0
  have kk1 : Ks lawT (fun _ => 0) h (bump ow k 0) k1 := (k0.weaken fun t e => e.elim).trans (.quiet q1 0)
  have g1 := Sm.new_good (n := N) (by omega) (by omega)
  have sh6 : ∀ {ow k ow' k'}, Ks shT ow k ow' k' → Ks lawT ow k ow' k' := fun kk => kk.weaken fun t e => .inl e
  simp only [go_sem, simprocAttr]
  refine go_loop (fun z ρ k => ∃ (i : Nat) (m : Sm) (ow : Nat → Nat) (lv : Value), i ≤ xs.length ∧ z = xs.length - i ∧ m.good i ∧ m.n = N ∧ ShAt ow k id m ∧ OwnD rTk 0 20 ow k m.tk lv ∧ Ks lawT (fun _ => 0) h ow k ∧ ρ 0 = .int .i64 N ∧ ρ 5 = .pointer (some ⟨id, 0, none⟩) ∧ ρ 7 = lv ∧ ρ 36 = .slice ax xs.length cx ∧ ρ 37 = .int .i64 xs.length ∧ ρ 38 = .int .i64 i) xs.length
    ⟨0, _, _, _, by omega, by omega, g1, rfl, a1, .nil, kk1, by simp only [go_sem, simprocAttr]⟩ ?_
  rintro z ρ k ⟨i, m, ow, lv, hi, rfl, gm, hmn, am, lm, kk, r0, r5, r7, r36, r37, r38⟩
  simp only [go_sem, simprocAttr, r0, r5, r7, r36, r37, r38]
  refine cnd_decide (fun hy => ?_) (fun hy => ?_)
  · have h1 : i < xs.length := by omega
    have e38 : IntKind.i64.wrap ((i : Int) + 1) = ((i + 1 : Nat) : Int) := by rw [wi64] <;> omega
    have hxk := hx.mono (S' := (· < h.next)) (h' := k) fun j hj _ => ⟨hj, (kk.2 j hj).2 (by show ¬ lawT 0; unfold lawT shT; omega)⟩
    obtain ⟨jb, off, sp, cc, md, x, xv, xw, hA, hSb, hgb, hxi, hxv, hxw, hxin, hle, hdt⟩ := IsSl.atS hxk h1
    subst hA
    obtain ⟨av, cv, rfl⟩ := hxv.shape
    obtain ⟨aw, cw, rfl⟩ := hxw.shape
    simp only [go_sem, simprocAttr, r0, r5, r36, r38, h1, hgb, hle, hdt, sa_len, sa_one, sa_take, sa_put]
    have qp : k.quiet (k.push (.cells (x.cs (.slice av x.op.data.length cv) (.slice aw x.keep.length cw)) .rw)) := .push _ _
    have gp : (k.push (.cells (x.cs (.slice av x.op.data.length cv) (.slice aw x.keep.length cw)) .rw)).get k.next = .cells (x.cs (.slice av x.op.data.length cv) (.slice aw x.keep.length cw)) .rw := by simp
    generalize k.push (.cells (x.cs (.slice av x.op.data.length cv) (.slice aw x.keep.length cw)) .rw) = k5 at qp gp
    have hrd : readL (m.vol m.now) 0 N = (m.vol m.now, 0) := by rw [← hmn]; exact readL_all gm m.now
    refine cl_spec (sRead_ok (am.quiet qp 0) gm (off := 0) (n := N) (by unfold inJ; omega) (by unfold inJ; omega)) (fun _ _ _ hc => absurd hc (by decide +kernel)) ?_
    rw [hrd]
    rintro u k6 ⟨w6, rfl, wr6, q6⟩
    obtain ⟨a6, c6, rfl⟩ := wr6.shape
    have qq := qp.trans q6
    have g6 := (q6.2 _ (AHeap.lt_of_alive k5 (by rw [gp]; simp))).trans gp
    have am6 := am.quiet qq 0
    have lm6 := lm.ks (T := fun _ => False) (.quiet qq 0) (fun e => e) (fun e => e)
    have hw6 : Words (fun j => bump ow k 0 j = 0) k6 (m.vol m.now) (.slice a6 (m.vol m.now).length c6) := wr6.weaken fun j hj => bump_ge (Nat.le_trans qp.1 hj)
    have kk6 : Ks lawT (fun _ => 0) h (bump ow k 0) k6 := kk.trans (.quiet qq 0)
    have ho6 : bump ow k 0 k.next = 0 := bump_ge (Nat.le_refl _)
    generalize bump ow k 0 = ow6 at am6 lm6 hw6 kk6 ho6
    have l6 : k.next < k6.next := AHeap.lt_of_alive k6 (by rw [g6]; simp)
    simp only [go_sem, simprocAttr, r5, g6, sa_len, sa_take]
    refine cl_spec (does_ok am6 gm (by omega) hxin (hxv.quiet qq) (hxw.quiet qq) (fun j hj => by rw [(kk6.2 j hj).1]; show (0 : Nat) ≠ 1 ∧ (0 : Nat) ≠ 6 ∧ (0 : Nat) ≠ 7; decide)) (fun _ _ _ hc => absurd hc (by decide +kernel)) ?_
    rintro u k7 ⟨rfl, ow7, am7, k67⟩
    have g7 := ((k67.2 _ l6).2 (by rw [ho6]; unfold shT; omega)).trans g6
    have l7 := Nat.lt_of_lt_of_le l6 k67.1
    have ho7 := (k67.2 _ l6).1.trans ho6
    have lm7 := lm6.ks k67 (by unfold shT; omega) (by unfold shT; omega)
    have kk7 := kk6.trans (sh6 k67)
    have hw7 : Words (fun j => ow7 j = 0 ∧ j < k7.next) k7 (m.vol m.now) (.slice a6 (m.vol m.now).length c6) := (hw6.mono fun j hj hl => ⟨(k67.2 j hl).1.trans hj, (k67.2 j hl).2 (by rw [hj]; unfold shT; omega)⟩ : Words (fun j => ow7 j = 0) k7 _ _).bound
    have gm2 := gm.act (a := x) (by omega) hxin.2.1
    have hmn2 : (m.act x).2.n = N := by rw [act_n]; exact hmn
    have htk := tk_act gm x
    obtain ⟨m2, hm2⟩ : ∃ m2, (m.act x).2 = m2 := ⟨_, rfl⟩
    obtain ⟨e2, he2⟩ : ∃ e2, (m.act x).1 = e2 := ⟨_, rfl⟩
    obtain ⟨r, hr⟩ : ∃ r, x.kd % 8 = r := ⟨_, rfl⟩
    have et : ((x.kd : Nat) : Int).tmod 8 = (r : Int) := by rw [← hr]; rfl
    rw [hm2, he2, hr] at htk
    rw [hm2] at gm2 hmn2 am7
    rw [he2]
    simp only [go_sem, simprocAttr]
    refine cnd_join (fun ρ k => ∃ (ow : Nat → Nat) (lv : Value), ShAt ow k id m2 ∧ OwnD rTk 0 20 ow k m2.tk lv ∧ Ks lawT (fun _ => 0) h ow k ∧ ρ 0 = .int .i64 N ∧ ρ 5 = .pointer (some ⟨id, 0, none⟩) ∧ ρ 7 = lv ∧ ρ 36 = .slice (some ⟨jb, off, sp⟩) xs.length cx ∧ ρ 37 = .int .i64 xs.length ∧ ρ 38 = .int .i64 i) ?_ ?_
    · by_cases ez : e2 = 0
      · have hol : m.tk.length ≤ 32 := by unfold Sm.tk; rw [List.length_map]; exact gm.sl
        obtain ⟨al, cl_, rfl⟩ := lm7.slz.shape
        by_cases k3 : r = 3
        · rw [if_pos ⟨ez, k3⟩] at htk
          have k3' : (r : Int) = 3 := by omega
          simp only [go_sem, simprocAttr, ez, decide_true, g7, sa_0, sa_5, et, k3', r7]
          obtain ⟨v8, k8, e8, l8, f8, _, a8, n8, c8, rfl⟩ := lm7.app (by decide) (y := (x.id, m.vol m.now)) (cs := [.int .i64 x.id, .slice a6 (m.vol m.now).length c6]) (bytes := 32) 2 rfl (rTk_iff.2 ⟨_, rfl, hxin.2.1, hw7⟩) (by omega) (by omega)
          simp only [go_sem, simprocAttr, e8]
          have k78 : Ks (· = 20) ow7 k7 (bump ow7 k7 20) k8 := Ks.fw (T := (· = 20)) (own := ow7) f8 (fun j _ e => lm7.2 j e) 20
          refine Hold.mk ⟨_, _, am7.ks k78 (by omega) (by decide), by rw [htk]; exact l8, kk7.trans (k78.weaken fun t e => .inr e), ?_⟩
          simp only [go_sem, simprocAttr, r0, r5, r36, r37, r38]
        · have k3' : ¬ (r : Int) = 3 := by omega
          rw [if_neg (fun e => k3 e.2)] at htk
          by_cases k4 : r = 4
          · rw [if_pos ⟨ez, k4⟩] at htk
            have k4' : (r : Int) = 4 := by omega
            simp only [go_sem, simprocAttr, ez, decide_true, decide_false, g7, sa_0, et, k3', k4', r7]
            obtain ⟨kid, hkid⟩ : ∃ kid, k.next = kid := ⟨_, rfl⟩
            rw [hkid] at g7 ho7 l7 ⊢
            refine go_cutb (fun ρ k => ∃ (ow : Nat → Nat) (w : Value), ShAt ow k id m2 ∧ OwnD rTk 0 20 ow k (m.tk.filter (fun y => decide (y.1 ≠ x.id))) w ∧ Ks lawT (fun _ => 0) h ow k ∧ ρ 0 = .int .i64 N ∧ ρ 5 = .pointer (some ⟨id, 0, none⟩) ∧ ρ 12 = w ∧ ρ 36 = .slice (some ⟨jb, off, sp⟩) xs.length cx ∧ ρ 37 = .int .i64 xs.length ∧ ρ 38 = .int .i64 i) ?_ ?_
            · refine go_loop (fun z ρ k => ∃ (j : Nat) (ow : Nat → Nat) (w : Value), j ≤ m.tk.length ∧ z = m.tk.length - j ∧ ShAt ow k id m2 ∧ OwnD rTk 0 20 ow k m.tk (.slice al m.tk.length cl_) ∧ OwnD rTk 0 20 ow k ((m.tk.take j).filter (fun y => decide (y.1 ≠ x.id))) w ∧ (∀ p, blk w = some p → blk (.slice al m.tk.length cl_) ≠ some p) ∧ Ks lawT (fun _ => 0) h ow k ∧
                k.get kid = .cells (x.cs (.slice av x.op.data.length cv) (.slice aw x.keep.length cw)) .rw ∧ ow kid = 0 ∧ ρ 0 = .int .i64 N ∧ ρ 5 = .pointer (some ⟨id, 0, none⟩) ∧ ρ 12 = w ∧ ρ 9 = .pointer (some ⟨kid, 0, none⟩) ∧ ρ 36 = .slice (some ⟨jb, off, sp⟩) xs.length cx ∧ ρ 37 = .int .i64 xs.length ∧ ρ 38 = .int .i64 i ∧
                ρ 66 = .slice al m.tk.length cl_ ∧ ρ 67 = .int .i64 m.tk.length ∧ ρ 68 = .int .i64 j) m.tk.length ⟨0, ow7, _, by omega, by omega, am7, lm7, .nil, by simp, kk7, g7, ho7, by simp only [go_sem, simprocAttr, r0, r5, r36, r37, r38]⟩ ?_
              rintro z ρ3 k9 ⟨j, ow9, w9, hj, rfl, am9, lo9, ln9, hne9, kk9, g9, ho9, u0, u5, u12, u9, u36, u37, u38, u66, u67, u68⟩
              simp only [go_sem, simprocAttr, u66, u67, u68]
              refine cnd_decide (fun hy => ?_) (fun hy => ?_)
              · have h2 : j < m.tk.length := by omega
                have e68 : IntKind.i64.wrap ((j : Int) + 1) = ((j + 1 : Nat) : Int) := by rw [wi64] <;> omega
                obtain ⟨jt, ot, st, ct, mt, ycs, y, hAt, hSt, hgt, hyi, hyr, hlt, hdt2⟩ := lo9.at 2 rfl h2
                obtain ⟨yv, rfl, hyn, hyv⟩ := rTk_iff.1 hyr
                subst hAt
                obtain ⟨av9, cv9, rfl⟩ := hyv.shape
                have l9 := AHeap.lt_of_alive k9 (i := kid) (by rw [g9]; simp)
                have g9p : ∀ o, (k9.push o).get kid = .cells (x.cs (.slice av x.op.data.length cv) (.slice aw x.keep.length cw)) .rw := fun o => (AHeap.get_push_lt _ _ l9).trans g9
                simp only [go_sem, simprocAttr, u9, u66, u68, h2, hgt, hlt, hdt2, g9p, sa_5]
                have et : (m.tk.take (j + 1)).filter (fun y => decide (y.1 ≠ x.id)) = (m.tk.take j).filter (fun y => decide (y.1 ≠ x.id)) ++ (if y.1 = x.id then [] else [y]) := by
                  rw [List.take_add_one, hyi, List.filter_append]
                  congr 1
                  by_cases e : y.1 = x.id <;> simp [e]
                have qx : k9.quiet (k9.push (.cells [.int .i64 y.1, .slice av9 y.2.length cv9] .rw)) := .push _ _
                have gx : (k9.push (.cells [.int .i64 y.1, .slice av9 y.2.length cv9] .rw)).get k9.next = .cells [.int .i64 y.1, .slice av9 y.2.length cv9] .rw := by simp
                have g10 := g9p (.cells [.int .i64 y.1, .slice av9 y.2.length cv9] .rw)
                generalize k9.push (.cells [.int .i64 y.1, .slice av9 y.2.length cv9] .rw) = k10 at qx gx g10
                have k910 : Ks (fun _ => False) ow9 k9 (bump ow9 k9 0) k10 := .quiet qx 0
                have hy10w : Words (fun j => bump ow9 k9 0 j = 0 ∧ j < k10.next) k10 y.2 (.slice av9 y.2.length cv9) := hyv.mono fun p hp hl => ⟨⟨(k910.tg (fun e => e) p hp hl).1, Nat.lt_of_lt_of_le hl qx.1⟩, qx.2 p hl⟩
                have am10 := am9.quiet qx 0
                have lo10 := lo9.ks k910 (fun e => e) (fun e => e)
                have ln10 := ln9.ks k910 (fun e => e) (fun e => e)
                have kk10 := kk9.trans (k910.weaken fun t e => e.elim)
                have ho10 := (k910.2 _ l9).1.trans ho9
                have l10 := Nat.lt_of_lt_of_le l9 qx.1
                generalize bump ow9 k9 0 = ow10 at am10 lo10 ln10 kk10 ho10 hy10w
                by_cases hyx : y.1 = x.id
                · rw [if_pos hyx, List.append_nil] at et
                  simp only [go_sem, simprocAttr, hyx, decide_true, u68, e68]
                  refine Hold.mk ⟨m.tk.length - (j + 1), by omega, j + 1, ow10, w9, by omega, rfl, am10, lo10, by rw [et]; exact ln10, hne9, kk10, g10, ho10, ?_⟩
                  simp only [go_sem, simprocAttr, u0, u5, u12, u9, u36, u37, u38, u66, u67]
                · rw [if_neg hyx] at et
                  obtain ⟨aw9, cw9, rfl⟩ := ln10.slz.shape
                  have hy10 : rTk.R (fun j => ow10 j = 0 ∧ j < k10.next) k10 y [.int .i64 y.1, .slice av9 y.2.length cv9] := rTk_iff.2 ⟨_, rfl, hyn, hy10w⟩
                  have hlf : ((m.tk.take j).filter (fun y => decide (y.1 ≠ x.id))).length ≤ 32 := Nat.le_trans (List.length_filter_le _ _) (by rw [List.length_take]; omega)
                  obtain ⟨v8, k11, e8, l8, f8, n8, a8, m8, c8, rfl⟩ := ln10.app (by decide) (y := y) (cs := [.int .i64 y.1, .slice av9 y.2.length cv9]) (bytes := 32) 2 rfl hy10 (by omega) (by omega)
                  simp only [go_sem, simprocAttr, hyx, decide_false, gx, u12, e8, u68, e68]
                  have k11_ : Ks (· = 20) ow10 k10 (bump ow10 k10 20) k11 := Ks.fw (T := (· = 20)) (own := ow10) f8 (fun j _ e => ln10.2 j e) 20
                  refine Hold.mk ⟨m.tk.length - (j + 1), by omega, j + 1, bump ow10 k10 20, _, by omega, rfl, am10.ks k11_ (by omega) (by decide), lo10.apart (by decide) f8 (fun p e => ln10.2 p e) (fun p e e2 => hne9 p e2 e), by rw [et]; exact l8, ?_, kk10.trans (k11_.weaken fun t e => .inr e), ((k11_.2 _ l10).2 (by rw [ho10]; decide)).trans g10, (k11_.2 _ l10).1.trans ho10, ?_⟩
                  · intro p hp e
                    rcases n8 with n8 | ⟨ob, n8, hge⟩
                    · rw [n8] at hp; exact hne9 p hp e
                    · rw [n8] at hp; cases hp; have := (lo10.1.blk_ge e).2; omega
                  · simp only [go_sem, simprocAttr, u0, u5, u9, u36, u37, u38, u66, u67]
              · have hj' : j = m.tk.length := by omega
                subst hj'
                rw [List.take_length] at ln9
                simp only [go_sem, simprocAttr]
                exact Hold.mk ⟨ow9, w9, am9, ln9, kk9, by simp only [go_sem, simprocAttr, u0, u5, u12, u36, u37, u38]⟩
            · rintro ρ3 k9 ⟨ow9, w9, am9, ln9, kk9, u0, u5, u12, u36, u37, u38⟩
              simp only [go_sem, simprocAttr, u12]
              refine Hold.mk ⟨ow9, w9, am9, by rw [htk]; exact ln9, kk9, ?_⟩
              simp only [go_sem, simprocAttr, u0, u5, u36, u37, u38]
          · have k4' : ¬ (r : Int) = 4 := by omega
            rw [if_neg (fun e => k4 e.2)] at htk
            simp only [go_sem, simprocAttr, ez, decide_true, decide_false, g7, sa_0, et, k3', k4']
            refine Hold.mk ⟨ow7, _, am7, by rw [htk]; exact lm7, kk7, ?_⟩
            simp only [go_sem, simprocAttr, r0, r5, r7, r36, r37, r38]
      · rw [if_neg (fun e => ez e.1), if_neg (fun e => ez e.1)] at htk
        simp only [go_sem, simprocAttr, ez, decide_false]
        exact Hold.mk ⟨ow7, lv, am7, by rw [htk]; exact lm7, kk7, by simp only [go_sem, simprocAttr, r0, r5, r7, r36, r37, r38]⟩
    · rintro ρ2 k8 ⟨ow8, lv8, am8, lm8, kk8, s0, s5, s7, s36, s37, s38⟩
      obtain ⟨al8, cl8, rfl⟩ := lm8.slz.shape
      simp only [go_sem, simprocAttr, s0, s5, s7, s36, s37, s38]
      refine go_cutb (fun ρ k => ∃ (ow : Nat → Nat), ShAt ow k id m2 ∧ OwnD rTk 0 20 ow k m2.tk (.slice al8 m2.tk.length cl8) ∧ Ks lawT (fun _ => 0) h ow k ∧ ρ 0 = .int .i64 N ∧ ρ 5 = .pointer (some ⟨id, 0, none⟩) ∧ ρ 7 = .slice al8 m2.tk.length cl8 ∧ ρ 36 = .slice (some ⟨jb, off, sp⟩) xs.length cx ∧ ρ 37 = .int .i64 xs.length ∧ ρ 38 = .int .i64 i) ?_ ?_
      · refine go_loop (fun z ρ k => ∃ (j : Nat) (ow : Nat → Nat), j ≤ m2.tk.length ∧ z = m2.tk.length - j ∧ ShAt ow k id m2 ∧ OwnD rTk 0 20 ow k m2.tk (.slice al8 m2.tk.length cl8) ∧ Ks lawT (fun _ => 0) h ow k ∧ ρ 0 = .int .i64 N ∧ ρ 5 = .pointer (some ⟨id, 0, none⟩) ∧ ρ 7 = .slice al8 m2.tk.length cl8 ∧ ρ 36 = .slice (some ⟨jb, off, sp⟩) xs.length cx ∧ ρ 37 = .int .i64 xs.length ∧ ρ 38 = .int .i64 i ∧
          ρ 83 = .slice al8 m2.tk.length cl8 ∧ ρ 84 = .int .i64 m2.tk.length ∧ ρ 85 = .int .i64 j) m2.tk.length ⟨0, ow8, by omega, by omega, am8, lm8, kk8, by simp only [go_sem, simprocAttr, s0, s5, s7, s36, s37, s38]⟩ ?_
        rintro z ρ3 k9 ⟨j, ow9, hj, rfl, am9, lm9, kk9, u0, u5, u7, u36, u37, u38, u83, u84, u85⟩
        simp only [go_sem, simprocAttr, u0, u5, u7, u83, u84, u85]
        refine cnd_decide (fun hy => ?_) (fun hy => ?_)
        · have h2 : j < m2.tk.length := by omega
          have e85 : IntKind.i64.wrap ((j : Int) + 1) = ((j + 1 : Nat) : Int) := by have : m2.tk.length ≤ 32 := by unfold Sm.tk; rw [List.length_map]; exact gm2.sl
                                                                                    rw [wi64] <;> omega
          obtain ⟨jt, ot, st, ct, mt, y, yv, hAt, hSt, hgt, hyi, hyv, hyn, hlt, hdt2⟩ := IsSl.atT lm9.slz h2
          subst hAt
          obtain ⟨av9, cv9, rfl⟩ := hyv.shape
          obtain ⟨pp, hpi, hpy⟩ : ∃ pp, m2.snaps[j]? = some pp ∧ y = (pp.1, m2.vol pp.2) := by
            unfold Sm.tk at hyi
            rw [List.getElem?_map, Option.map_eq_some_iff] at hyi
            obtain ⟨pp, e1, e2⟩ := hyi
            exact ⟨pp, e1, e2.symm⟩
          have hfind : m2.find y.1 = (pp.2, 0) := by
            unfold Sm.find
            rw [hpy, lookS_of gm2.nd (List.mem_of_getElem? hpi)]
          have hrd2 : readL (m2.vol pp.2) 0 N = (y.2, 0) := by rw [← hmn2, hpy]; exact readL_all gm2 pp.2
          simp only [go_sem, simprocAttr, u0, u5, u83, u85, h2, hgt, hlt, hdt2]
          have qx : k9.quiet (k9.push (.cells [.int .i64 y.1, .slice av9 y.2.length cv9] .rw)) := .push _ _
          have gx : (k9.push (.cells [.int .i64 y.1, .slice av9 y.2.length cv9] .rw)).get k9.next = .cells [.int .i64 y.1, .slice av9 y.2.length cv9] .rw := by simp
          generalize k9.push (.cells [.int .i64 y.1, .slice av9 y.2.length cv9] .rw) = k10 at qx gx
          refine cl_spec (sLook_ok (am9.quiet qx 0) gm2 (x := y.1) (off := 0) (n := N) (by unfold inJ; omega) (by unfold inJ; omega)) (fun _ _ _ hc => absurd hc (by decide +kernel)) ?_
          rw [hfind, hrd2]
          simp only [ne_eq, not_true_eq_false, if_false]
          rintro u k11 ⟨w11, rfl, wr11, q11⟩
          obtain ⟨a11, c11, rfl⟩ := wr11.shape
          have qq2 := qx.trans q11
          have gx2 := (q11.2 _ (AHeap.lt_of_alive k10 (by rw [gx]; simp))).trans gx
          simp only [go_sem, simprocAttr, gx2]
          refine cl_spec (Words_ok wr11 (hyv.quiet qq2)) (fun _ _ _ hc => absurd hc (by decide +kernel)) ?_
          rintro u k12 ⟨rfl, rfl⟩
          simp only [go_sem, simprocAttr, decide_true, u85, e85]
          refine Hold.mk ⟨m2.tk.length - (j + 1), by omega, j + 1, _, by omega, rfl, am9.quiet qq2 0, lm9.ks (T := fun _ => False) (.quiet qq2 0) (fun e => e) (fun e => e), kk9.trans (.quiet qq2 0), ?_⟩
          simp only [go_sem, simprocAttr, u0, u5, u7, u36, u37, u38, u83, u84]
        · simp only [go_sem, simprocAttr]
          exact Hold.mk ⟨ow9, am9, lm9, kk9, by simp only [go_sem, simprocAttr, u0, u5, u7, u36, u37, u38]⟩
      · rintro ρ3 k9 ⟨ow9, am9, lm9, kk9, u0, u5, u7, u36, u37, u38⟩
        simp only [go_sem, simprocAttr, u5, u7]
        refine cl_spec (sSnaps_ok am9 (by have := gm2.sl; omega)) (fun _ _ _ hc => absurd hc (by decide +kernel)) ?_
        rintro u k10 ⟨l10, q10⟩
        obtain ⟨a10, c10, rfl, _⟩ := l10.len
        have hll : ((m2.snaps.map Prod.fst).length : Int) = m2.tk.length := by unfold Sm.tk; rw [List.length_map, List.length_map]
        simp only [go_sem, simprocAttr, u7, hll, u38, e38]
        refine Hold.mk ⟨xs.length - (i + 1), by omega, i + 1, m2, _, _, by omega, rfl, gm2, hmn2, am9.quiet q10 0, lm9.ks (T := fun _ => False) (.quiet q10 0) (fun e => e) (fun e => e), kk9.trans (.quiet q10 0), ?_⟩
        simp only [go_sem, simprocAttr, u0, u5, u7, u36, u37]
  · simp only [go_sem, simprocAttr]
    exact kk.quiet0 fun j => by show ¬ lawT 0; unfold lawT shT; omega
end
end Go.Proofs.Ytjkganmkfhciiaa
