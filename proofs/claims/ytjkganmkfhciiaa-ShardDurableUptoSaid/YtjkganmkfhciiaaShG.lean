/- shard: snapshots are taken, and gone. -/
import Derived.Test.YtjkganmkfhciiaaShF
set_option linter.unusedSimpArgs false
set_option linter.unusedVariables false
set_option linter.unnecessarySimpa false
set_option maxRecDepth 100000
namespace Go.Proofs.Ytjkganmkfhciiaa
open Go.AM

theorem find_none {m : Sm} {x : Int} (h : (m.find x).2 ≠ 0) : lookS m.snaps x = none ∧ (m.find x).2 = 9 := by
  unfold Sm.find at *
  split at h
  · exact absurd rfl h
  · rename_i e; rw [e]; exact ⟨rfl, rfl⟩
theorem find_some {m : Sm} {x : Int} (h : (m.find x).2 = 0) : ∃ r, lookS m.snaps x = some r := by
  unfold Sm.find at h
  split at h
  · rename_i r e; exact ⟨r, e⟩
  · cases h
section
variable {own own' own'' : Nat → Nat} {h h' h'' : AHeap} {S : Nat → Prop} {m : Sm} {id : Nat} {v : Value} {b : Nat}
theorem OrL.app {xs : List Int} (o : OrL own h xs v) {y : Int} (hy : inI y) (hl : xs.length ≤ 1000000) : ∃ v' h', aappend (h.push (.cells [.int .i64 y] .rw)) 1 8 v 1 [.int .i64 y] = some (v', h') ∧ ∃ own', OrL own' h' (xs ++ [y]) v' ∧ Ks (· = 11) own h own' h' ∧ ∃ a n c, v' = .slice a n c := by
  have q := AHeap.quiet.push h (.cells [.int .i64 y] .rw)
  obtain ⟨k, hk⟩ : ∃ k, h.push (.cells [.int .i64 y] .rw) = k := ⟨_, rfl⟩
  rw [hk] at q ⊢
  clear hk
  have o := o.ks (T := fun _ => False) (.quiet q 0) (fun e => e)
  have kq : Ks (· = 11) own h (bump own h 0) k := .quiet q 0
  obtain ⟨ow, how⟩ : ∃ ow, bump own h 0 = ow := ⟨_, rfl⟩
  rw [how] at o kq
  clear how
  obtain ⟨hx, ⟨rfl, rfl⟩ | ⟨ob, c, cap, rfl, ho, hg, hc, hle, hcap, ht⟩⟩ := o
  · refine ⟨.slice (some ⟨k.next, 0, some 1⟩) 1 1, k.push (.cells [.int .i64 y] (.tail 1)), ?_, bump ow k 11, ?_, kq.trans (.quiet (.push _ _) 11), _, _, _, rfl⟩
    · rw [aappend_nil, if_neg (by omega), if_pos (by omega)]
    · refine ⟨fun z hz => ?_, .inr ⟨k.next, [.int .i64 y], 1, rfl, bump_ge (Nat.le_refl _), AHeap.get_push_self _ _, rfl, by simp, by omega, rfl⟩⟩
      obtain rfl : z = y := by simpa using hz
      exact hy
  · have hall : ∀ z ∈ xs ++ [y], inI z := fun z hz => by
      rcases List.mem_append.1 hz with hz | hz
      · exact hx z hz
      · obtain rfl : z = y := by simpa using hz
        exact hy
    have hlt : ob < k.next := AHeap.lt_of_alive k (by rw [hg]; simp)
    by_cases hfit : xs.length + 1 ≤ cap
    · refine ⟨.slice (some ⟨ob, 0, some 1⟩) (xs.length + 1) cap, k.set ob (.cells (putCells c (0 + xs.length * 1) [.int .i64 y]) (.tail 1)), ?_, ow, ?_, kq.trans (.set (T := (· = 11)) ho _), _, _, _, rfl⟩
      · unfold aappend
        dsimp only
        rw [if_neg (by omega), if_pos hfit]
        simp only [hg]
        rw [if_pos ⟨by simp, by omega⟩]
      · refine ⟨hall, .inr ⟨ob, _, cap, by rw [List.length_append]; rfl, ho, AHeap.get_set_self _ _ hlt, ?_, by simpa using hfit, hcap, ?_⟩⟩
        · simp [putCells, hc]
        · simp only [putCells, Nat.zero_add, Nat.mul_one, List.length_append, List.length_cons, List.length_nil, List.map_append, List.map_cons, List.map_nil]
          rw [List.take_add_one, List.take_set_of_le (Nat.le_refl _), ht, List.getElem?_set_self (by omega)]
          rfl
    · refine ⟨.slice (some ⟨k.next, 0, some 1⟩) (xs.length + 1) (xs.length + 1), (k.set ob .dead).push (.cells ((c.drop 0).take (xs.length * 1) ++ [.int .i64 y]) (.tail 1)), ?_, bump ow k 11, ?_, kq.trans (Ks.trans (own' := ow) (h' := k.set ob .dead) (.set (T := (· = 11)) ho _) ?_), _, _, _, rfl⟩
      · unfold aappend
        dsimp only
        rw [if_neg (by omega), if_neg hfit, if_pos (by omega)]
        simp only [hg]
        rw [if_pos ⟨trivial, trivial, by omega⟩]
      · refine ⟨hall, .inr ⟨k.next, (c.drop 0).take (xs.length * 1) ++ [.int .i64 y], xs.length + 1, by rw [List.length_append]; rfl, bump_ge (Nat.le_refl _), ?_, ?_, by simp, by omega, ?_⟩⟩
        · have := AHeap.get_push_self (k.set ob .dead) (.cells ((c.drop 0).take (xs.length * 1) ++ [.int .i64 y]) (.tail 1))
          simpa using this
        · simp; omega
        · simp only [List.drop_zero, Nat.mul_one, List.length_append, List.length_cons, List.length_nil, List.map_append, List.map_cons, List.map_nil, ht]
          rw [List.take_of_length_le (by simp)]
      · exact ⟨by simp, fun j hj => ⟨bump_lt (by simpa using hj), fun _ => AHeap.get_push_lt _ _ hj⟩⟩
theorem sSnap_ok (a : ShAt own h id m) (g : m.good b) (hb : b < 1073741824) {x : Int} (hx : inI x) : Does Try.prog 24 #[.pointer (some ⟨id, 0, none⟩), .int .i64 x] h
    (fun u h' => u = .int .i64 (m.snap x).1 ∧ ∃ own', ShAt own' h' id (m.snap x).2 ∧ Ks shT own h own' h') := by
  unfold Sm.snap
  refine spec_go mixed Try.func24 rfl Try.results24 (n := Try.f24.ntmps) (by kernel_rfl) (by simp) ?_
  simp only [go_sem, simprocAttr]
  refine cl_spec (sok_ok a) (fun _ _ _ hc => absurd hc (by decide +kernel)) ?_
  rintro u k ⟨rfl, rfl⟩
  simp only [go_sem, simprocAttr]
  refine cl_spec (sfind_ok a) (fun _ _ _ hc => absurd hc (by decide +kernel)) ?_
  rintro u k' ⟨rfl, rfl⟩
  by_cases c1 : x < 1
  · simp only [go_sem, simprocAttr, c1, decide_true, if_true]
    exact ⟨own, a, .refl⟩
  by_cases c2 : (m.find x).2 = 0
  · simp only [go_sem, simprocAttr, c1, c2, decide_true, decide_false, if_true, if_false]
    exact ⟨own, a, .refl⟩
  have a0 := a
  obtain ⟨ho, fid, uv, ov, mid, rv, hg, c⟩ := a
  obtain ⟨hm10, es, ck, hgm, hms⟩ := c.mp
  have hlen : alenB Try.prog k' #[60] (.map (some mid)) = some (.int .i64 m.snaps.length) := by
    unfold alenB
    simp only [go_sem, hgm, hms.len]
  unfold shC at hg
  by_cases c3 : 32 ≤ m.snaps.length
  · have c3' : (32 : Int) ≤ m.snaps.length := by omega
    simp only [go_sem, simprocAttr, c1, c2, c3, c3', hg, hlen, hgm, hms.len, decide_true, decide_false, if_true, if_false]
    exact ⟨own, a0, .refl⟩
  have c3' : ¬ (32 : Int) ≤ m.snaps.length := by omega
  simp only [go_sem, simprocAttr, c1, c2, c3, c3', hg, hlen, hgm, hms.len, decide_true, decide_false, if_true, if_false]
  refine cl_spec (sFlush_ok a0) (fun _ _ _ hc => absurd hc (by decide +kernel)) ?_
  rintro u k1 ⟨rfl, a1, k01⟩
  have hl1 := a1.lt
  obtain ⟨ho1, fid1, uv1, ov1, mid1, rv1, hg1, cc⟩ := a1
  obtain ⟨hm1, es1, ck1, hgm1, hms1⟩ := cc.mp
  have hno := (find_none c2).1
  have hup : amapUpdate Try.prog k1 60 (.map (some mid1)) (.int .i64 x) (.int .i64 m.now) = some (k1.set mid1 (.map (es1 ++ [{ key := .int .i64 x, val := .int .i64 m.now, born := ck1 }]) (ck1 + 1))) := by
    unfold amapUpdate
    simp only [go_sem, hgm1]
    rcases hms1.find (n := x) 0 with ⟨j, r', k0, k1_, _⟩ | ⟨k1_, k2⟩
    · rw [hno] at k0; cases k0
    · rw [k1_]
  unfold shC at hg1
  simp only [go_sem, simprocAttr, hg1, hup]
  obtain ⟨k2, hk2⟩ : ∃ k2, k1.set mid1 (.map (es1 ++ [{ key := .int .i64 x, val := .int .i64 m.now, born := ck1 }]) (ck1 + 1)) = k2 := ⟨_, rfl⟩
  rw [hk2]
  have k12 : Ks (· = 10) own k1 own k2 := by rw [← hk2]; exact Ks.set (T := (· = 10)) hm1 _
  have mp2 : MpAt own k2 mid1 (m.snaps ++ [(x, m.now)]) := ⟨hm1, _, _, by rw [← hk2]; exact AHeap.get_set_self _ _ (AHeap.lt_of_alive k1 (by rw [hgm1]; simp)), hms1.add x m.now ck1⟩
  clear hk2
  have hg2 := ((k12.2 id hl1).2 (by rw [ho1]; decide)).trans hg1
  have hl2 := Nat.lt_of_lt_of_le hl1 k12.1
  have od2 := cc.od.ks k12 (by decide)
  obtain ⟨v3, k3, e3, ow3, od3, k23, a3, n3, c3_, rfl⟩ := od2.app hx (by rw [List.length_map]; show m.snaps.length ≤ _; omega)
  obtain ⟨a2, cp2, rfl⟩ := od2.slz.shape
  simp only [go_sem, simprocAttr, hg2, e3]
  have hg3 := ((k23.2 id hl2).2 (by rw [ho1]; decide)).trans hg2
  have ho3 := (k23.2 id hl2).1.trans ho1
  have hl3 := Nat.lt_of_lt_of_le hl2 k23.1
  have e4 : IntKind.i64.wrap (m.gen + 1) = m.gen + 1 := by have := g.b3; have := g.g0; rw [wi64] <;> omega
  have e4' : IntKind.i64.wrap (m.flush.gen + 1) = m.gen + 1 := e4
  simp only [go_sem, simprocAttr, hg3, AHeap.get_set_self _ _ hl3, AHeap.set_set, e4, e4']
  have k34 : Ks (· = 6) ow3 k3 ow3 (k3.set id (.cells (shC { m.flush with snaps := m.snaps ++ [(x, m.now)], gen := m.gen + 1 } fid1 uv1 ov1 mid1 (.slice a3 n3 c3_)) .rw)) := .set (T := (· = 6)) ho3 _
  refine ⟨ow3, ⟨ho3, fid1, _, _, mid1, _, AHeap.get_set_self _ _ hl3, ?_⟩, ?_⟩
  · refine ⟨((cc.fo.ks k12 (by decide) (by decide)).ks k23 (by decide) (by decide)).ks k34 (by decide) (by decide), ((cc.un.mono k12.1 (k12.tg (by decide))).mono k23.1 (k23.tg (by decide))).mono k34.1 (k34.tg (by decide)),
      ((cc.op.ks k12 (by decide) (by decide)).ks k23 (by decide) (by decide)).ks k34 (by decide) (by decide), (mp2.ks k23 (by decide)).ks k34 (by decide), ?_⟩
    show OrL _ _ ((m.snaps ++ [(x, m.now)]).map Prod.fst) _
    rw [List.map_append]
    exact od3.ks k34 (by decide)
  · exact (k01.weaken fun t e => by subst e; unfold shT; decide).trans ((k12.weaken fun t e => by subst e; unfold shT; decide).trans ((k23.weaken fun t e => by subst e; unfold shT; decide).trans (k34.weaken fun t e => by subst e; unfold shT; decide)))
/-! What is gone. -/
def isY (bid : Nat) : Value := .func (.func 42) #[] #[.pointer (some ⟨bid, 0, none⟩)]
theorem del1_ok {bid : Nat} {x y : Int} (hb : h.get bid = .cells [.int .i64 y] .rw) : Does Try.prog 42 #[.int .i64 x, .pointer (some ⟨bid, 0, none⟩)] h (fun u h' => u = .bool (decide (x = y)) ∧ h' = h) := by
  refine spec_go mixed Try.func42 rfl Try.results42 (n := Try.f42.ntmps) (by kernel_rfl) (by simp) ?_
  simp only [go_sem, simprocAttr, hb]
theorem index_ok {bid : Nat} {xs : List Int} {y : Int} (hb : h.get bid = .cells [.int .i64 y] .rw) (hs : Ints S h xs v) (hn : xs.length ≤ 1000000) : Does Try.prog 52 #[v, isY bid] h
    (fun u h' => h' = h ∧ ((u = .int .i64 (-1) ∧ y ∉ xs) ∨ ∃ j : Nat, u = .int .i64 j ∧ xs[j]? = some y ∧ y ∉ xs.take j)) := by
  obtain ⟨a, c, rfl⟩ := hs.shape
  refine spec_go mixed Try.func52 rfl Try.results52 (n := Try.f52.ntmps) (by kernel_rfl) (by simp) ?_
  simp only [go_sem, simprocAttr]
  refine go_loop (fun z ρ k => ∃ i : Nat, i ≤ xs.length ∧ z = xs.length - i ∧ k = h ∧ y ∉ xs.take i ∧ ρ 0 = .slice a xs.length c ∧ ρ 1 = isY bid ∧ ρ 7 = .int .i64 xs.length ∧ ρ 8 = .int .i64 i) xs.length ⟨0, by omega, by omega, rfl, by simp, by simp only [go_sem, simprocAttr]⟩ ?_
  rintro z ρ k ⟨i, hi, rfl, rfl, hno, r0, r1, r7, r8⟩
  simp only [go_sem, simprocAttr, r0, r1, r7, r8]
  refine cnd_decide (fun hy => ?_) (fun hy => ?_)
  · have h1 : i < xs.length := by omega
    have e8 : IntKind.i64.wrap ((i : Int) + 1) = ((i + 1 : Nat) : Int) := by rw [wi64] <;> omega
    obtain ⟨jb, off, sp, cc, md, x, hA, _, hg, hxi, _, hdt⟩ := hs.atI h1
    subst hA
    simp only [go_sem, simprocAttr, r0, r1, r7, r8, hg, h1, hdt, isY]
    refine cl_spec (del1_ok hb) (fun _ _ _ hc => absurd hc (by decide +kernel)) ?_
    rintro u k' ⟨rfl, rfl⟩
    have et : xs.take (i + 1) = xs.take i ++ [x] := by rw [List.take_add_one, hxi]; rfl
    by_cases hxy : x = y
    · simp only [go_sem, simprocAttr, decide_eq_true hxy]
      exact .inr ⟨i, rfl, by rw [hxi, hxy], hno⟩
    · simp only [go_sem, simprocAttr, decide_eq_false hxy, r8, e8]
      refine Hold.mk ⟨xs.length - (i + 1), by omega, i + 1, by omega, rfl, rfl, ?_, by simp only [go_sem, simprocAttr, r0, r1, r7, isY]⟩
      rw [et, List.mem_append]
      rintro (e | e)
      · exact hno e
      · exact hxy (List.mem_singleton.1 e).symm
  · have hi' : i = xs.length := by omega
    subst hi'
    rw [List.take_length] at hno
    simp only [go_sem, simprocAttr]
    exact .inl hno
theorem delF_ok {bid : Nat} {xs : List Int} {y : Int} (hb : h.get bid = .cells [.int .i64 y] .rw) (hob : own bid ≠ 11) (o : OrL own h xs v) (hn : xs.length ≤ 1000000) : Does Try.prog 41 #[v, isY bid] h
    (fun u h' => OrL own h' (xs.filter (fun x => decide (x ≠ y))) u ∧ Ks (· = 11) own h own h') := by
  have hs := o.slz
  obtain ⟨a, c, rfl⟩ := hs.shape
  refine spec_go mixed Try.func41 rfl Try.results41 (n := Try.f41.ntmps) (by kernel_rfl) (by simp) ?_
  simp only [go_sem, simprocAttr]
  refine cl_spec (index_ok hb hs hn) (fun _ _ _ hc => absurd hc (by decide +kernel)) ?_
  rintro u k ⟨rfl, ⟨rfl, hno⟩ | ⟨i0, rfl, hy0, hno⟩⟩
  · simp only [go_sem, simprocAttr]
    refine ⟨?_, .refl⟩
    rw [List.filter_eq_self.2 fun x hx => decide_eq_true (by rintro rfl; exact hno hx)]
    exact o
  · have hi0 : i0 < xs.length := (List.getElem?_eq_some_iff.1 hy0).1
    have n1 : ¬ (i0 : Int) = -1 := by omega
    have e6 : IntKind.i64.wrap ((i0 : Int) + 1) = ((i0 + 1 : Nat) : Int) := by rw [wi64] <;> omega
    obtain ⟨hx, ⟨rfl, _⟩ | ⟨ob, c0, cap, ev, ho, hg, hc, hle, hcap, ht⟩⟩ := o
    · simp at hi0
    cases ev
    have hlt : ob < k.next := AHeap.lt_of_alive k (by rw [hg]; simp)
    have hne : bid ≠ ob := by rintro rfl; exact hob ho
    have hcx : ∀ p x, xs[p]? = some x → c0[p]? = some (Value.int .i64 x) := fun p x hp => by
      have hpl := (List.getElem?_eq_some_iff.1 hp).1
      have := congrArg (·[p]?) ht
      simp only [List.getElem?_take, if_pos hpl, List.getElem?_map, hp, Option.map_some] at this
      exact this
    have f0 : xs.take i0 = (xs.take i0).filter (fun x => decide (x ≠ y)) := (List.filter_eq_self.2 fun x hx => decide_eq_true (by rintro rfl; exact hno hx)).symm
    have f1 : (xs.take (i0 + 1)).filter (fun x => decide (x ≠ y)) = xs.take i0 := by
      rw [List.take_add_one, hy0, List.filter_append, ← f0]; simp
    simp only [go_sem, simprocAttr, n1, decide_false, e6]
    refine go_cutb (fun ρ k1 => ∃ (i : Nat) (c1 : List Value), i = (xs.filter (fun x => decide (x ≠ y))).length ∧ i < xs.length ∧ k1.next = k.next ∧ (∀ p, p ≠ ob → k1.get p = k.get p) ∧ k1.get ob = .cells c1 (.tail 1) ∧ c1.length = c ∧ c1.take i = (xs.filter (fun x => decide (x ≠ y))).map (fun x => .int .i64 x) ∧
      ρ 0 = .slice (some ⟨ob, 0, some 1⟩) xs.length c ∧ ρ 5 = .int .i64 i) ?_ ?_
    · refine go_loop (fun z ρ k1 => ∃ (i j : Nat) (c1 : List Value), j ≤ xs.length ∧ z = xs.length - j ∧ i = ((xs.take j).filter (fun x => decide (x ≠ y))).length ∧ i < j ∧ k1.next = k.next ∧ (∀ p, p ≠ ob → k1.get p = k.get p) ∧ k1.get ob = .cells c1 (.tail 1) ∧ c1.length = c ∧
        c1.take i = ((xs.take j).filter (fun x => decide (x ≠ y))).map (fun x => .int .i64 x) ∧ (∀ p, j ≤ p → c1[p]? = c0[p]?) ∧ ρ 0 = .slice (some ⟨ob, 0, some 1⟩) xs.length c ∧ ρ 1 = isY bid ∧ ρ 5 = .int .i64 i ∧ ρ 6 = .int .i64 j) (xs.length - (i0 + 1)) ?_ ?_
      · refine ⟨i0, i0 + 1, c0, by omega, ?_, by rw [f1, List.length_take]; omega, by omega, rfl, fun _ _ => rfl, hg, hc, ?_, fun _ _ => rfl, by simp only [go_sem, simprocAttr, isY]⟩
        · rfl
        · have := congrArg (List.take i0) ht
          rw [List.take_take, ← List.map_take, Nat.min_eq_left (by omega)] at this
          rw [f1]; exact this
      · rintro z ρ k1 ⟨i, j, c1, hj, rfl, hi, hij, hn1, hk1, hg1, hl1, ht1, hd1, r0, r1, r5, r6⟩
        simp only [go_sem, simprocAttr, r0, r1, r5, r6]
        refine cnd_decide (fun hyy => ?_) (fun hyy => ?_)
        · have h1 : j < xs.length := by omega
          have e6 : IntKind.i64.wrap ((j : Int) + 1) = ((j + 1 : Nat) : Int) := by rw [wi64] <;> omega
          have e5 : IntKind.i64.wrap ((i : Int) + 1) = ((i + 1 : Nat) : Int) := by rw [wi64] <;> omega
          obtain ⟨x, hxj⟩ : ∃ x, xs[j]? = some x := ⟨_, List.getElem?_eq_getElem h1⟩
          have hcj : c1[j]? = some (.int .i64 x) := (hd1 j (Nat.le_refl _)).trans (hcx j x hxj)
          have et : (xs.take (j + 1)).filter (fun x => decide (x ≠ y)) = (xs.take j).filter (fun x => decide (x ≠ y)) ++ (if x = y then [] else [x]) := by
            rw [List.take_add_one, hxj, List.filter_append]
            congr 1
            by_cases e : x = y <;> simp [e]
          have hb1 : k1.get bid = .cells [.int .i64 y] .rw := (hk1 bid hne).trans hb
          simp only [go_sem, simprocAttr, r0, r1, r5, r6, hg1, h1, hcj, isY]
          refine cl_spec (del1_ok hb1) (fun _ _ _ hc => absurd hc (by decide +kernel)) ?_
          rintro u k2 ⟨rfl, rfl⟩
          have hm : xs.length - (j + 1) < xs.length - j := by omega
          by_cases hxy : x = y
          · rw [if_pos hxy, List.append_nil] at et
            simp only [go_sem, simprocAttr, decide_eq_true hxy, r6, e6]
            refine Hold.mk ⟨xs.length - (j + 1), hm, i, j + 1, c1, by omega, rfl, by rw [et]; exact hi, by omega, hn1, hk1, hg1, hl1, by rw [et]; exact ht1, fun p hp => hd1 p (by omega), by simp only [go_sem, simprocAttr, r0, r1, r5, isY]⟩
          · rw [if_neg hxy] at et
            have h2 : i < xs.length := by omega
            have h3 : i + 1 ≤ c1.length := by omega
            have hob1 : ob < k2.next := by omega
            simp only [go_sem, simprocAttr, decide_eq_false hxy, r0, r1, r5, r6, hg1, h2, h3, e5, e6, if_true]
            refine Hold.mk ⟨xs.length - (j + 1), hm, i + 1, j + 1, c1.set i (.int .i64 x), by omega, rfl, by rw [et, List.length_append, ← hi]; rfl, by omega, by simpa using hn1, fun p hp => (AHeap.get_set_ne _ _ (Ne.symm hp)).trans (hk1 p hp), AHeap.get_set_self _ _ hob1, by simpa using hl1, ?_, fun p hp => ?_, by simp only [go_sem, simprocAttr, r0, r1, r5, isY]⟩
            · rw [et, List.map_append, ← ht1, List.take_add_one, List.take_set_of_le (Nat.le_refl _), List.getElem?_set_self (by omega)]; rfl
            · rw [List.getElem?_set_ne (by omega)]; exact hd1 p (by omega)
        · have hj' : j = xs.length := by omega
          subst hj'
          rw [List.take_length] at hi ht1
          simp only [go_sem, simprocAttr]
          exact Hold.mk ⟨i, c1, hi, hij, hn1, hk1, hg1, hl1, ht1, by simp only [go_sem, simprocAttr, r0, r5]⟩
    · rintro ρ k1 ⟨i, c1, hi, hil, hn1, hk1, hg1, hl1, ht1, r0, r5⟩
      have h1 : i ≤ xs.length ∧ xs.length ≤ c := by omega
      have h2 : 0 ≤ i ∧ i ≤ c := by omega
      have h3 : ¬ xs.length - i = 0 := by omega
      have h4 : i + (xs.length - i) ≤ c1.length := by omega
      have h5 : i ≤ c := by omega
      simp only [go_sem, simprocAttr, r0, r5, if_pos h1, h3, hg1, if_pos h4, if_pos h5, Nat.sub_zero]
      have hpl : ∀ (vs cs : List Value) (o : Nat), (putCells cs o vs).length = cs.length := by
        intro vs
        induction vs with
        | nil => intro cs o; rfl
        | cons u vs ih => intro cs o; simp only [putCells]; rw [ih]; simp
      have hpt : ∀ (vs cs : List Value) (o n : Nat), n ≤ o → (putCells cs o vs).take n = cs.take n := by
        intro vs
        induction vs with
        | nil => intro cs o n _; rfl
        | cons u vs ih => intro cs o n hn; simp only [putCells]; rw [ih _ _ _ (by omega), List.take_set_of_le hn]
      have hob1 : ob < k1.next := by omega
      have hset : ∀ p, p < k.next → own p ≠ 11 → (k1.set ob (.cells (putCells c1 i (azeros [.int .i64 0] (xs.length - i))) (.tail 1))).get p = k.get p := fun p _ hp => by
        have : p ≠ ob := by rintro rfl; exact hp ho
        rw [AHeap.get_set_ne _ _ (Ne.symm this)]; exact hk1 p this
      refine ⟨⟨fun x hx' => hx x (List.mem_filter.1 hx').1, .inr ⟨ob, _, c, ?_, ho, AHeap.get_set_self _ _ hob1, by rw [hpl]; exact hl1, by rw [← hi]; omega, hcap, ?_⟩⟩, ⟨by simp [hn1], fun p hp => ⟨rfl, hset p hp⟩⟩⟩
      · rw [hi]
      · rw [← hi, hpt _ _ _ _ (Nat.le_refl _)]; exact ht1
theorem delS_order : ∀ {l : List (Int × Int)} {y : Int}, (l.map Prod.fst).Nodup → (delS l y).map Prod.fst = (l.map Prod.fst).filter (fun x => decide (x ≠ y))
  | [], _, _ => rfl
  | p :: l, y, hn => by
    rw [List.map_cons, List.nodup_cons] at hn
    unfold delS
    by_cases e : y = p.1
    · rw [if_pos e, List.map_cons, List.filter_cons_of_neg (by simp [e]), List.filter_eq_self.2 fun x hx => decide_eq_true (by rintro rfl; exact hn.1 (e ▸ hx))]
    · rw [if_neg e, List.map_cons, List.map_cons, List.filter_cons_of_pos (by simpa using Ne.symm e), delS_order hn.2]
theorem sDelete_ok (a : ShAt own h id m) (g : m.good b) {x : Int} : Does Try.prog 27 #[.pointer (some ⟨id, 0, none⟩), .int .i64 x] h
    (fun u h' => u = .int .i64 (m.delete x).1 ∧ ∃ own', ShAt own' h' id (m.delete x).2 ∧ Ks shT own h own' h') := by
  unfold Sm.delete
  refine spec_go mixed Try.func27 rfl Try.results27 (n := Try.f27.ntmps) (by kernel_rfl) (by simp) ?_
  simp only [go_sem, simprocAttr]
  have q0 : h.quiet (h.push (.cells [.int .i64 x] .rw)) := .push _ _
  have g0 : (h.push (.cells [.int .i64 x] .rw)).get h.next = .cells [.int .i64 x] .rw := by simp
  generalize h.push (.cells [.int .i64 x] .rw) = k at q0 g0
  have a0 := a.quiet q0 0
  have k0 : Ks shT own h (bump own h 0) k := .quiet q0 0
  have hob : bump own h 0 h.next ≠ 11 := by rw [bump_ge (Nat.le_refl _)]; decide
  have hob10 : bump own h 0 h.next ≠ 10 := by rw [bump_ge (Nat.le_refl _)]; decide
  generalize bump own h 0 = ow at a0 k0 hob hob10
  refine cl_spec (sfind_ok a0) (fun _ _ _ hc => absurd hc (by decide +kernel)) ?_
  rintro u k' ⟨rfl, rfl⟩
  by_cases c2 : (m.find x).2 = 0
  · have hl := a0.lt
    obtain ⟨ho, fid, uv, ov, mid, rv, hg, cc⟩ := a0
    obtain ⟨hm10, es, ck, hgm, hms⟩ := cc.mp
    obtain ⟨r, hr⟩ := find_some c2
    have hde : ∃ j r', afind .i64 x es 0 = some (some (j, .int .i64 r')) ∧ MsI (es.eraseIdx j) (delS m.snaps x) := by
      rcases hms.find (n := x) 0 with ⟨j, r', e0, e1, e2⟩ | ⟨e1, e2⟩
      · exact ⟨j, r', by rw [e1, Nat.zero_add], e2⟩
      · rw [hr] at e2; cases e2
    obtain ⟨j, r', hde, hms'⟩ := hde
    obtain ⟨ar, cr, rfl⟩ := cc.od.slz.shape
    unfold shC at hg
    simp only [go_sem, simprocAttr, c2, hg, g0, hgm, hde]
    obtain ⟨k2, hk2⟩ : ∃ k2, k'.set mid (.map (es.eraseIdx j) ck) = k2 := ⟨_, rfl⟩
    rw [hk2]
    have k12 : Ks (· = 10) ow k' ow k2 := by rw [← hk2]; exact Ks.set (T := (· = 10)) hm10 _
    have mp2 : MpAt ow k2 mid (delS m.snaps x) := ⟨hm10, _, _, by rw [← hk2]; exact AHeap.get_set_self _ _ (AHeap.lt_of_alive k' (by rw [hgm]; simp)), hms'⟩
    clear hk2
    have hg2 := ((k12.2 id hl).2 (by rw [ho]; decide)).trans hg
    have hl2 := Nat.lt_of_lt_of_le hl k12.1
    have l0 := AHeap.lt_of_alive k' (i := h.next) (by rw [g0]; simp)
    have g2 := ((k12.2 h.next l0).2 hob10).trans g0
    have od2 := cc.od.ks k12 (by decide)
    simp only [go_sem, simprocAttr, hg2]
    refine cl_spec (delF_ok g2 hob od2 (by have := g.sl; rw [List.length_map]; omega)) (fun _ _ _ hc => absurd hc (by decide +kernel)) ?_
    rintro u k3 ⟨od3, k23⟩
    obtain ⟨a3, c3, rfl⟩ := od3.slz.shape
    have hg3 := ((k23.2 id hl2).2 (by rw [ho]; decide)).trans hg2
    have hl3 := Nat.lt_of_lt_of_le hl2 k23.1
    simp only [go_sem, simprocAttr, hg3]
    have k34 : Ks (· = 6) ow k3 ow (k3.set id (.cells (shC { m with snaps := delS m.snaps x } fid uv ov mid (.slice a3 (((m.snaps.map Prod.fst).filter (fun y => decide (y ≠ x))).length) c3)) .rw)) := .set (T := (· = 6)) ho _
    refine ⟨ow, ⟨ho, fid, _, _, mid, _, AHeap.get_set_self _ _ hl3, ?_⟩, ?_⟩
    · refine ⟨((cc.fo.ks k12 (by decide) (by decide)).ks k23 (by decide) (by decide)).ks k34 (by decide) (by decide), ((cc.un.mono k12.1 (k12.tg (by decide))).mono k23.1 (k23.tg (by decide))).mono k34.1 (k34.tg (by decide)),
        ((cc.op.ks k12 (by decide) (by decide)).ks k23 (by decide) (by decide)).ks k34 (by decide) (by decide), (mp2.ks k23 (by decide)).ks k34 (by decide), ?_⟩
      show OrL _ _ ((delS m.snaps x).map Prod.fst) _
      rw [delS_order g.nd]
      exact od3.ks k34 (by decide)
    · exact k0.trans ((k12.weaken fun t e => by subst e; unfold shT; decide).trans ((k23.weaken fun t e => by subst e; unfold shT; decide).trans (k34.weaken fun t e => by subst e; unfold shT; decide)))
  · simp only [go_sem, simprocAttr, c2]
    exact ⟨ow, a0, k0⟩
end
end Go.Proofs.Ytjkganmkfhciiaa
