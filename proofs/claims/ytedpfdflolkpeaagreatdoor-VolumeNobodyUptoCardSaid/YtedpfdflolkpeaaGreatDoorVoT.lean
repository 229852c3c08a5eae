/- volume: shards (the shard seat's texts), the second part. -/
import Derived.Test.YtedpfdflolkpeaaGreatDoorVoS
set_option linter.unusedSimpArgs false
set_option linter.unusedVariables false
set_option linter.unnecessarySimpa false
set_option maxRecDepth 100000
namespace Go.Proofs.YtedpfdflolkpeaaGreatDoor
open Go.AM

theorem Sm.replay_nil (m : Sm) (os : List Bop) : m.replay os [] = m := by cases os <;> rfl
theorem Sm.replay_cons (m : Sm) (o : Bop) (os : List Bop) (k : Bool) (ks : List Bool) : m.replay (o :: os) (k :: ks) = (if k then m.go o else m).replay os ks := rfl
theorem Sm.go_opn (m : Sm) (o : Bop) : (m.go o).opn = m.opn := rfl
theorem Sm.go_n (m : Sm) (o : Bop) : (m.go o).n = m.n := rfl
theorem Sm.good.step {m : Sm} {b : Nat} (g : m.good b) (hb : b < 1073741824) {o : Bop} (f : o.fits m.n) : (m.go o).good (b + 1) := by
  have := f.dat.2; have := g.b1; have := g.b2
  exact (g.mono (Nat.le_succ b)).go (by omega) f (k := m.opn.length) (by omega) (by omega) m.opn rfl g.ol g.op
section
variable {own own' own'' : Nat → Nat} {h h' h'' : AHeap} {S : Nat → Prop} {m : Sm} {id : Nat} {v : Value} {b : Nat}
theorem snew_ok {n : Int} (hn : inI n) : Does Tryz.prog 37 #[.int .i64 n] h (fun u h' => h.quiet h' ∧ ((0 ≤ n ∧ n ≤ 1024 ∧ ∃ id own', u = .tuple #[.pointer (some ⟨id, 0, none⟩), .int .i64 0] ∧ h.next ≤ id ∧ ShAt own' h' id (.new n) ∧ Ks (fun _ => False) own h own' h') ∨ (¬ (0 ≤ n ∧ n ≤ 1024) ∧ u = .tuple #[.pointer none, .int .i64 1]))) := by
  refine spec_go mixed Tryz.func37 rfl Tryz.results37 (n := Tryz.f37.ntmps) (by kernel_rfl) (by simp) ?_
  simp only [go_sem, simprocAttr]
  by_cases c1 : n < 0
  · simp only [go_sem, simprocAttr, c1, decide_true]
    omega
  · by_cases c2 : 1024 < n
    · simp only [go_sem, simprocAttr, c1, c2, decide_true, decide_false]
      omega
    · simp only [go_sem, simprocAttr, c1, c2, decide_false]
      refine cl_spec (newForest_ok (own := own)) (fun _ _ _ hc => absurd hc (by decide +kernel)) ?_
      rintro u k ⟨rfl, q, fo⟩
      simp only [go_sem, simprocAttr]
      have q2 : h.quiet ((k.push (.map [] 0)).push (.cells (shC (.new n) (h.next + 1) (.slice none 0 0) (.slice none 0 0) k.next (.slice none 0 0)) .rw)) := (q.push' _).push' _
      obtain ⟨ow, how⟩ : ∃ ow : Nat → Nat, ow = fun j => if j < k.next then bump own h 1 j else if j = k.next then 10 else 6 := ⟨_, rfl⟩
      have o1 : ∀ j, j < k.next → ow j = bump own h 1 j := fun j hj => by rw [how]; exact if_pos hj
      have o2 : ow k.next = 10 := by rw [how]; simp
      have o3 : ow (k.next + 1) = 6 := by rw [how]; simp only; rw [if_neg (by omega), if_neg (by omega)]
      refine ⟨q2, .inl ⟨by omega, by omega, k.next + 1, ow, rfl, by have := q.1; omega, ?_, ?_⟩⟩
      · refine ⟨o3, h.next + 1, .slice none 0 0, .slice none 0 0, k.next, .slice none 0 0, by simp only [go_sem, simprocAttr, shC, Sm.new], ?_⟩
        refine ⟨fo.mono (by simp only [AHeap.next_push]; omega) (fun t _ j hj hl => ⟨(o1 j hl).trans hj, ?_⟩), .nil _ _ _, ⟨.nil _ _ _ _, fun j e => by cases e⟩, ⟨o2, [], 0, by simp only [go_sem, simprocAttr], rfl⟩, ⟨fun x hx => (by cases hx), .inl ⟨rfl, rfl⟩⟩⟩
        rw [AHeap.get_push_lt _ _ (by simp; omega), AHeap.get_push_lt _ _ hl]
      · exact ⟨q2.1, fun j hj => ⟨(o1 j (Nat.lt_of_lt_of_le hj q.1)).trans (bump_lt hj), fun _ => q2.2 j hj⟩⟩
theorem sCrash_ok (a : ShAt own h id m) (g : m.good b) (hb : b ≤ 1073740000) {ks : List Bool} {kv : Value} (hk : IsSl .bool S h ks kv) (hS : ∀ j, S j → own j ≠ 1 ∧ own j ≠ 6 ∧ own j ≠ 7) : Does Tryz.prog 50 #[.pointer (some ⟨id, 0, none⟩), kv] h
    (fun u h' => u = .tuple #[] ∧ ∃ own', ShAt own' h' id (m.crash ks) ∧ Ks shT own h own' h') := by
  obtain ⟨ak, ck, rfl⟩ := hk.shape
  refine spec_go mixed Tryz.func50 rfl Tryz.results50 (n := Tryz.f50.ntmps) (by kernel_rfl) (by simp) ?_
  simp only [go_sem, simprocAttr]
  refine cl_spec (sok_ok a) (fun _ _ _ hc => absurd hc (by decide +kernel)) ?_
  rintro u k' ⟨rfl, rfl⟩
  have hl := a.lt
  obtain ⟨ho, fid, uv, ov, mid, rv, hg, c⟩ := a
  unfold shC at hg
  obtain ⟨ao, co, rfl⟩ := c.op.slz.shape
  simp only [go_sem, simprocAttr, hg, AHeap.get_set_self _ _ hl]
  obtain ⟨k1, hk1⟩ : ∃ k1, k'.set id (.cells [.int .i64 m.n, .pointer (some ⟨fid, 0, none⟩), uv, .int .i64 m.gen, .int .i64 m.sure, .int .i64 m.sure, .slice ao m.opn.length co, .map (some mid), rv, .bool m.frozen] .rw) = k1 := ⟨_, rfl⟩
  rw [hk1]
  have k01 : Ks (· = 6) own k' own k1 := by rw [← hk1]; exact Ks.set (T := (· = 6)) ho _
  have a1 : ShAt own k1 id { m with now := m.sure } := by
    have c1 := c.ks k01 (by omega)
    exact ⟨ho, fid, uv, _, mid, rv, by rw [← hk1]; exact AHeap.get_set_self _ _ hl, c1.fo, c1.un, c1.op, c1.mp, c1.od⟩
  clear hk1
  have op1 := c.op.ks k01 (by decide) (by decide)
  have g1 : ({ m with now := m.sure } : Sm).good b := by
    obtain ⟨x1, x2, x3, x4, x5, x6, x7, x8, x9, x10, x11, x12⟩ := g
    exact ⟨x1, x3, x3, x4, x5, x6, x7, x8, x9, x10, x11, x12⟩
  have kK : Ks (fun t => t = 1 ∨ t = 6 ∨ t = 7) own k' own k1 := k01.weaken fun t e => .inr (.inl e)
  refine go_cutb (fun ρ k => ∃ (ow : Nat → Nat) (c : Nat), ρ 0 = .pointer (some ⟨id, 0, none⟩) ∧ ShAt ow k id (({ m with now := m.sure } : Sm).replay m.opn ks) ∧ (({ m with now := m.sure } : Sm).replay m.opn ks).good c ∧ Ks (fun t => t = 1 ∨ t = 6 ∨ t = 7) own k' ow k) ?_ ?_
  · refine go_loop (fun z ρ k => ∃ (i : Nat) (cur : Sm) (ow : Nat → Nat), i ≤ m.opn.length ∧ z = m.opn.length - i ∧ cur.replay (m.opn.drop i) (ks.drop i) = ({ m with now := m.sure } : Sm).replay m.opn ks ∧ cur.opn = m.opn ∧ cur.n = m.n ∧ cur.good (b + i) ∧
      ShAt ow k id cur ∧ Ks (fun t => t = 1 ∨ t = 6 ∨ t = 7) own k' ow k ∧ ρ 0 = .pointer (some ⟨id, 0, none⟩) ∧ ρ 1 = .slice ak ks.length ck ∧ ρ 19 = .slice ao m.opn.length co ∧ ρ 20 = .int .i64 m.opn.length ∧ ρ 21 = .int .i64 i)
      m.opn.length ⟨0, _, own, by omega, by omega, rfl, rfl, rfl, g1, a1, kK, by simp only [go_sem, simprocAttr]⟩ ?_
    rintro z ρ k ⟨i, cur, ow, hi, rfl, hrep, hopn, hcn, gc, ac, kk, r0, r1, r19, r20, r21⟩
    simp only [go_sem, simprocAttr, r0, r1, r19, r20, r21]
    refine cnd_decide (fun hy => ?_) (fun hy => ?_)
    · have h1 : i < m.opn.length := by omega
      have e21 : IntKind.i64.wrap ((i : Int) + 1) = ((i + 1 : Nat) : Int) := by have := g.ol; rw [wi64] <;> omega
      obtain ⟨jb, off, sp, cc, md, o, lv, hA, hSb, hgo, hoi, hw, hin, hle, hdt⟩ := IsSl.atO (c.op.ks kk (by decide) (by decide)).slz h1
      have hdr : m.opn.drop i = o :: m.opn.drop (i + 1) := drop_cons hoi
      have hof : o.fits cur.n := by rw [hcn]; exact g.op o (List.mem_of_getElem? hoi)
      obtain ⟨al, cl_, rfl⟩ := hw.shape
      have hwb := hw.bound
      have hib : b + i < 1073741824 := by have := g.ol; omega
      subst hA
      simp only [go_sem, simprocAttr, r0, r1, r19, r20, r21, hgo, h1, hle, hdt, bo_len, bo_take, bo_one, bo_put]
      obtain ⟨k2, hk2⟩ : ∃ k2, k.push (.cells (o.cs (.slice al o.data.length cl_)) .rw) = k2 := ⟨_, rfl⟩
      have q2 : k.quiet k2 := by rw [← hk2]; exact .push _ _
      have gt2 : k2.get k.next = .cells (o.cs (.slice al o.data.length cl_)) .rw := by rw [← hk2]; exact AHeap.get_push_self _ _
      rw [hk2]
      clear hk2
      have ac2 := ac.quiet q2 0
      have kk2 := kk.trans (Ks.quiet q2 0)
      obtain ⟨ow2, how2⟩ : ∃ ow2, bump ow k 0 = ow2 := ⟨_, rfl⟩
      have hw2 : Words (fun j => ow2 j = 8 ∨ ow2 j = 9) k2 o.data (.slice al o.data.length cl_) := (hwb.quiet q2).mono fun j hj _ => ⟨by rw [← how2, bump_lt hj.2]; exact hj.1, rfl⟩
      rw [how2] at ac2 kk2
      clear how2
      -- behind this round
      have next : ∀ (kf : AHeap) (owf : Nat → Nat) (cur' : Sm) (ρ' : Env), cur'.replay (m.opn.drop (i + 1)) (ks.drop (i + 1)) = ({ m with now := m.sure } : Sm).replay m.opn ks → cur'.opn = m.opn → cur'.n = m.n → cur'.good (b + (i + 1)) → ShAt owf kf id cur' → Ks (fun t => t = 1 ∨ t = 6 ∨ t = 7) own k' owf kf →
          ρ' 0 = .pointer (some ⟨id, 0, none⟩) → ρ' 1 = .slice ak ks.length ck → ρ' 19 = (.slice (some ⟨jb, off, sp⟩) m.opn.length co) → ρ' 20 = .int .i64 m.opn.length → ρ' 21 = .int .i64 (i + 1 : Nat) → ∃ m', m' < m.opn.length - i ∧ ∃ (i : Nat) (cur : Sm) (ow : Nat → Nat), i ≤ m.opn.length ∧ m' = m.opn.length - i ∧ cur.replay (m.opn.drop i) (ks.drop i) = ({ m with now := m.sure } : Sm).replay m.opn ks ∧ cur.opn = m.opn ∧ cur.n = m.n ∧ cur.good (b + i) ∧
      ShAt ow kf id cur ∧ Ks (fun t => t = 1 ∨ t = 6 ∨ t = 7) own k' ow kf ∧ ρ' 0 = .pointer (some ⟨id, 0, none⟩) ∧ ρ' 1 = .slice ak ks.length ck ∧ ρ' 19 = (.slice (some ⟨jb, off, sp⟩) m.opn.length co) ∧ ρ' 20 = .int .i64 m.opn.length ∧ ρ' 21 = .int .i64 i :=
        fun kf owf cur' ρ' e1 e2 e3 e4 e5 e6 e7 e8 e9 e10 e11 => ⟨m.opn.length - (i + 1), by omega, i + 1, cur', owf, by omega, rfl, e1, e2, e3, e4, e5, e6, e7, e8, e9, e10, e11⟩
      by_cases hki : i < ks.length
      · have hki' : (i : Int) < ks.length := by omega
        have hkk := hk.bound.mono (S' := fun j => S j ∧ j < k'.next) (h' := k2) fun j hj hl => ⟨hj, (kk2.2 j hl).2 (by have := hS j hj.1; omega)⟩
        obtain ⟨bk, fk, sk, ck_, mk, ub, y, hAk, hSk, hgk, hyi, hyr, hyd⟩ := hkk.at1 rfl hki
        subst hAk
        have hub : ub = .bool y := by have := hyr; simpa [Rep.bool] using this
        subst hub
        have hkd : ks.drop i = y :: ks.drop (i + 1) := drop_cons hyi
        rw [hdr, hkd, Sm.replay_cons] at hrep
        simp only [go_sem, simprocAttr, r0, r1, r19, r20, r21, hki, hki', decide_true, hgk, hyd]
        cases y with
        | true =>
          have ac0 := ac2
          obtain ⟨ho2, fid2, uv2, ov2, mid2, rv2, hg2, c2⟩ := ac2
          unfold shC at hg2
          simp only [go_sem, simprocAttr, r0, r19, r20, r21, hg2, gt2, bo_len, bo_take]
          refine cl_spec (sdone_ok ac0 gc (Nat.le_of_lt hib) gc.now hof hin hw2 (fun j hj => by omega)) (fun _ _ _ hc => absurd hc (by decide +kernel)) ?_
          rintro u k3 ⟨rfl, ow3, ac3, k23⟩
          have hl3 := ac3.lt
          obtain ⟨ho3, fid3, uv3, ov3, mid3, rv3, hg3, c3⟩ := ac3
          unfold shC at hg3
          simp only [go_sem, simprocAttr, r0, r19, r20, r21, hg3, e21]
          have k34 : Ks (· = 6) ow3 k3 ow3 (k3.set id (.cells (shC (cur.go o) fid3 uv3 ov3 mid3 rv3) .rw)) := .set (T := (· = 6)) ho3 _
          have c4 := c3.ks k34 (by omega)
          rw [if_pos rfl] at hrep
          refine Hold.mk (next _ ow3 (cur.go o) _ hrep hopn hcn (gc.step hib hof) ⟨ho3, fid3, _, _, mid3, rv3, AHeap.get_set_self _ _ hl3, ⟨c4.fo, c4.un, c4.op, c4.mp, c4.od⟩⟩ (kk2.trans (k23.trans (k34.weaken fun t e => .inr (.inl e)))) ?_ ?_ ?_ ?_ ?_)
          all_goals simp only [go_sem, simprocAttr, r0, r1, r19, r20]
        | false =>
          simp only [go_sem, simprocAttr, r21, e21]
          rw [if_neg Bool.false_ne_true] at hrep
          refine Hold.mk (next _ ow2 cur _ hrep hopn hcn (gc.mono (by omega)) ac2 kk2 ?_ ?_ ?_ ?_ ?_)
          all_goals simp only [go_sem, simprocAttr, r0, r1, r19, r20]
      · have hki' : ¬ (i : Int) < ks.length := by omega
        have hkd : ks.drop i = [] := List.drop_eq_nil_of_le (by omega)
        have hkd' : ks.drop (i + 1) = [] := List.drop_eq_nil_of_le (by omega)
        rw [hkd, Sm.replay_nil] at hrep
        simp only [go_sem, simprocAttr, r0, r1, r19, r20, r21, hki, hki', decide_false, e21]
        refine Hold.mk (next _ ow2 cur _ (by rw [hkd', Sm.replay_nil]; exact hrep) hopn hcn (gc.mono (by omega)) ac2 kk2 ?_ ?_ ?_ ?_ ?_)
        all_goals simp only [go_sem, simprocAttr, r0, r1, r19, r20]
    · have hi' : i = m.opn.length := by omega
      subst hi'
      rw [List.drop_length] at hrep
      simp only [go_sem, simprocAttr, r0]
      refine Hold.mk ⟨ow, b + m.opn.length, r0, ?_, ?_, kk⟩
      · rw [← hrep]; exact ac
      · rw [← hrep]; exact gc
  · rintro ρ k ⟨ow, cc, r0, ac, gc, kk⟩
    simp only [go_sem, simprocAttr, r0]
    refine cl_spec (sFlush_ok ac) (fun _ _ _ hc => absurd hc (by decide +kernel)) ?_
    rintro u k2 ⟨rfl, a2, k62⟩
    have hl2 := a2.lt
    obtain ⟨ho2, fid2, uv2, ov2, mid2, rv2, hg2, c2⟩ := a2
    unfold shC at hg2
    simp only [go_sem, simprocAttr, r0, hg2]
    have k23 : Ks (· = 6) ow k2 ow (k2.set id (.cells (shC (m.crash ks) fid2 uv2 ov2 mid2 rv2) .rw)) := .set (T := (· = 6)) ho2 _
    have c3 := c2.ks k23 (by omega)
    refine ⟨ow, ⟨ho2, fid2, _, _, mid2, rv2, AHeap.get_set_self _ _ hl2, ⟨c3.fo, c3.un, c3.op, c3.mp, c3.od⟩⟩, ?_⟩
    exact (kk.weaken fun t e => by unfold shT; omega).trans ((k62.weaken fun t e => by subst e; unfold shT; decide).trans (k23.weaken fun t e => by subst e; unfold shT; decide))
end

theorem find_none {m : Sm} {x : Int} (h : (m.find x).2 ≠ 0) : lookS m.snaps x = none ∧ (m.find x).2 = 9 := by
  unfold Sm.find at *
  split at h
  · exact absurd rfl h
  · rename_i e; rw [e]; exact ⟨rfl, rfl⟩
theorem find_some {m : Sm} {x : Int} (h : (m.find x).2 = 0) : ∃ r, lookS m.snaps x = some r := by
  unfold Sm.find at h
  split at h
  · rename_i r e; exact ⟨r, e⟩
  · cases h
section
variable {own own' own'' : Nat → Nat} {h h' h'' : AHeap} {S : Nat → Prop} {m : Sm} {id : Nat} {v : Value} {b : Nat}
theorem OrL.app {xs : List Int} (o : OrL own h xs v) {y : Int} (hy : inI y) (hl : xs.length ≤ 1000000) : ∃ v' h', aappend (h.push (.cells [.int .i64 y] .rw)) 1 8 v 1 [.int .i64 y] = some (v', h') ∧ ∃ own', OrL own' h' (xs ++ [y]) v' ∧ Ks (· = 11) own h own' h' ∧ ∃ a n c, v' = .slice a n c := by
  have q := AHeap.quiet.push h (.cells [.int .i64 y] .rw)
  obtain ⟨k, hk⟩ : ∃ k, h.push (.cells [.int .i64 y] .rw) = k := ⟨_, rfl⟩
  rw [hk] at q ⊢
  clear hk
  have o := o.ks (T := fun _ => False) (.quiet q 0) (fun e => e)
  have kq : Ks (· = 11) own h (bump own h 0) k := .quiet q 0
  obtain ⟨ow, how⟩ : ∃ ow, bump own h 0 = ow := ⟨_, rfl⟩
  rw [how] at o kq
  clear how
  obtain ⟨hx, ⟨rfl, rfl⟩ | ⟨ob, c, cap, rfl, ho, hg, hc, hle, hcap, ht⟩⟩ := o
  · refine ⟨.slice (some ⟨k.next, 0, some 1⟩) 1 1, k.push (.cells [.int .i64 y] (.tail 1)), ?_, bump ow k 11, ?_, kq.trans (.quiet (.push _ _) 11), _, _, _, rfl⟩
    · rw [aappend_nil, if_neg (by omega), if_pos (by omega)]
    · refine ⟨fun z hz => ?_, .inr ⟨k.next, [.int .i64 y], 1, rfl, bump_ge (Nat.le_refl _), AHeap.get_push_self _ _, rfl, by simp, by omega, rfl⟩⟩
      obtain rfl : z = y := by simpa using hz
      exact hy
  · have hall : ∀ z ∈ xs ++ [y], inI z := fun z hz => by
      rcases List.mem_append.1 hz with hz | hz
      · exact hx z hz
      · obtain rfl : z = y := by simpa using hz
        exact hy
    have hlt : ob < k.next := AHeap.lt_of_alive k (by rw [hg]; simp)
    by_cases hfit : xs.length + 1 ≤ cap
    · refine ⟨.slice (some ⟨ob, 0, some 1⟩) (xs.length + 1) cap, k.set ob (.cells (putCells c (0 + xs.length * 1) [.int .i64 y]) (.tail 1)), ?_, ow, ?_, kq.trans (.set (T := (· = 11)) ho _), _, _, _, rfl⟩
      · unfold aappend
        dsimp only
        rw [if_neg (by omega), if_pos hfit]
        simp only [hg]
        rw [if_pos ⟨by simp, by omega⟩]
      · refine ⟨hall, .inr ⟨ob, _, cap, by rw [List.length_append]; rfl, ho, AHeap.get_set_self _ _ hlt, ?_, by simpa using hfit, hcap, ?_⟩⟩
        · simp [putCells, hc]
        · simp only [putCells, Nat.zero_add, Nat.mul_one, List.length_append, List.length_cons, List.length_nil, List.map_append, List.map_cons, List.map_nil]
          rw [List.take_add_one, List.take_set_of_le (Nat.le_refl _), ht, List.getElem?_set_self (by omega)]
          rfl
    · refine ⟨.slice (some ⟨k.next, 0, some 1⟩) (xs.length + 1) (xs.length + 1), (k.set ob .dead).push (.cells ((c.drop 0).take (xs.length * 1) ++ [.int .i64 y]) (.tail 1)), ?_, bump ow k 11, ?_, kq.trans (Ks.trans (own' := ow) (h' := k.set ob .dead) (.set (T := (· = 11)) ho _) ?_), _, _, _, rfl⟩
      · unfold aappend
        dsimp only
        rw [if_neg (by omega), if_neg hfit, if_pos (by omega)]
        simp only [hg]
        rw [if_pos ⟨trivial, trivial, by omega⟩]
      · refine ⟨hall, .inr ⟨k.next, (c.drop 0).take (xs.length * 1) ++ [.int .i64 y], xs.length + 1, by rw [List.length_append]; rfl, bump_ge (Nat.le_refl _), ?_, ?_, by simp, by omega, ?_⟩⟩
        · have := AHeap.get_push_self (k.set ob .dead) (.cells ((c.drop 0).take (xs.length * 1) ++ [.int .i64 y]) (.tail 1))
          simpa using this
        · simp; omega
        · simp only [List.drop_zero, Nat.mul_one, List.length_append, List.length_cons, List.length_nil, List.map_append, List.map_cons, List.map_nil, ht]
          rw [List.take_of_length_le (by simp)]
      · exact ⟨by simp, fun j hj => ⟨bump_lt (by simpa using hj), fun _ => AHeap.get_push_lt _ _ hj⟩⟩
theorem sSnap_ok (a : ShAt own h id m) (g : m.good b) (hb : b < 1073741824) {x : Int} (hx : inI x) : Does Tryz.prog 98 #[.pointer (some ⟨id, 0, none⟩), .int .i64 x] h
    (fun u h' => u = .int .i64 (m.snap x).1 ∧ ∃ own', ShAt own' h' id (m.snap x).2 ∧ Ks shT own h own' h') := by
  unfold Sm.snap
  refine spec_go mixed Tryz.func98 rfl Tryz.results98 (n := Tryz.f98.ntmps) (by kernel_rfl) (by simp) ?_
  simp only [go_sem, simprocAttr]
  refine cl_spec (sok_ok a) (fun _ _ _ hc => absurd hc (by decide +kernel)) ?_
  rintro u k ⟨rfl, rfl⟩
  simp only [go_sem, simprocAttr]
  refine cl_spec (sfind_ok a) (fun _ _ _ hc => absurd hc (by decide +kernel)) ?_
  rintro u k' ⟨rfl, rfl⟩
  by_cases c1 : x < 1
  · simp only [go_sem, simprocAttr, c1, decide_true, if_true]
    exact ⟨own, a, .refl⟩
  by_cases c2 : (m.find x).2 = 0
  · simp only [go_sem, simprocAttr, c1, c2, decide_true, decide_false, if_true, if_false]
    exact ⟨own, a, .refl⟩
  have a0 := a
  obtain ⟨ho, fid, uv, ov, mid, rv, hg, c⟩ := a
  obtain ⟨hm10, es, ck, hgm, hms⟩ := c.mp
  have hlen : alenB Tryz.prog k' #[142] (.map (some mid)) = some (.int .i64 m.snaps.length) := by
    unfold alenB
    simp only [go_sem, hgm, hms.len]
  unfold shC at hg
  by_cases c3 : 32 ≤ m.snaps.length
  · have c3' : (32 : Int) ≤ m.snaps.length := by omega
    simp only [go_sem, simprocAttr, c1, c2, c3, c3', hg, hlen, hgm, hms.len, decide_true, decide_false, if_true, if_false]
    exact ⟨own, a0, .refl⟩
  have c3' : ¬ (32 : Int) ≤ m.snaps.length := by omega
  simp only [go_sem, simprocAttr, c1, c2, c3, c3', hg, hlen, hgm, hms.len, decide_true, decide_false, if_true, if_false]
  refine cl_spec (sFlush_ok a0) (fun _ _ _ hc => absurd hc (by decide +kernel)) ?_
  rintro u k1 ⟨rfl, a1, k01⟩
  have hl1 := a1.lt
  obtain ⟨ho1, fid1, uv1, ov1, mid1, rv1, hg1, cc⟩ := a1
  obtain ⟨hm1, es1, ck1, hgm1, hms1⟩ := cc.mp
  have hno := (find_none c2).1
  have hup : amapUpdate Tryz.prog k1 142 (.map (some mid1)) (.int .i64 x) (.int .i64 m.now) = some (k1.set mid1 (.map (es1 ++ [{ key := .int .i64 x, val := .int .i64 m.now, born := ck1 }]) (ck1 + 1))) := by
    unfold amapUpdate
    simp only [go_sem, hgm1]
    rcases hms1.find (n := x) 0 with ⟨j, r', k0, k1_, _⟩ | ⟨k1_, k2⟩
    · rw [hno] at k0; cases k0
    · rw [k1_]
  unfold shC at hg1
  simp only [go_sem, simprocAttr, hg1, hup]
  obtain ⟨k2, hk2⟩ : ∃ k2, k1.set mid1 (.map (es1 ++ [{ key := .int .i64 x, val := .int .i64 m.now, born := ck1 }]) (ck1 + 1)) = k2 := ⟨_, rfl⟩
  rw [hk2]
  have k12 : Ks (· = 10) own k1 own k2 := by rw [← hk2]; exact Ks.set (T := (· = 10)) hm1 _
  have mp2 : MpAt own k2 mid1 (m.snaps ++ [(x, m.now)]) := ⟨hm1, _, _, by rw [← hk2]; exact AHeap.get_set_self _ _ (AHeap.lt_of_alive k1 (by rw [hgm1]; simp)), hms1.add x m.now ck1⟩
  clear hk2
  have hg2 := ((k12.2 id hl1).2 (by rw [ho1]; decide)).trans hg1
  have hl2 := Nat.lt_of_lt_of_le hl1 k12.1
  have od2 := cc.od.ks k12 (by decide)
  obtain ⟨v3, k3, e3, ow3, od3, k23, a3, n3, c3_, rfl⟩ := od2.app hx (by rw [List.length_map]; show m.snaps.length ≤ _; omega)
  obtain ⟨a2, cp2, rfl⟩ := od2.slz.shape
  simp only [go_sem, simprocAttr, hg2, e3]
  have hg3 := ((k23.2 id hl2).2 (by rw [ho1]; decide)).trans hg2
  have ho3 := (k23.2 id hl2).1.trans ho1
  have hl3 := Nat.lt_of_lt_of_le hl2 k23.1
  have e4 : IntKind.i64.wrap (m.gen + 1) = m.gen + 1 := by have := g.b3; have := g.g0; rw [wi64] <;> omega
  have e4' : IntKind.i64.wrap (m.flush.gen + 1) = m.gen + 1 := e4
  simp only [go_sem, simprocAttr, hg3, AHeap.get_set_self _ _ hl3, AHeap.set_set, e4, e4']
  have k34 : Ks (· = 6) ow3 k3 ow3 (k3.set id (.cells (shC { m.flush with snaps := m.snaps ++ [(x, m.now)], gen := m.gen + 1 } fid1 uv1 ov1 mid1 (.slice a3 n3 c3_)) .rw)) := .set (T := (· = 6)) ho3 _
  refine ⟨ow3, ⟨ho3, fid1, _, _, mid1, _, AHeap.get_set_self _ _ hl3, ?_⟩, ?_⟩
  · refine ⟨((cc.fo.ks k12 (by decide) (by decide)).ks k23 (by decide) (by decide)).ks k34 (by decide) (by decide), ((cc.un.mono k12.1 (k12.tg (by decide))).mono k23.1 (k23.tg (by decide))).mono k34.1 (k34.tg (by decide)),
      ((cc.op.ks k12 (by decide) (by decide)).ks k23 (by decide) (by decide)).ks k34 (by decide) (by decide), (mp2.ks k23 (by decide)).ks k34 (by decide), ?_⟩
    show OrL _ _ ((m.snaps ++ [(x, m.now)]).map Prod.fst) _
    rw [List.map_append]
    exact od3.ks k34 (by decide)
  · exact (k01.weaken fun t e => by subst e; unfold shT; decide).trans ((k12.weaken fun t e => by subst e; unfold shT; decide).trans ((k23.weaken fun t e => by subst e; unfold shT; decide).trans (k34.weaken fun t e => by subst e; unfold shT; decide)))
/-! What is gone. -/
def isY (bid : Nat) : Value := .func (.func 132) #[] #[.pointer (some ⟨bid, 0, none⟩)]
theorem del1_ok {bid : Nat} {x y : Int} (hb : h.get bid = .cells [.int .i64 y] .rw) : Does Tryz.prog 132 #[.int .i64 x, .pointer (some ⟨bid, 0, none⟩)] h (fun u h' => u = .bool (decide (x = y)) ∧ h' = h) := by
  refine spec_go mixed Tryz.func132 rfl Tryz.results132 (n := Tryz.f132.ntmps) (by kernel_rfl) (by simp) ?_
  simp only [go_sem, simprocAttr, hb]
theorem index_ok {bid : Nat} {xs : List Int} {y : Int} (hb : h.get bid = .cells [.int .i64 y] .rw) (hs : Ints S h xs v) (hn : xs.length ≤ 1000000) : Does Tryz.prog 126 #[v, isY bid] h
    (fun u h' => h' = h ∧ ((u = .int .i64 (-1) ∧ y ∉ xs) ∨ ∃ j : Nat, u = .int .i64 j ∧ xs[j]? = some y ∧ y ∉ xs.take j)) := by
  obtain ⟨a, c, rfl⟩ := hs.shape
  refine spec_go mixed Tryz.func126 rfl Tryz.results126 (n := Tryz.f126.ntmps) (by kernel_rfl) (by simp) ?_
  simp only [go_sem, simprocAttr]
  refine go_loop (fun z ρ k => ∃ i : Nat, i ≤ xs.length ∧ z = xs.length - i ∧ k = h ∧ y ∉ xs.take i ∧ ρ 0 = .slice a xs.length c ∧ ρ 1 = isY bid ∧ ρ 7 = .int .i64 xs.length ∧ ρ 8 = .int .i64 i) xs.length ⟨0, by omega, by omega, rfl, by simp, by simp only [go_sem, simprocAttr]⟩ ?_
  rintro z ρ k ⟨i, hi, rfl, rfl, hno, r0, r1, r7, r8⟩
  simp only [go_sem, simprocAttr, r0, r1, r7, r8]
  refine cnd_decide (fun hy => ?_) (fun hy => ?_)
  · have h1 : i < xs.length := by omega
    have e8 : IntKind.i64.wrap ((i : Int) + 1) = ((i + 1 : Nat) : Int) := by rw [wi64] <;> omega
    obtain ⟨jb, off, sp, cc, md, x, hA, _, hg, hxi, _, hdt⟩ := hs.atI h1
    subst hA
    simp only [go_sem, simprocAttr, r0, r1, r7, r8, hg, h1, hdt, isY]
    refine cl_spec (del1_ok hb) (fun _ _ _ hc => absurd hc (by decide +kernel)) ?_
    rintro u k' ⟨rfl, rfl⟩
    have et : xs.take (i + 1) = xs.take i ++ [x] := by rw [List.take_add_one, hxi]; rfl
    by_cases hxy : x = y
    · simp only [go_sem, simprocAttr, decide_eq_true hxy]
      exact .inr ⟨i, rfl, by rw [hxi, hxy], hno⟩
    · simp only [go_sem, simprocAttr, decide_eq_false hxy, r8, e8]
      refine Hold.mk ⟨xs.length - (i + 1), by omega, i + 1, by omega, rfl, rfl, ?_, by simp only [go_sem, simprocAttr, r0, r1, r7, isY]⟩
      rw [et, List.mem_append]
      rintro (e | e)
      · exact hno e
      · exact hxy (List.mem_singleton.1 e).symm
  · have hi' : i = xs.length := by omega
    subst hi'
    rw [List.take_length] at hno
    simp only [go_sem, simprocAttr]
    exact .inl hno
theorem delF_ok {bid : Nat} {xs : List Int} {y : Int} (hb : h.get bid = .cells [.int .i64 y] .rw) (hob : own bid ≠ 11) (o : OrL own h xs v) (hn : xs.length ≤ 1000000) : Does Tryz.prog 131 #[v, isY bid] h
    (fun u h' => OrL own h' (xs.filter (fun x => decide (x ≠ y))) u ∧ Ks (· = 11) own h own h') := by
  have hs := o.slz
  obtain ⟨a, c, rfl⟩ := hs.shape
  refine spec_go mixed Tryz.func131 rfl Tryz.results131 (n := Tryz.f131.ntmps) (by kernel_rfl) (by simp) ?_
  simp only [go_sem, simprocAttr]
  refine cl_spec (index_ok hb hs hn) (fun _ _ _ hc => absurd hc (by decide +kernel)) ?_
  rintro u k ⟨rfl, ⟨rfl, hno⟩ | ⟨i0, rfl, hy0, hno⟩⟩
  · simp only [go_sem, simprocAttr]
    refine ⟨?_, .refl⟩
    rw [List.filter_eq_self.2 fun x hx => decide_eq_true (by rintro rfl; exact hno hx)]
    exact o
  · have hi0 : i0 < xs.length := (List.getElem?_eq_some_iff.1 hy0).1
    have n1 : ¬ (i0 : Int) = -1 := by omega
    have e6 : IntKind.i64.wrap ((i0 : Int) + 1) = ((i0 + 1 : Nat) : Int) := by rw [wi64] <;> omega
    obtain ⟨hx, ⟨rfl, _⟩ | ⟨ob, c0, cap, ev, ho, hg, hc, hle, hcap, ht⟩⟩ := o
    · simp at hi0
    cases ev
    have hlt : ob < k.next := AHeap.lt_of_alive k (by rw [hg]; simp)
    have hne : bid ≠ ob := by rintro rfl; exact hob ho
    have hcx : ∀ p x, xs[p]? = some x → c0[p]? = some (Value.int .i64 x) := fun p x hp => by
      have hpl := (List.getElem?_eq_some_iff.1 hp).1
      have := congrArg (·[p]?) ht
      simp only [List.getElem?_take, if_pos hpl, List.getElem?_map, hp, Option.map_some] at this
      exact this
    have f0 : xs.take i0 = (xs.take i0).filter (fun x => decide (x ≠ y)) := (List.filter_eq_self.2 fun x hx => decide_eq_true (by rintro rfl; exact hno hx)).symm
    have f1 : (xs.take (i0 + 1)).filter (fun x => decide (x ≠ y)) = xs.take i0 := by
      rw [List.take_add_one, hy0, List.filter_append, ← f0]; simp
    simp only [go_sem, simprocAttr, n1, decide_false, e6]
    refine go_cutb (fun ρ k1 => ∃ (i : Nat) (c1 : List Value), i = (xs.filter (fun x => decide (x ≠ y))).length ∧ i < xs.length ∧ k1.next = k.next ∧ (∀ p, p ≠ ob → k1.get p = k.get p) ∧ k1.get ob = .cells c1 (.tail 1) ∧ c1.length = c ∧ c1.take i = (xs.filter (fun x => decide (x ≠ y))).map (fun x => .int .i64 x) ∧
      ρ 0 = .slice (some ⟨ob, 0, some 1⟩) xs.length c ∧ ρ 5 = .int .i64 i) ?_ ?_
    · refine go_loop (fun z ρ k1 => ∃ (i j : Nat) (c1 : List Value), j ≤ xs.length ∧ z = xs.length - j ∧ i = ((xs.take j).filter (fun x => decide (x ≠ y))).length ∧ i < j ∧ k1.next = k.next ∧ (∀ p, p ≠ ob → k1.get p = k.get p) ∧ k1.get ob = .cells c1 (.tail 1) ∧ c1.length = c ∧
        c1.take i = ((xs.take j).filter (fun x => decide (x ≠ y))).map (fun x => .int .i64 x) ∧ (∀ p, j ≤ p → c1[p]? = c0[p]?) ∧ ρ 0 = .slice (some ⟨ob, 0, some 1⟩) xs.length c ∧ ρ 1 = isY bid ∧ ρ 5 = .int .i64 i ∧ ρ 6 = .int .i64 j) (xs.length - (i0 + 1)) ?_ ?_
      · refine ⟨i0, i0 + 1, c0, by omega, ?_, by rw [f1, List.length_take]; omega, by omega, rfl, fun _ _ => rfl, hg, hc, ?_, fun _ _ => rfl, by simp only [go_sem, simprocAttr, isY]⟩
        · rfl
        · have := congrArg (List.take i0) ht
          rw [List.take_take, ← List.map_take, Nat.min_eq_left (by omega)] at this
          rw [f1]; exact this
      · rintro z ρ k1 ⟨i, j, c1, hj, rfl, hi, hij, hn1, hk1, hg1, hl1, ht1, hd1, r0, r1, r5, r6⟩
        simp only [go_sem, simprocAttr, r0, r1, r5, r6]
        refine cnd_decide (fun hyy => ?_) (fun hyy => ?_)
        · have h1 : j < xs.length := by omega
          have e6 : IntKind.i64.wrap ((j : Int) + 1) = ((j + 1 : Nat) : Int) := by rw [wi64] <;> omega
          have e5 : IntKind.i64.wrap ((i : Int) + 1) = ((i + 1 : Nat) : Int) := by rw [wi64] <;> omega
          obtain ⟨x, hxj⟩ : ∃ x, xs[j]? = some x := ⟨_, List.getElem?_eq_getElem h1⟩
          have hcj : c1[j]? = some (.int .i64 x) := (hd1 j (Nat.le_refl _)).trans (hcx j x hxj)
          have et : (xs.take (j + 1)).filter (fun x => decide (x ≠ y)) = (xs.take j).filter (fun x => decide (x ≠ y)) ++ (if x = y then [] else [x]) := by
            rw [List.take_add_one, hxj, List.filter_append]
            congr 1
            by_cases e : x = y <;> simp [e]
          have hb1 : k1.get bid = .cells [.int .i64 y] .rw := (hk1 bid hne).trans hb
          simp only [go_sem, simprocAttr, r0, r1, r5, r6, hg1, h1, hcj, isY]
          refine cl_spec (del1_ok hb1) (fun _ _ _ hc => absurd hc (by decide +kernel)) ?_
          rintro u k2 ⟨rfl, rfl⟩
          have hm : xs.length - (j + 1) < xs.length - j := by omega
          by_cases hxy : x = y
          · rw [if_pos hxy, List.append_nil] at et
            simp only [go_sem, simprocAttr, decide_eq_true hxy, r6, e6]
            refine Hold.mk ⟨xs.length - (j + 1), hm, i, j + 1, c1, by omega, rfl, by rw [et]; exact hi, by omega, hn1, hk1, hg1, hl1, by rw [et]; exact ht1, fun p hp => hd1 p (by omega), by simp only [go_sem, simprocAttr, r0, r1, r5, isY]⟩
          · rw [if_neg hxy] at et
            have h2 : i < xs.length := by omega
            have h3 : i + 1 ≤ c1.length := by omega
            have hob1 : ob < k2.next := by omega
            simp only [go_sem, simprocAttr, decide_eq_false hxy, r0, r1, r5, r6, hg1, h2, h3, e5, e6, if_true]
            refine Hold.mk ⟨xs.length - (j + 1), hm, i + 1, j + 1, c1.set i (.int .i64 x), by omega, rfl, by rw [et, List.length_append, ← hi]; rfl, by omega, by simpa using hn1, fun p hp => (AHeap.get_set_ne _ _ (Ne.symm hp)).trans (hk1 p hp), AHeap.get_set_self _ _ hob1, by simpa using hl1, ?_, fun p hp => ?_, by simp only [go_sem, simprocAttr, r0, r1, r5, isY]⟩
            · rw [et, List.map_append, ← ht1, List.take_add_one, List.take_set_of_le (Nat.le_refl _), List.getElem?_set_self (by omega)]; rfl
            · rw [List.getElem?_set_ne (by omega)]; exact hd1 p (by omega)
        · have hj' : j = xs.length := by omega
          subst hj'
          rw [List.take_length] at hi ht1
          simp only [go_sem, simprocAttr]
          exact Hold.mk ⟨i, c1, hi, hij, hn1, hk1, hg1, hl1, ht1, by simp only [go_sem, simprocAttr, r0, r5]⟩
    · rintro ρ k1 ⟨i, c1, hi, hil, hn1, hk1, hg1, hl1, ht1, r0, r5⟩
      have h1 : i ≤ xs.length ∧ xs.length ≤ c := by omega
      have h2 : 0 ≤ i ∧ i ≤ c := by omega
      have h3 : ¬ xs.length - i = 0 := by omega
      have h4 : i + (xs.length - i) ≤ c1.length := by omega
      have h5 : i ≤ c := by omega
      simp only [go_sem, simprocAttr, r0, r5, if_pos h1, h3, hg1, if_pos h4, if_pos h5, Nat.sub_zero]
      have hpl : ∀ (vs cs : List Value) (o : Nat), (putCells cs o vs).length = cs.length := by
        intro vs
        induction vs with
        | nil => intro cs o; rfl
        | cons u vs ih => intro cs o; simp only [putCells]; rw [ih]; simp
      have hpt : ∀ (vs cs : List Value) (o n : Nat), n ≤ o → (putCells cs o vs).take n = cs.take n := by
        intro vs
        induction vs with
        | nil => intro cs o n _; rfl
        | cons u vs ih => intro cs o n hn; simp only [putCells]; rw [ih _ _ _ (by omega), List.take_set_of_le hn]
      have hob1 : ob < k1.next := by omega
      have hset : ∀ p, p < k.next → own p ≠ 11 → (k1.set ob (.cells (putCells c1 i (azeros [.int .i64 0] (xs.length - i))) (.tail 1))).get p = k.get p := fun p _ hp => by
        have : p ≠ ob := by rintro rfl; exact hp ho
        rw [AHeap.get_set_ne _ _ (Ne.symm this)]; exact hk1 p this
      refine ⟨⟨fun x hx' => hx x (List.mem_filter.1 hx').1, .inr ⟨ob, _, c, ?_, ho, AHeap.get_set_self _ _ hob1, by rw [hpl]; exact hl1, by rw [← hi]; omega, hcap, ?_⟩⟩, ⟨by simp [hn1], fun p hp => ⟨rfl, hset p hp⟩⟩⟩
      · rw [hi]
      · rw [← hi, hpt _ _ _ _ (Nat.le_refl _)]; exact ht1
theorem delS_order : ∀ {l : List (Int × Int)} {y : Int}, (l.map Prod.fst).Nodup → (delS l y).map Prod.fst = (l.map Prod.fst).filter (fun x => decide (x ≠ y))
  | [], _, _ => rfl
  | p :: l, y, hn => by
    rw [List.map_cons, List.nodup_cons] at hn
    unfold delS
    by_cases e : y = p.1
    · rw [if_pos e, List.map_cons, List.filter_cons_of_neg (by simp [e]), List.filter_eq_self.2 fun x hx => decide_eq_true (by rintro rfl; exact hn.1 (e ▸ hx))]
    · rw [if_neg e, List.map_cons, List.map_cons, List.filter_cons_of_pos (by simpa using Ne.symm e), delS_order hn.2]
theorem sDelete_ok (a : ShAt own h id m) (g : m.good b) {x : Int} : Does Tryz.prog 99 #[.pointer (some ⟨id, 0, none⟩), .int .i64 x] h
    (fun u h' => u = .int .i64 (m.delete x).1 ∧ ∃ own', ShAt own' h' id (m.delete x).2 ∧ Ks shT own h own' h') := by
  unfold Sm.delete
  refine spec_go mixed Tryz.func99 rfl Tryz.results99 (n := Tryz.f99.ntmps) (by kernel_rfl) (by simp) ?_
  simp only [go_sem, simprocAttr]
  have q0 : h.quiet (h.push (.cells [.int .i64 x] .rw)) := .push _ _
  have g0 : (h.push (.cells [.int .i64 x] .rw)).get h.next = .cells [.int .i64 x] .rw := by simp
  generalize h.push (.cells [.int .i64 x] .rw) = k at q0 g0
  have a0 := a.quiet q0 0
  have k0 : Ks shT own h (bump own h 0) k := .quiet q0 0
  have hob : bump own h 0 h.next ≠ 11 := by rw [bump_ge (Nat.le_refl _)]; decide
  have hob10 : bump own h 0 h.next ≠ 10 := by rw [bump_ge (Nat.le_refl _)]; decide
  generalize bump own h 0 = ow at a0 k0 hob hob10
  refine cl_spec (sfind_ok a0) (fun _ _ _ hc => absurd hc (by decide +kernel)) ?_
  rintro u k' ⟨rfl, rfl⟩
  by_cases c2 : (m.find x).2 = 0
  · have hl := a0.lt
    obtain ⟨ho, fid, uv, ov, mid, rv, hg, cc⟩ := a0
    obtain ⟨hm10, es, ck, hgm, hms⟩ := cc.mp
    obtain ⟨r, hr⟩ := find_some c2
    have hde : ∃ j r', afind .i64 x es 0 = some (some (j, .int .i64 r')) ∧ MsI (es.eraseIdx j) (delS m.snaps x) := by
      rcases hms.find (n := x) 0 with ⟨j, r', e0, e1, e2⟩ | ⟨e1, e2⟩
      · exact ⟨j, r', by rw [e1, Nat.zero_add], e2⟩
      · rw [hr] at e2; cases e2
    obtain ⟨j, r', hde, hms'⟩ := hde
    obtain ⟨ar, cr, rfl⟩ := cc.od.slz.shape
    unfold shC at hg
    simp only [go_sem, simprocAttr, c2, hg, g0, hgm, hde]
    obtain ⟨k2, hk2⟩ : ∃ k2, k'.set mid (.map (es.eraseIdx j) ck) = k2 := ⟨_, rfl⟩
    rw [hk2]
    have k12 : Ks (· = 10) ow k' ow k2 := by rw [← hk2]; exact Ks.set (T := (· = 10)) hm10 _
    have mp2 : MpAt ow k2 mid (delS m.snaps x) := ⟨hm10, _, _, by rw [← hk2]; exact AHeap.get_set_self _ _ (AHeap.lt_of_alive k' (by rw [hgm]; simp)), hms'⟩
    clear hk2
    have hg2 := ((k12.2 id hl).2 (by rw [ho]; decide)).trans hg
    have hl2 := Nat.lt_of_lt_of_le hl k12.1
    have l0 := AHeap.lt_of_alive k' (i := h.next) (by rw [g0]; simp)
    have g2 := ((k12.2 h.next l0).2 hob10).trans g0
    have od2 := cc.od.ks k12 (by decide)
    simp only [go_sem, simprocAttr, hg2]
    refine cl_spec (delF_ok g2 hob od2 (by have := g.sl; rw [List.length_map]; omega)) (fun _ _ _ hc => absurd hc (by decide +kernel)) ?_
    rintro u k3 ⟨od3, k23⟩
    obtain ⟨a3, c3, rfl⟩ := od3.slz.shape
    have hg3 := ((k23.2 id hl2).2 (by rw [ho]; decide)).trans hg2
    have hl3 := Nat.lt_of_lt_of_le hl2 k23.1
    simp only [go_sem, simprocAttr, hg3]
    have k34 : Ks (· = 6) ow k3 ow (k3.set id (.cells (shC { m with snaps := delS m.snaps x } fid uv ov mid (.slice a3 (((m.snaps.map Prod.fst).filter (fun y => decide (y ≠ x))).length) c3)) .rw)) := .set (T := (· = 6)) ho _
    refine ⟨ow, ⟨ho, fid, _, _, mid, _, AHeap.get_set_self _ _ hl3, ?_⟩, ?_⟩
    · refine ⟨((cc.fo.ks k12 (by decide) (by decide)).ks k23 (by decide) (by decide)).ks k34 (by decide) (by decide), ((cc.un.mono k12.1 (k12.tg (by decide))).mono k23.1 (k23.tg (by decide))).mono k34.1 (k34.tg (by decide)),
        ((cc.op.ks k12 (by decide) (by decide)).ks k23 (by decide) (by decide)).ks k34 (by decide) (by decide), (mp2.ks k23 (by decide)).ks k34 (by decide), ?_⟩
      show OrL _ _ ((delS m.snaps x).map Prod.fst) _
      rw [delS_order g.nd]
      exact od3.ks k34 (by decide)
    · exact k0.trans ((k12.weaken fun t e => by subst e; unfold shT; decide).trans ((k23.weaken fun t e => by subst e; unfold shT; decide).trans (k34.weaken fun t e => by subst e; unfold shT; decide)))
  · simp only [go_sem, simprocAttr, c2]
    exact ⟨ow, a0, k0⟩
end

def SAct.cs (a : SAct) (v w : Value) : List Value := [.int .u8 (a.kd : Nat), .int .i64 a.op.kd, .int .i64 a.op.off, .int .i64 a.op.ln, v, .int .i64 a.id, .bool a.yes, w]
def rBool : Rep Bool := .bool
def rSAct : Rep SAct := (Rep.pair rB (.pair rBop (.pair rI (.pair .bool rBool.list)))).via fun a => (a.kd, a.op, a.id, a.yes, a.keep)
def SAct.inI (a : SAct) : Prop := a.op.inI ∧ Proofs.YtedpfdflolkpeaaGreatDoor.inI a.id ∧ a.kd < 256
theorem rSAct_iff {S : Nat → Prop} {h : AHeap} {a : SAct} {cs : List Value} : rSAct.R S h a cs ↔ ∃ v w, cs = a.cs v w ∧ a.inI ∧ Words S h a.op.data v ∧ IsSl rBool S h a.keep w := by
  constructor
  · rintro ⟨c1, c2, rfl, ⟨rfl, h1⟩, c3, c4, rfl, h2, c5, c6, rfl, ⟨rfl, h3⟩, c7, c8, rfl, rfl, w, rfl, h4⟩
    obtain ⟨v, rfl, h5, h6⟩ := rBop_iff.1 h2
    have h1' : (a.kd : Int) ≤ IntKind.u8.max := h1
    have : a.kd < 256 := by rw [u8_max] at h1'; omega
    exact ⟨v, w, rfl, ⟨h5, inI_iff.2 h3, this⟩, h6, h4⟩
  · rintro ⟨v, w, rfl, ⟨h5, h3, h7⟩, h6, h4⟩
    have : (a.kd : Int) ≤ IntKind.u8.max := by rw [u8_max]; omega
    exact ⟨[_], _, rfl, ⟨rfl, this⟩, a.op.cs v, _, rfl, rBop_iff.2 ⟨v, rfl, h5, h6⟩, [_], _, rfl, ⟨rfl, inI_iff.1 h3⟩, [_], [_], rfl, rfl, w, rfl, h4⟩
theorem sa_len (a : SAct) (v w : Value) : (a.cs v w).length = 8 := rfl
theorem sa_one (m : SAct) (a b : Option Addr) (n c n' c' : Nat) : (m.cs (.slice a n c) (.slice b n' c')).all one = true := rfl
theorem sa_take (a : SAct) (v w : Value) : (a.cs v w).take 8 = a.cs v w := rfl
theorem sa_0 (a : SAct) (v w : Value) : (a.cs v w)[0]? = some (.int .u8 (a.kd : Nat)) := rfl
theorem sa_op (a : SAct) (v w : Value) : ((a.cs v w).drop 1).take 4 = a.op.cs v := rfl
theorem sa_5 (a : SAct) (v w : Value) : (a.cs v w)[5]? = some (.int .i64 a.id) := rfl
theorem sa_6 (a : SAct) (v w : Value) : (a.cs v w)[6]? = some (.bool a.yes) := rfl
theorem sa_7 (a : SAct) (v w : Value) : (a.cs v w)[7]? = some w := rfl
theorem IsSl.atS {S : Nat → Prop} {h : AHeap} {xs : List SAct} {a : Option Addr} {n cap : Nat} (hs : IsSl rSAct S h xs (.slice a n cap)) {i : Nat} (hi : i < n) :
    ∃ b off sp c md x v w, a = some ⟨b, off, sp⟩ ∧ S b ∧ h.get b = .cells c md ∧ xs[i]? = some x ∧ Words S h x.op.data v ∧ IsSl rBool S h x.keep w ∧ x.inI ∧ off + i * 8 + 8 ≤ c.length ∧ (c.drop (off + i * 8)).take 8 = x.cs v w := by
  obtain ⟨b, off, sp, c, md, cs, x, h1, h2, h3, h4, h5, h6, h7⟩ := hs.at 8 rfl hi
  obtain ⟨v, w, rfl, h8, h9, h10⟩ := rSAct_iff.1 h5
  exact ⟨b, off, sp, c, md, x, v, w, h1, h2, h3, h4, h9, h10, h8, h6, h7⟩
section
variable {own own' own'' : Nat → Nat} {h h' h'' : AHeap} {S S' : Nat → Prop} {m : Sm} {id : Nat} {v w : Value} {b : Nat}
theorem take_step {α : Type} {xs ys : List α} {i : Nat} {x y : α} (h : xs.take i = ys.take i) (hx : xs[i]? = some x) (hy : ys[i]? = some y) (e : x = y) : xs.take (i + 1) = ys.take (i + 1) := by
  rw [List.take_add_one, List.take_add_one, h, hx, hy, e]
theorem Words_ok {xs ys : List Nat} (hx : Words S h xs v) (hy : Words S' h ys w) : Does Tryz.prog 16 #[v, w] h (fun u h' => u = .bool (decide (xs = ys)) ∧ h' = h) := by
  obtain ⟨a, c, rfl⟩ := hx.shape
  obtain ⟨a2, c2, rfl⟩ := hy.shape
  have hxl := hx.len
  have hyl := hy.len
  refine spec_go mixed Tryz.func16 rfl Tryz.results16 (n := Tryz.f16.ntmps) (by kernel_rfl) (by simp) ?_
  simp only [go_sem, simprocAttr]
  by_cases hl : xs.length = ys.length
  · have hl' : (xs.length : Int) = ys.length := by omega
    simp only [go_sem, simprocAttr, hl', decide_true, decide_false]
    refine go_loop (fun z ρ k => ∃ i : Nat, i ≤ xs.length ∧ z = xs.length - i ∧ k = h ∧ xs.take i = ys.take i ∧ ρ 0 = .slice a xs.length c ∧ ρ 1 = .slice a2 ys.length c2 ∧ ρ 5 = .int .i64 i) xs.length ⟨0, by omega, by omega, rfl, rfl, by simp only [go_sem, simprocAttr]⟩ ?_
    rintro z ρ k ⟨i, hi, rfl, rfl, ht, r0, r1, r5⟩
    simp only [go_sem, simprocAttr, r0, r1, r5]
    refine cnd_decide (fun hq => ?_) (fun hq => ?_)
    · have h1 : i < xs.length := by omega
      have h2 : i < ys.length := by omega
      obtain ⟨b, off, sp, cc, md, x, hA, _, hg, hxi, _, hc⟩ := hx.atN h1
      obtain ⟨b', off', sp', cc', md', y, hA', _, hg', hyi, _, hc'⟩ := hy.atN h2
      have e9 : IntKind.i64.wrap ((i : Int) + 1) = ((i + 1 : Nat) : Int) := by rw [wi64] <;> omega
      simp only [go_sem, simprocAttr, r0, r1, r5, hA, hA', hg, hg', hc, hc', h1, h2]
      by_cases e : x = y
      · have e' : (x : Int) = y := by omega
        simp only [go_sem, simprocAttr, r0, r1, r5, e', decide_true, decide_false, e9]
        exact Hold.mk ⟨xs.length - (i + 1), by omega, i + 1, by omega, rfl, rfl, take_step ht hxi hyi e, by simp only [go_sem, simprocAttr, r0, r1, hA, hA']⟩
      · have e' : ¬ (x : Int) = y := by omega
        simp only [go_sem, simprocAttr, r0, r1, r5, e', decide_true, decide_false]
        rw [decide_eq_false (fun e2 => by subst e2; rw [hxi] at hyi; cases hyi; exact e rfl)]
    · have : i = xs.length := by omega
      subst this
      rw [List.take_length, hl, List.take_length] at ht
      simp only [go_sem, simprocAttr, ht, decide_true]
  · have hl' : ¬ (xs.length : Int) = ys.length := by omega
    simp only [go_sem, simprocAttr, hl', decide_true, decide_false]
    rw [decide_eq_false (fun e => hl (by rw [e]))]
end

def rBopO : Rep Bop := (Rep.pair rI (.pair rI (.pair rI (Rep.own .u64)))).via fun o => (o.kd, o.off, o.ln, o.data)
theorem rBopO_iff {S : Nat → Prop} {h : AHeap} {m : Bop} {cs : List Value} : rBopO.R S h m cs ↔ ∃ v, cs = m.cs v ∧ m.inI ∧ OwnSl .u64 S h m.data v := by
  constructor
  · rintro ⟨c1, c2, rfl, ⟨rfl, h1⟩, c3, c4, rfl, ⟨rfl, h2⟩, c5, c6, rfl, ⟨rfl, h3⟩, v, rfl, hv⟩
    exact ⟨v, rfl, ⟨h1, h2, h3⟩, hv⟩
  · rintro ⟨v, rfl, ⟨h1, h2, h3⟩, hv⟩
    exact ⟨_, _, rfl, ⟨rfl, h1⟩, _, _, rfl, ⟨rfl, h2⟩, _, _, rfl, ⟨rfl, h3⟩, v, rfl, hv⟩
/-- Is a block to be told? -/
def tch (ws bs : List Nat) (i : Nat) : Bool := decide (ws.getD i 0 ≠ bs.getD i 0)
def zr (bs : List Nat) (i : Nat) : Bool := decide (bs.getD i 0 = 0)
def runE (ws bs : List Nat) (z : Bool) : Nat → Nat → Nat
  | 0, k => k
  | f + 1, k => if k < bs.length ∧ tch ws bs k = true ∧ zr bs k = z then runE ws bs z f (k + 1) else k
def chunkF (bs : List Nat) : Nat → Nat → Nat → List Bop
  | 0, _, _ => []
  | f + 1, i, k => if i < k then ⟨1, i, 0, (bs.drop i).take (min k (i + 64) - i)⟩ :: chunkF bs f (i + 64) k else []
def shortF (ws bs : List Nat) : Nat → Nat → List Bop
  | 0, _ => []
  | f + 1, i => if i < bs.length then (if tch ws bs i = true then (if zr bs i = true then [⟨2, i, (runE ws bs (zr bs i) bs.length (i + 1) : Nat) - (i : Int), []⟩] else chunkF bs bs.length i (runE ws bs (zr bs i) bs.length (i + 1))) ++ shortF ws bs f (runE ws bs (zr bs i) bs.length (i + 1)) else shortF ws bs f (i + 1)) else []
theorem runE_le {ws bs : List Nat} {z : Bool} : ∀ (f k : Nat), k ≤ bs.length → k ≤ runE ws bs z f k ∧ runE ws bs z f k ≤ bs.length
  | 0, k, h => ⟨Nat.le_refl _, h⟩
  | f + 1, k, h => by
    unfold runE
    split
    · rename_i hc; have := runE_le (ws := ws) (z := z) f (k + 1) hc.1; exact ⟨by omega, this.2⟩
    · exact ⟨Nat.le_refl _, h⟩
theorem runE_step {ws bs : List Nat} {z : Bool} {f k : Nat} (hf : bs.length - k ≤ f) (hc : k < bs.length ∧ tch ws bs k = true ∧ zr bs k = z) : ∃ f', runE ws bs z f k = runE ws bs z f' (k + 1) ∧ bs.length - (k + 1) ≤ f' := by
  cases f with
  | zero => omega
  | succ f => exact ⟨f, by rw [runE, if_pos hc], by omega⟩
theorem runE_end {ws bs : List Nat} {z : Bool} {f k : Nat} (hc : ¬ (k < bs.length ∧ tch ws bs k = true ∧ zr bs k = z)) : runE ws bs z f k = k := by
  cases f with
  | zero => rfl
  | succ f => rw [runE, if_neg hc]
theorem chunkF_step {bs : List Nat} {f i k : Nat} (hf : k - i ≤ f) (hc : i < k) : ∃ f', chunkF bs f i k = ⟨1, i, 0, (bs.drop i).take (min k (i + 64) - i)⟩ :: chunkF bs f' (i + 64) k ∧ k - (i + 64) ≤ f' := by
  cases f with
  | zero => omega
  | succ f => exact ⟨f, by rw [chunkF, if_pos hc], by omega⟩
theorem chunkF_end {bs : List Nat} {f i k : Nat} (hc : ¬ i < k) : chunkF bs f i k = [] := by
  cases f with
  | zero => rfl
  | succ f => rw [chunkF, if_neg hc]
section
variable {own own' own'' : Nat → Nat} {h h' h'' : AHeap} {S S' : Nat → Prop} {m : Sm} {id : Nat} {v w : Value} {b : Nat}
def cloD (p2 p3 : Nat) : Value := .func (.func 143) #[] #[.pointer (some ⟨p2, 0, none⟩), .pointer (some ⟨p3, 0, none⟩)]
/-- Where the closure's two volumes stand. -/
structure Two (h : AHeap) (p2 p3 : Nat) (ws bs : List Nat) (va vb : Value) : Prop where
  g2 : h.get p2 = .cells [va] .rw
  g3 : h.get p3 = .cells [vb] .rw
  wa : Words (· < h.next) h ws va
  wb : Words (· < h.next) h bs vb
theorem Two.quiet {p2 p3 : Nat} {ws bs : List Nat} {va vb : Value} (t : Two h p2 p3 ws bs va vb) (q : h.quiet h') : Two h' p2 p3 ws bs va vb :=
  ⟨(q.2 _ (AHeap.lt_of_alive h (by rw [t.g2]; simp))).trans t.g2, (q.2 _ (AHeap.lt_of_alive h (by rw [t.g3]; simp))).trans t.g3, t.wa.mono fun j hj hl => ⟨Nat.lt_of_lt_of_le hl q.1, q.2 j hl⟩, t.wb.mono fun j hj hl => ⟨Nat.lt_of_lt_of_le hl q.1, q.2 j hl⟩⟩
theorem touched_ok {p2 p3 : Nat} {ws bs : List Nat} {va vb : Value} (t : Two h p2 p3 ws bs va vb) {i : Nat} (h1 : i < ws.length) (h2 : i < bs.length) : Does Tryz.prog 143 #[.int .i64 (i : Nat), .pointer (some ⟨p2, 0, none⟩), .pointer (some ⟨p3, 0, none⟩)] h (fun u h' => u = .bool (tch ws bs i) ∧ h' = h) := by
  obtain ⟨g2, g3, wa, wb⟩ := t
  obtain ⟨a, c, rfl⟩ := wa.shape
  obtain ⟨a2, c2, rfl⟩ := wb.shape
  obtain ⟨b, off, sp, cc, md, x, hA, _, hg, hxi, _, hc⟩ := wa.atN h1
  obtain ⟨b', off', sp', cc', md', y, hA', _, hg', hyi, _, hc'⟩ := wb.atN h2
  have ex : ws.getD i 0 = x := by rw [List.getD, hxi]; rfl
  have ey : bs.getD i 0 = y := by rw [List.getD, hyi]; rfl
  unfold tch
  rw [ex, ey]
  refine spec_go mixed Tryz.func143 rfl Tryz.results143 (n := Tryz.f143.ntmps) (by kernel_rfl) (by simp) ?_
  simp only [go_sem, simprocAttr, g2, g3, hA, hA', hg, hg', hc, hc', h1, h2]
  by_cases e : x = y
  · subst e; simp
  · have e' : ¬ (x : Int) = y := by omega
    simp [e, e']
theorem zr_eq {ws : List Nat} {i : Nat} {x : Nat} (h : ws[i]? = some x) : decide ((x : Int) = 0) = zr ws i := by
  unfold zr
  rw [List.getD, h]
  exact decide_eq_decide.2 (by simp)
theorem out_app {k : AHeap} {out : List Bop} {o : Bop} (q : h.quiet k) (lo : Lst rBopO h.next (h.next ≤ ·) k out w) (hv : OwnSl .u64 (fun j => h.next ≤ j ∧ blk w ≠ some j) k o.data v) (hi : o.inI) (hl : out.length ≤ 1048576) :
    ∃ w' k', aappend (k.push (.cells (o.cs v) .rw)) 4 48 w 1 (o.cs v) = some (w', k') ∧ Lst rBopO h.next (h.next ≤ ·) k' (out ++ [o]) w' ∧ h.quiet k' ∧ ∃ a n c, w' = .slice a n c := by
  have q1 := AHeap.quiet.push k (.cells (o.cs v) .rw)
  have hv1 : OwnSl .u64 (fun j => h.next ≤ j ∧ blk w ≠ some j) (k.push (.cells (o.cs v) .rw)) o.data v := hv.mono fun j hj hl => ⟨hj, q1.2 j hl⟩
  obtain ⟨w', k', e, l', f, _⟩ := (lo.quiet q1).app1 (y := o) (cs := o.cs v) (bytes := 48) 4 rfl (rBopO_iff.2 ⟨v, rfl, hi, hv1⟩) (by omega) (by omega) (Nat.le_trans q.1 q1.1)
  obtain ⟨a, c, rfl, _⟩ := l'.len
  exact ⟨_, k', e, l', Fw.behind (q.trans q1) f (fun j hj => (lo.blk_ge hj).1), _, _, _, rfl⟩
theorem short_ok {p2 p3 : Nat} {ws bs : List Nat} {va vb : Value} (t : Two h p2 p3 ws bs va vb) (hn : ws.length = bs.length) (hl : bs.length ≤ 1024) : Does Tryz.prog 142 #[vb, cloD p2 p3] h
    (fun u h' => Lst rBopO h.next (h.next ≤ ·) h' (shortF ws bs bs.length 0) u ∧ h.quiet h') := by
  obtain ⟨a, c, rfl⟩ := t.wb.shape
  refine spec_go mixed Tryz.func142 rfl Tryz.results142 (n := Tryz.f142.ntmps) (by kernel_rfl) (by simp) ?_
  simp only [go_sem, simprocAttr]
  refine go_loop (fun z ρ k => ∃ (i : Nat) (out : List Bop) (w : Value), i ≤ bs.length ∧ bs.length - i ≤ z ∧ out ++ shortF ws bs z i = shortF ws bs bs.length 0 ∧ out.length ≤ i ∧ h.quiet k ∧ Lst rBopO h.next (h.next ≤ ·) k out w ∧
    ρ 0 = .slice a bs.length c ∧ ρ 1 = cloD p2 p3 ∧ ρ 5 = w ∧ ρ 6 = .int .i64 i) bs.length ⟨0, [], _, by omega, by omega, by simp, by simp, .refl _, .nil _ _ _ _, by simp only [go_sem, simprocAttr]⟩ ?_
  rintro z ρ k ⟨i, out, w, hi, hz, hsh, hol, q, lo, r0, r1, r5, r6⟩
  have tk := t.quiet q
  simp only [go_sem, simprocAttr, r0, r1, r5, r6]
  refine cnd_decide (fun hy => ?_) (fun hy => ?_)
  · have h1 : i < bs.length := by omega
    have h1w : i < ws.length := by omega
    obtain ⟨f, rfl⟩ : ∃ f, z = f + 1 := ⟨z - 1, by omega⟩
    rw [shortF, if_pos h1] at hsh
    have e6 : IntKind.i64.wrap ((i : Int) + 1) = ((i + 1 : Nat) : Int) := by rw [wi64] <;> omega
    simp only [go_sem, simprocAttr, r0, r1, r5, r6, cloD]
    refine cl_spec (touched_ok tk h1w h1) (fun _ _ _ hc => absurd hc (by decide +kernel)) ?_
    rintro u k' ⟨rfl, rfl⟩
    cases ht : tch ws bs i with
    | false =>
      rw [ht, if_neg Bool.false_ne_true] at hsh
      simp only [go_sem, simprocAttr, r6, e6]
      exact Hold.mk ⟨f, by omega, i + 1, out, w, by omega, by omega, hsh, by omega, q, lo, by simp only [go_sem, simprocAttr, r0, r1, r5, cloD]⟩
    | true =>
      rw [ht, if_pos rfl] at hsh
      simp only [go_sem, simprocAttr, r6, e6]
      obtain ⟨E, hE⟩ : ∃ E, runE ws bs (zr bs i) bs.length (i + 1) = E := ⟨_, rfl⟩
      rw [hE] at hsh
      have hEl := runE_le (ws := ws) (bs := bs) (z := zr bs i) bs.length (i + 1) (by omega)
      rw [hE] at hEl
      obtain ⟨jb, off, sp, cc, md, xi, hA, hSb, hgb, hxi, _, hci⟩ := tk.wb.atN h1
      subst hA
      refine go_cutb (fun ρ k2 => k2 = k' ∧ ρ 0 = .slice (some ⟨jb, off, sp⟩) bs.length c ∧ ρ 1 = cloD p2 p3 ∧ ρ 5 = w ∧ ρ 6 = .int .i64 i ∧ ρ 7 = .int .i64 E) ?_ ?_
      · refine go_loop (fun z ρ k2 => ∃ kk : Nat, i < kk ∧ kk ≤ bs.length ∧ bs.length - kk ≤ z ∧ runE ws bs (zr bs i) z kk = E ∧ k2 = k' ∧ ρ 0 = .slice (some ⟨jb, off, sp⟩) bs.length c ∧ ρ 1 = cloD p2 p3 ∧ ρ 5 = w ∧ ρ 6 = .int .i64 i ∧ ρ 7 = .int .i64 kk) bs.length
          ⟨i + 1, by omega, by omega, by omega, hE, rfl, by simp only [go_sem, simprocAttr, r0, r1, r5, r6, cloD]⟩ ?_
        rintro z ρ2 k2 ⟨kk, hik, hkn, hkz, hrun, rfl, s0, s1, s5, s6, s7⟩
        simp only [go_sem, simprocAttr, s0, s1, s5, s6, s7]
        by_cases c1 : kk < bs.length
        · have c1' : (kk : Int) < bs.length := by omega
          obtain ⟨z', rfl⟩ : ∃ z', z = z' + 1 := ⟨z - 1, by omega⟩
          have e7 : IntKind.i64.wrap ((kk : Int) + 1) = ((kk + 1 : Nat) : Int) := by rw [wi64] <;> omega
          simp only [go_sem, simprocAttr, s0, s1, s5, s6, s7, c1, c1', decide_true, cloD]
          refine cl_spec (touched_ok tk (by omega) c1) (fun _ _ _ hc => absurd hc (by decide +kernel)) ?_
          rintro u k3 ⟨rfl, rfl⟩
          cases htk : tch ws bs kk with
          | false =>
            simp only [go_sem, simprocAttr, s7]
            have hend : runE ws bs (zr bs i) (z' + 1) kk = kk := runE_end (by rw [htk]; simp)
            exact Hold.mk ⟨rfl, by simp only [go_sem, simprocAttr, s0, s1, s5, s6, cloD], by simp only [go_sem, simprocAttr, s0, s1, s5, s6, cloD], by simp only [go_sem, simprocAttr, s0, s1, s5, s6, cloD], by simp only [go_sem, simprocAttr, s0, s1, s5, s6, cloD], by rw [← hrun, hend]; simp only [go_sem, simprocAttr, s7]⟩
          | true =>
            obtain ⟨_, _, _, cc2, md2, xk, hA2, _, hgb2, hxk, _, hck⟩ := tk.wb.atN c1
            cases hA2
            rw [hgb] at hgb2
            cases hgb2
            simp only [go_sem, simprocAttr, s0, s1, s5, s6, s7, hgb, hci, hck, c1, h1]
            rw [zr_eq hxk, zr_eq hxi]
            cases hzz : zr bs kk == zr bs i with
            | false =>
              have hend : runE ws bs (zr bs i) (z' + 1) kk = kk := runE_end (by rintro ⟨_, _, e⟩; rw [e] at hzz; simp at hzz)
              simp only [go_sem, simprocAttr]
              exact Hold.mk ⟨rfl, by simp only [go_sem, simprocAttr, s0, s1, s5, s6, cloD], by simp only [go_sem, simprocAttr, s0, s1, s5, s6, cloD], by simp only [go_sem, simprocAttr, s0, s1, s5, s6, cloD], by simp only [go_sem, simprocAttr, s0, s1, s5, s6, cloD], by rw [← hrun, hend]; simp only [go_sem, simprocAttr, s7]⟩
            | true =>
              have hzz' : zr bs kk = zr bs i := by simpa using hzz
              rw [runE, if_pos ⟨c1, htk, hzz'⟩] at hrun
              simp only [go_sem, simprocAttr, s7, e7]
              exact Hold.mk ⟨z', by omega, kk + 1, by omega, by omega, by omega, hrun, rfl, by simp only [go_sem, simprocAttr, s0, s1, s5, s6, cloD]⟩
        · have c1' : ¬ (kk : Int) < bs.length := by omega
          have hend : runE ws bs (zr bs i) z kk = kk := runE_end (by omega)
          simp only [go_sem, simprocAttr, s7, c1', c1, decide_false]
          exact Hold.mk ⟨rfl, by simp only [go_sem, simprocAttr, s0, s1, s5, s6, cloD], by simp only [go_sem, simprocAttr, s0, s1, s5, s6, cloD], by simp only [go_sem, simprocAttr, s0, s1, s5, s6, cloD], by simp only [go_sem, simprocAttr, s0, s1, s5, s6, cloD], by rw [← hrun, hend]; simp only [go_sem, simprocAttr, s7]⟩
      · rintro ρ2 k2 ⟨rfl, s0, s1, s5, s6, s7⟩
        simp only [go_sem, simprocAttr, s0, s1, s5, s6, s7, h1, hgb, hci]
        rw [zr_eq hxi]
        cases hzi : zr bs i with
        | true =>
          rw [hzi, if_pos rfl] at hsh
          have e53 : IntKind.i64.wrap ((E : Int) - i) = (E : Int) - i := by rw [wi64] <;> omega
          obtain ⟨w', k3, e3, l3, q3, a3, n3, c3, rfl⟩ := out_app (o := ⟨2, i, (E : Int) - i, []⟩) (v := .slice none 0 0) q lo ⟨none, rfl, by simp, by simp, .inl ⟨rfl, fun _ e => by cases e⟩⟩ ⟨by unfold inJ; dsimp only; omega, by unfold inJ; dsimp only; omega, by unfold inJ; dsimp only; omega⟩ (by omega)
          unfold Bop.cs at e3
          simp only [go_sem, simprocAttr, s0, s5, s6, s7, e53, e3]
          exact Hold.mk ⟨f, by omega, E, _, _, by omega, by omega, by rw [← hsh, List.append_assoc], by rw [List.length_append]; simp only [List.length_cons, List.length_nil]; omega, q3, l3, by simp only [go_sem, simprocAttr, s0, s1, cloD]⟩
        | false =>
          rw [hzi, if_neg Bool.false_ne_true] at hsh
          simp only [go_sem, simprocAttr]
          refine go_cutb (fun ρ k2 => ∃ (out' : List Bop) (w' : Value), h.quiet k2 ∧ Lst rBopO h.next (h.next ≤ ·) k2 out' w' ∧ out' ++ shortF ws bs f E = shortF ws bs bs.length 0 ∧ out'.length ≤ E ∧ ρ 0 = .slice (some ⟨jb, off, sp⟩) bs.length c ∧ ρ 1 = cloD p2 p3 ∧ ρ 5 = w' ∧ ρ 7 = .int .i64 E) ?_ ?_
          · refine go_loop (fun z ρ k2 => ∃ (j : Nat) (out' : List Bop) (w' : Value), E - j ≤ z ∧ j < E + 64 ∧ h.quiet k2 ∧ Lst rBopO h.next (h.next ≤ ·) k2 out' w' ∧ out' ++ (chunkF bs z j E ++ shortF ws bs f E) = shortF ws bs bs.length 0 ∧ out'.length ≤ j ∧ out'.length ≤ E ∧
              ρ 0 = .slice (some ⟨jb, off, sp⟩) bs.length c ∧ ρ 1 = cloD p2 p3 ∧ ρ 5 = w' ∧ ρ 6 = .int .i64 j ∧ ρ 7 = .int .i64 E) bs.length ⟨i, out, w, by omega, by omega, q, lo, hsh, by omega, by omega, by simp only [go_sem, simprocAttr, s0, s1, s5, s6, s7, cloD]⟩ ?_
            rintro z ρ3 k3 ⟨j, out', w', hjz, hj64, q3, l3, hs3, ho3, ho3', u0, u1, u5, u6, u7⟩
            simp only [go_sem, simprocAttr, u0, u1, u5, u6, u7]
            refine cnd_decide (fun hyy => ?_) (fun hyy => ?_)
            · have hjE : j < E := by omega
              obtain ⟨z', rfl⟩ : ∃ z', z = z' + 1 := ⟨z - 1, by omega⟩
              rw [chunkF, if_pos hjE] at hs3
              have e69 : IntKind.i64.wrap ((j : Int) + 64) = ((j + 64 : Nat) : Int) := by rw [wi64] <;> omega
              have hwk := (t.quiet q3).wb
              have emin : min (E : Int) ((j + 64 : Nat) : Int) = ((min E (j + 64) : Nat) : Int) := by omega
              obtain ⟨a4, c4, es, hs⟩ := hwk.slice 1 rfl (l := j) (m := min E (j + 64)) (by omega) (by omega)
              simp only [go_sem, simprocAttr, u0, u1, u5, u6, u7, e69, emin, es]
              have hlen : ((bs.drop j).take (min E (j + 64) - j)).length = min E (j + 64) - j := by rw [List.length_take, List.length_drop]; omega
              refine cl_spec (cloneW_ok hs (by rw [hlen]; omega)) (fun _ _ _ hc => absurd hc (by decide +kernel)) ?_
              rintro u k4 ⟨q4, l4⟩
              have how := l4.own (S := fun j => h.next ≤ j ∧ blk w' ≠ some j) fun p hp => ⟨Nat.le_trans q3.1 hp, fun e => by have := (l3.blk_ge e).2; omega⟩
              obtain ⟨a4', c4', rfl, _⟩ := l4.len
              obtain ⟨w5, k5, e5, l5, q5, a5, n5, c5, rfl⟩ := out_app (o := ⟨1, j, 0, (bs.drop j).take (min E (j + 64) - j)⟩) (q3.trans q4) (l3.quiet q4) how ⟨by unfold inJ; dsimp only; omega, by unfold inJ; dsimp only; omega, by unfold inJ; dsimp only; omega⟩ (by omega)
              unfold Bop.cs at e5
              simp only [go_sem, simprocAttr, u0, u1, u5, u6, u7, e5, e69]
              refine Hold.mk ⟨z', by omega, j + 64, _, _, by omega, by omega, q5, l5, by rw [← hs3]; simp, ?_, ?_, by simp only [go_sem, simprocAttr, u0, u1, u7, cloD]⟩
              · rw [List.length_append]; simp only [List.length_cons, List.length_nil]; omega
              · rw [List.length_append]; simp only [List.length_cons, List.length_nil]; omega
            · have hjE : ¬ j < E := by omega
              rw [chunkF_end hjE, List.nil_append] at hs3
              simp only [go_sem, simprocAttr]
              exact Hold.mk ⟨out', w', q3, l3, hs3, ho3', by simp only [go_sem, simprocAttr, u0, u1, u5, u7, cloD]⟩
          · rintro ρ3 k3 ⟨out', w', q3, l3, hs3, ho3, u0, u1, u5, u7⟩
            simp only [go_sem, simprocAttr, u0, u1, u5, u7]
            exact Hold.mk ⟨f, by omega, E, out', w', by omega, by omega, hs3, ho3, q3, l3, by simp only [go_sem, simprocAttr, u0, u1, u5, cloD]⟩
  · have hi' : i = bs.length := by omega
    subst hi'
    have e : shortF ws bs z bs.length = [] := by cases z with
      | zero => rfl
      | succ z => rw [shortF, if_neg (by omega)]
    rw [e, List.append_nil] at hsh
    simp only [go_sem, simprocAttr, r5]
    rw [← hsh]
    exact ⟨lo, q⟩
end

def Sm.old (m : Sm) (base : Int) : Int := if base = 0 then 0 else (m.find base).1
def Sm.since (m : Sm) (base x : Int) : List Bop × Int := if (m.find x).2 ≠ 0 then ([], (m.find x).2) else if base ≠ 0 ∧ (m.find base).2 ≠ 0 then ([], (m.find base).2) else (shortF (m.vol (m.old base)) (m.vol (m.find x).1) (m.vol (m.find x).1).length 0, 0)
section
variable {own own' own'' : Nat → Nat} {h h' h'' : AHeap} {S S' : Nat → Prop} {m : Sm} {id : Nat} {v w : Value} {b : Nat}
theorem diff_ok {ws bs : List Nat} {va vb : Value} (ha : Words S h ws va) (hb : Words S' h bs vb) (hn : ws.length = bs.length) (hl : bs.length ≤ 1024) : Does Tryz.prog 123 #[va, vb] h
    (fun u h' => ∃ w, u = .tuple #[w, .int .i64 0] ∧ Lst rBopO h.next (h.next ≤ ·) h' (shortF ws bs bs.length 0) w ∧ h.quiet h') := by
  obtain ⟨aa, ca, rfl⟩ := ha.shape
  obtain ⟨ab, cb, rfl⟩ := hb.shape
  refine spec_go mixed Tryz.func123 rfl Tryz.results123 (n := Tryz.f123.ntmps) (by kernel_rfl) (by simp) ?_
  simp only [go_sem, simprocAttr]
  have q0 : h.quiet ((h.push (.cells [.slice aa ws.length ca] .rw)).push (.cells [.slice ab bs.length cb] .rw)) := by simp only [go_sem, simprocAttr]
  have t : Two ((h.push (.cells [.slice aa ws.length ca] .rw)).push (.cells [.slice ab bs.length cb] .rw)) h.next (h.next + 1) ws bs (.slice aa ws.length ca) (.slice ab bs.length cb) :=
    ⟨by simp only [go_sem, simprocAttr], by simp only [go_sem, simprocAttr], (ha.quiet q0).bound.weaken fun _ e => e.2, (hb.quiet q0).bound.weaken fun _ e => e.2⟩
  generalize (h.push (.cells [.slice aa ws.length ca] .rw)).push (.cells [.slice ab bs.length cb] .rw) = k at q0 t
  have c1 : ¬ (1024 : Int) < ws.length := by omega
  have c2 : ¬ (1024 : Int) < bs.length := by omega
  have c3 : (ws.length : Int) = bs.length := by omega
  have g2 := t.g2
  have g3 := t.g3
  simp only [go_sem, simprocAttr, g2, g3, c1, c2, c3, decide_false, decide_true]
  refine cl_spec (short_ok t hn hl) (fun _ _ _ hc => absurd hc (by decide +kernel)) ?_
  rintro u k1 ⟨l1, q1⟩
  obtain ⟨a1, c1', rfl, _⟩ := l1.len
  simp only [go_sem, simprocAttr]
  exact ⟨_, rfl, (l1.mono q0.1 (Nat.le_refl _) (fun j hj _ _ => ⟨Nat.le_trans q0.1 hj, rfl⟩) (fun _ _ _ => rfl)), q0.trans q1⟩
theorem sSince_ok (a : ShAt own h id m) (g : m.good b) {base x : Int} : Does Tryz.prog 79 #[.pointer (some ⟨id, 0, none⟩), .int .i64 base, .int .i64 x] h
    (fun u h' => ∃ w, u = .tuple #[w, .int .i64 (m.since base x).2] ∧ Lst rBopO h.next (h.next ≤ ·) h' (m.since base x).1 w ∧ h.quiet h') := by
  have hN := g.c.n1
  have vl : ∀ r, (m.vol r).length = m.n.toNat := m.vol_len
  unfold Sm.since
  refine spec_go mixed Tryz.func79 rfl Tryz.results79 (n := Tryz.f79.ntmps) (by kernel_rfl) (by simp) ?_
  simp only [go_sem, simprocAttr]
  refine cl_spec (sfind_ok a) (fun _ _ _ hc => absurd hc (by decide +kernel)) ?_
  rintro u k ⟨rfl, rfl⟩
  by_cases e0 : (m.find x).2 = 0
  · have fin : ∀ (old : Int), Has m.ts old → Does Tryz.prog 92 #[.pointer (some ⟨id, 0, none⟩), .int .i64 old] k (fun u h' => Words (k.next ≤ ·) h' (m.vol old) u ∧ k.quiet h') := fun old ho => svolume_ok a g ho
    by_cases eb : base = 0
    · subst eb
      simp only [go_sem, simprocAttr, e0, eq_self, decide_true, decide_false]
      refine cl_spec (fin 0 g.c.has0) (fun _ _ _ hc => absurd hc (by decide +kernel)) ?_
      rintro u k1 ⟨w1, q1⟩
      obtain ⟨a1, c1, rfl⟩ := w1.shape
      simp only [go_sem, simprocAttr]
      refine cl_spec (svolume_ok (a.quiet q1 0) g (find_has g e0)) (fun _ _ _ hc => absurd hc (by decide +kernel)) ?_
      rintro u k2 ⟨w2, q2⟩
      obtain ⟨a2, c2, rfl⟩ := w2.shape
      simp only [go_sem, simprocAttr]
      refine cl_spec (diff_ok (w1.quiet q2) w2 (by rw [vl, vl]) (by rw [vl]; omega)) (fun _ _ _ hc => absurd hc (by decide +kernel)) ?_
      rintro u k3 ⟨w3, rfl, l3, q3⟩
      obtain ⟨a3, c3, rfl, _⟩ := l3.len
      simp only [go_sem, simprocAttr]
      have qq := q1.trans q2
      refine ⟨_, rfl, ?_, qq.trans q3⟩
      have := l3.mono (lo' := k.next) (T' := (k.next ≤ ·)) (h' := k3) qq.1 (Nat.le_refl _) (fun j hj _ _ => ⟨Nat.le_trans qq.1 hj, rfl⟩) (fun _ _ _ => rfl)
      simpa [Sm.old] using this
    · by_cases e1 : (m.find base).2 = 0
      · simp only [go_sem, simprocAttr, e0, eb, decide_true, decide_false]
        refine cl_spec (sfind_ok a) (fun _ _ _ hc => absurd hc (by decide +kernel)) ?_
        rintro u k' ⟨rfl, rfl⟩
        simp only [go_sem, simprocAttr, e1]
        refine cl_spec (fin _ (find_has g e1)) (fun _ _ _ hc => absurd hc (by decide +kernel)) ?_
        rintro u k1 ⟨w1, q1⟩
        obtain ⟨a1, c1, rfl⟩ := w1.shape
        simp only [go_sem, simprocAttr]
        refine cl_spec (svolume_ok (a.quiet q1 0) g (find_has g e0)) (fun _ _ _ hc => absurd hc (by decide +kernel)) ?_
        rintro u k2 ⟨w2, q2⟩
        obtain ⟨a2, c2, rfl⟩ := w2.shape
        simp only [go_sem, simprocAttr]
        refine cl_spec (diff_ok (w1.quiet q2) w2 (by rw [vl, vl]) (by rw [vl]; omega)) (fun _ _ _ hc => absurd hc (by decide +kernel)) ?_
        rintro u k3 ⟨w3, rfl, l3, q3⟩
        obtain ⟨a3, c3, rfl, _⟩ := l3.len
        simp only [go_sem, simprocAttr]
        have qq := q1.trans q2
        refine ⟨_, rfl, ?_, qq.trans q3⟩
        have := l3.mono (lo' := k'.next) (T' := (k'.next ≤ ·)) (h' := k3) qq.1 (Nat.le_refl _) (fun j hj _ _ => ⟨Nat.le_trans qq.1 hj, rfl⟩) (fun _ _ _ => rfl)
        simpa [Sm.old, eb] using this
      · simp only [go_sem, simprocAttr, e0, eb, decide_true, decide_false]
        refine cl_spec (sfind_ok a) (fun _ _ _ hc => absurd hc (by decide +kernel)) ?_
        rintro u k' ⟨rfl, rfl⟩
        simp only [go_sem, simprocAttr, e1]
        exact ⟨_, rfl, .nil _ _ _ _⟩
  · simp only [go_sem, simprocAttr, e0]
    exact ⟨_, rfl, .nil _ _ _ _⟩
end

theorem readL_all {m : Sm} {b : Nat} (g : m.good b) (r : Int) : readL (m.vol r) 0 m.n = (m.vol r, 0) := by
  have hl := m.vol_len r
  have := g.c.n0; have := g.c.n1
  unfold readL
  rw [if_neg (by omega), if_neg (by omega)]
  simp only [Int.toNat_zero, List.drop_zero]
  rw [← hl, List.take_length]
def Sm.same (m m' : Sm) : Prop := m'.n = m.n ∧ m'.ts = m.ts ∧ m'.us = m.us ∧ m'.now = m.now ∧ m'.frozen = m.frozen
theorem Sm.same.vol {m m' : Sm} (s : m.same m') : m'.vol m'.now = m.vol m.now := by
  obtain ⟨h1, h2, h3, h4, _⟩ := s
  unfold Sm.vol
  rw [h1, h2, h3, h4]
theorem frozen_act {m : Sm} (hf : m.frozen = true) {a : SAct} (h2 : a.kd % 8 ≠ 2) (h6 : a.kd % 8 ≠ 6) : m.same (m.act a).2 ∧ ((a.kd % 8 = 0 ∨ a.kd % 8 = 5) → (m.act a).1 ≠ 0) := by
  have r : m.same m := ⟨rfl, rfl, rfl, rfl, rfl⟩
  have e := Nat.mod_lt a.kd (show 0 < 8 by omega)
  unfold Sm.act
  by_cases k0 : a.kd % 8 = 0
  · rw [if_pos k0]
    unfold Sm.doOp
    by_cases c : a.op.fits m.n
    · rw [if_neg (Decidable.not_not.2 c), if_pos hf]; exact ⟨r, fun _ => (by decide : (11 : Int) ≠ 0)⟩
    · rw [if_pos c]; exact ⟨r, fun _ => (by decide : (1 : Int) ≠ 0)⟩
  rw [if_neg k0]
  by_cases k1 : a.kd % 8 = 1
  · rw [if_pos k1]; exact ⟨r, by omega⟩
  rw [if_neg k1, if_neg h2]
  by_cases k3 : a.kd % 8 = 3
  · rw [if_pos k3]
    refine ⟨?_, by omega⟩
    unfold Sm.snap
    by_cases c1 : a.id < 1
    · rw [if_pos c1]; exact r
    rw [if_neg c1]
    by_cases c2 : (m.find a.id).2 = 0
    · rw [if_pos c2]; exact r
    rw [if_neg c2]
    by_cases c3 : 32 ≤ m.snaps.length
    · rw [if_pos c3]; exact r
    rw [if_neg c3]; exact r
  rw [if_neg k3]
  by_cases k4 : a.kd % 8 = 4
  · rw [if_pos k4]
    refine ⟨?_, by omega⟩
    unfold Sm.delete
    by_cases c1 : (m.find a.id).2 ≠ 0
    · rw [if_pos c1]; exact r
    · rw [if_neg c1]; exact r
  rw [if_neg k4]
  by_cases k5 : a.kd % 8 = 5
  · rw [if_pos k5]
    unfold Sm.rollback
    dsimp only
    rw [if_pos (.inr hf)]
    refine ⟨r, fun _ => ?_⟩
    by_cases c1 : (m.find a.id).2 ≠ 0
    · rw [if_pos c1]; exact c1
    · rw [if_neg c1, if_pos hf]; decide
  rw [if_neg k5, if_neg h6]
  exact ⟨r, by omega⟩
theorem and63 (n : Int) : ∃ k : Nat, k < 64 ∧ ∀ (h : AHeap) (t : TypeId), abin Tryz.prog h .and t (.int .i64 n) (.int .i64 63) = some (.int .i64 (k : Nat)) := by
  have h : (BitVec.ofInt 64 n &&& BitVec.ofInt 64 63).toNat ≤ 63 := by
    rw [BitVec.toNat_and]; exact Nat.and_le_right
  refine ⟨_, Nat.lt_succ_of_le h, fun hp t => ?_⟩
  rw [abin_and]
  show some (Value.int .i64 (IntKind.i64.wrap ((BitVec.ofInt 64 n &&& BitVec.ofInt 64 63).toNat : Int))) = _
  rw [wi64] <;> omega
theorem sa_put (a : SAct) (v w : Value) : putCells [.int .u8 0, .int .i64 0, .int .i64 0, .int .i64 0, .slice none 0 0, .int .i64 0, .bool false, .slice none 0 0] 0 (a.cs v w) = a.cs v w := rfl
theorem replay_n : ∀ (os : List Bop) (ks : List Bool) (m : Sm), (m.replay os ks).n = m.n
  | [], _, _ => rfl
  | _ :: _, [], _ => rfl
  | o :: os, k :: ks, m => by
    rw [Sm.replay_cons, replay_n os ks]
    cases k <;> rfl
theorem act_n (m : Sm) (a : SAct) : (m.act a).2.n = m.n := by
  unfold Sm.act
  by_cases k0 : a.kd % 8 = 0
  · rw [if_pos k0]; unfold Sm.doOp; repeat' split
    all_goals rfl
  rw [if_neg k0]
  by_cases k1 : a.kd % 8 = 1
  · rw [if_pos k1]; rfl
  rw [if_neg k1]
  by_cases k2 : a.kd % 8 = 2
  · rw [if_pos k2]
  rw [if_neg k2]
  by_cases k3 : a.kd % 8 = 3
  · rw [if_pos k3]; unfold Sm.snap; repeat' split
    all_goals rfl
  rw [if_neg k3]
  by_cases k4 : a.kd % 8 = 4
  · rw [if_pos k4]; unfold Sm.delete; repeat' split
    all_goals rfl
  rw [if_neg k4]
  by_cases k5 : a.kd % 8 = 5
  · rw [if_pos k5]; unfold Sm.rollback; dsimp only; split <;> rfl
  rw [if_neg k5]
  by_cases k6 : a.kd % 8 = 6
  · rw [if_pos k6]; unfold Sm.crash Sm.flush; exact replay_n _ _ _
  rw [if_neg k6]
section
variable {own own' own'' : Nat → Nat} {h h' h'' : AHeap} {S S' : Nat → Prop} {m : Sm} {id : Nat} {v w : Value} {b : Nat}
end

/-- What a shard comes to has grown. -/
def Sm.Grow (m m' : Sm) : Prop := m'.n = m.n ∧ (∃ l, m'.ts = m.ts ++ l) ∧ ∃ d, m'.us = m.us ++ d
theorem Sm.Grow.refl (m : Sm) : m.Grow m := ⟨rfl, ⟨[], by simp⟩, [], by simp⟩
theorem Sm.Grow.trans {a b c : Sm} (x : a.Grow b) (y : b.Grow c) : a.Grow c := by
  obtain ⟨x1, ⟨l, x2⟩, d, x3⟩ := x
  obtain ⟨y1, ⟨l', y2⟩, d', y3⟩ := y
  exact ⟨y1.trans x1, ⟨l ++ l', by rw [y2, x2, List.append_assoc]⟩, d ++ d', by rw [y3, x3, List.append_assoc]⟩
theorem go_grow (m : Sm) (o : Bop) : m.Grow (m.go o) := ⟨rfl, ⟨_, rfl⟩, _, rfl⟩
theorem replay_grow : ∀ (os : List Bop) (ks : List Bool) (m : Sm), m.Grow (m.replay os ks)
  | [], _, m => .refl m
  | _ :: _, [], m => .refl m
  | o :: os, k :: ks, m => by
    rw [Sm.replay_cons]
    cases k with
    | true => exact (go_grow m o).trans (replay_grow os ks _)
    | false => exact replay_grow os ks m
theorem replay_snaps : ∀ (os : List Bop) (ks : List Bool) (m : Sm), (m.replay os ks).snaps = m.snaps
  | [], _, _ => rfl
  | _ :: _, [], _ => rfl
  | o :: os, k :: ks, m => by
    rw [Sm.replay_cons, replay_snaps os ks]
    cases k <;> rfl
theorem act_grow (m : Sm) (a : SAct) : m.Grow (m.act a).2 := by
  have r := Sm.Grow.refl m
  unfold Sm.act
  by_cases k0 : a.kd % 8 = 0
  · rw [if_pos k0]; unfold Sm.doOp; repeat' split
    all_goals first | exact r | exact go_grow m _
  rw [if_neg k0]
  by_cases k1 : a.kd % 8 = 1
  · rw [if_pos k1]; exact r
  rw [if_neg k1]
  by_cases k2 : a.kd % 8 = 2
  · rw [if_pos k2]; exact r
  rw [if_neg k2]
  by_cases k3 : a.kd % 8 = 3
  · rw [if_pos k3]; unfold Sm.snap; repeat' split
    all_goals exact r
  rw [if_neg k3]
  by_cases k4 : a.kd % 8 = 4
  · rw [if_pos k4]; unfold Sm.delete; repeat' split
    all_goals exact r
  rw [if_neg k4]
  by_cases k5 : a.kd % 8 = 5
  · rw [if_pos k5]; unfold Sm.rollback; dsimp only; split <;> exact r
  rw [if_neg k5]
  by_cases k6 : a.kd % 8 = 6
  · rw [if_pos k6]; exact replay_grow m.opn a.keep { m with now := m.sure }
  rw [if_neg k6]; exact r
theorem act_snaps (m : Sm) (a : SAct) : (m.act a).2.snaps = if (m.act a).1 = 0 ∧ a.kd % 8 = 3 then m.snaps ++ [(a.id, m.now)] else if (m.act a).1 = 0 ∧ a.kd % 8 = 4 then delS m.snaps a.id else m.snaps := by
  unfold Sm.act
  by_cases k0 : a.kd % 8 = 0
  · simp only [k0, if_true]
    rw [if_neg (by omega), if_neg (by omega)]
    unfold Sm.doOp; repeat' split
    all_goals rfl
  by_cases k1 : a.kd % 8 = 1
  · simp [k1, Sm.flush]
  by_cases k2 : a.kd % 8 = 2
  · simp [k2]
  by_cases k3 : a.kd % 8 = 3
  · simp only [k3, if_true, if_false, Nat.reduceEqDiff, and_true]
    unfold Sm.snap
    by_cases c1 : a.id < 1
    · simp [c1]
    by_cases c2 : (m.find a.id).2 = 0
    · simp [c1, c2]
    by_cases c3 : 32 ≤ m.snaps.length
    · simp [c1, c2, c3]
    · simp [c1, c2, c3]
  by_cases k4 : a.kd % 8 = 4
  · simp only [k4, if_true, if_false, Nat.reduceEqDiff, and_true, and_false]
    unfold Sm.delete
    by_cases c1 : (m.find a.id).2 = 0
    · simp [c1]
    · simp [c1]
  by_cases k5 : a.kd % 8 = 5
  · simp only [k5, if_true, if_false, Nat.reduceEqDiff, and_false]
    unfold Sm.rollback; dsimp only; split <;> rfl
  by_cases k6 : a.kd % 8 = 6
  · simp only [k6, if_true, if_false, Nat.reduceEqDiff, and_false]
    exact replay_snaps _ _ _
  simp [k0, k1, k2, k3, k4, k5, k6]
theorem kput_append {us d : List Nat} {x : Ext} {v : List Nat} {k : Nat} (h : (x.phys + k).toNat < us.length) : kput (us ++ d) x v k = kput us x v k := by
  unfold kput
  rw [if_pos h, if_pos (by rw [List.length_append]; omega), List.getD, List.getD, List.getElem?_append_left h]
theorem viewL_append {us d : List Nat} {n : Nat} {l : List Ext} (h : ∀ x ∈ l, x.ok ∧ x.phys + x.len ≤ us.length) : viewL (us ++ d) n l = viewL us n l := by
  have ks : ∀ (x : Ext), x.ok → x.phys + x.len ≤ us.length → ∀ (js : List Nat), (∀ j ∈ js, j < x.len.toNat) → ∀ v, js.foldl (kput (us ++ d) x) v = js.foldl (kput us x) v := by
    intro x hx hu js
    unfold Ext.ok at hx
    induction js with
    | nil => intro _ v; rfl
    | cons j js ih =>
      intro hj v
      have := hj j (by simp)
      rw [List.foldl_cons, List.foldl_cons, kput_append (by omega), ih fun i hi => hj i (by simp [hi])]
  have xs : ∀ (l : List Ext), (∀ x ∈ l, x.ok ∧ x.phys + x.len ≤ us.length) → ∀ v, l.foldl (xput (us ++ d)) v = l.foldl (xput us) v := by
    intro l
    induction l with
    | nil => intro _ v; rfl
    | cons x l ih =>
      intro hl v
      have hx := hl x (by simp)
      rw [List.foldl_cons, List.foldl_cons]
      unfold xput
      rw [ks x hx.1 hx.2 _ (fun j hj => List.mem_range.1 hj)]
      exact ih (fun y hy => hl y (by simp [hy])) _
  exact xs l h _
/-- What a tree is of stays. -/
theorem vol_grow {m m' : Sm} (c : Core m.n m.ts m.us) {r : Int} (h : Has m.ts r) (g : m.Grow m') : m'.vol r = m.vol r := by
  obtain ⟨g1, ⟨l, g2⟩, d, g3⟩ := g
  have hp := c.part h
  have e : F.part m'.ts r 0 1024 = F.part m.ts r 0 1024 := by
    have h' : Has m'.ts r := by rw [g2]; unfold Has at *; rw [List.length_append]; omega
    have et : m'.ts.getD r.toNat .nil = m.ts.getD r.toNat .nil := by unfold Has at h; rw [g2, List.getD, List.getD, List.getElem?_append_left (by omega)]
    unfold F.part
    rw [if_pos h', if_pos h, et]
  obtain ⟨gt, ft⟩ := c.get h
  unfold Sm.vol
  rw [e, g1, g3, hp]
  exact viewL_append fun x hx => ⟨gt.1.1 x hx, (ft x hx).2⟩

/-! A list of data that stand apart from it. -/
def OwnD {α : Type} (r : Rep α) (D Z : Nat) (ow : Nat → Nat) (h : AHeap) (xs : List α) (v : Value) : Prop := Lst r 0 (tg ow D) h xs v ∧ ∀ j, blk v = some j → ow j = Z
section
variable {α : Type} {r : Rep α} {D Z : Nat} {T : Nat → Prop} {ow own' : Nat → Nat} {h h' : AHeap} {xs : List α} {v : Value}
theorem OwnD.nil : OwnD r D Z ow h [] (.slice none 0 0) := ⟨.nil _ _ _ _, fun j e => by cases e⟩
theorem OwnD.ks (o : OwnD r D Z ow h xs v) (k : Ks T ow h own' h') (h1 : ¬ T D) (h2 : ¬ T Z) : OwnD r D Z own' h' xs v :=
  ⟨o.1.mono (Nat.le_refl _) k.1 (fun j hj hl _ => k.tg h1 j hj hl) (fun j hj hl => (k.tg h2 j (o.2 j hj) hl).2), fun j hj => (k.tg h2 j (o.2 j hj) (o.1.blk_ge hj).2).1⟩
theorem OwnD.slz (o : OwnD r D Z ow h xs v) : IsSl r (fun j => ow j = Z ∨ ow j = D) h xs v := by
  obtain ⟨⟨css, ha, h0, ⟨a, rfl, rfl, k⟩ | ⟨ob, rfl, hlo, hg⟩⟩, hz⟩ := o
  · exact .empty fun ad e => .inl (k ad e).1
  · refine ⟨_, _, css, rfl, Nat.le_refl _, Nat.le_trans h0 (by decide), (fun h => by cases h), (fun ad h => by cases h; exact .inr rfl), ?_, fun _ => ⟨_, _, _, rfl, .inl (hz _ rfl), hg, ?_, ?_⟩⟩
    · exact ha.moves fun j hj hl => ⟨.inr hj.1, rfl⟩
    · rw [ha.flat]; simp
    · rw [List.drop_zero, List.take_of_length_le]; rw [ha.flat]; exact Nat.le_refl _
/-- One more, behind a box. -/
theorem OwnD.app (hDZ : D ≠ Z) {y : α} {cs : List Value} {bytes : Nat} (o : OwnD r D Z ow h xs v) (sz : Nat) (hsz : r.sz = sz) (hy : r.R (fun j => ow j = D ∧ j < h.next) h y cs) (hb : (xs.length + 1) * bytes ≤ 140737488355328) (h62 : xs.length + 1 ≤ 281474976710656) :
    ∃ v' h', aappend (h.push (.cells cs .rw)) sz bytes v 1 cs = some (v', h') ∧ OwnD r D Z (bump ow h Z) h' (xs ++ [y]) v' ∧ Fw (fun j => blk v = some j) h h' ∧ (blk v' = blk v ∨ ∃ ob, blk v' = some ob ∧ h.next ≤ ob) ∧ ∃ a n c, v' = .slice a n c := by
  have q := AHeap.quiet.push h (.cells cs .rw)
  have o1 : Lst r 0 (fun j => tg ow D j ∧ j < h.next) (h.push (.cells cs .rw)) xs v := o.1.mono (Nat.le_refl _) q.1 (fun j hj hl _ => ⟨⟨hj, hl⟩, q.2 j hl⟩) (fun j _ hl => q.2 j hl)
  obtain ⟨v', h', e, l, f, n⟩ := o1.app1 (y := y) (cs := cs) (bytes := bytes) sz hsz (r.mono hy fun j hj hl => ⟨⟨hj, fun e => hDZ (hj.1.symm.trans (o.2 j e))⟩, q.2 j hl⟩) hb h62 (Nat.zero_le _)
  have n' : blk v' = blk v ∨ ∃ ob, blk v' = some ob ∧ h.next ≤ ob := n.imp id fun ⟨ob, h1, h2⟩ => ⟨ob, h1, Nat.le_trans q.1 h2⟩
  obtain ⟨a, c, rfl, _⟩ := l.len
  refine ⟨_, h', e, ⟨l.weaken fun j hj => (bump_lt hj.2).trans hj.1, fun j hj => ?_⟩, f.after q, n', _, _, _, rfl⟩
  rcases n' with n' | ⟨ob, n', hge⟩
  · rw [n'] at hj; exact (bump_lt (o.1.blk_ge hj).2).trans (o.2 j hj)
  · rw [n'] at hj; cases hj; exact bump_ge hge
/-- Another list stays, while one grows. -/
theorem OwnD.apart {w : Value} (hDZ : D ≠ Z) (o : OwnD r D Z ow h xs v) (f : Fw (fun j => blk w = some j) h h') (hw : ∀ j, blk w = some j → ow j = Z) (hne : ∀ j, blk v = some j → blk w ≠ some j) : OwnD r D Z (bump ow h Z) h' xs v :=
  ⟨o.1.mono (Nat.le_refl _) f.1 (fun j hj hl _ => ⟨(bump_lt hl).trans hj, f.2 j hl fun e => hDZ (hj.symm.trans (hw j e))⟩) (fun j hj hl => f.2 j hl fun e => hne j hj e), fun j hj => (bump_lt (o.1.blk_ge hj).2).trans (o.2 j hj)⟩
theorem OwnD.at {a : Option Addr} {n cap : Nat} (o : OwnD r D Z ow h xs (.slice a n cap)) (sz : Nat) (hsz : r.sz = sz) {i : Nat} (hi : i < n) :
    ∃ b off sp c md cs x, a = some ⟨b, off, sp⟩ ∧ ow b = Z ∧ h.get b = .cells c md ∧ xs[i]? = some x ∧ r.R (tg ow D) h x cs ∧ off + i * sz + sz ≤ c.length ∧ (c.drop (off + i * sz)).take sz = cs := by
  subst hsz
  obtain ⟨⟨css, ha, h0, ⟨a', e, rfl, k⟩ | ⟨ob, e, hlo, hg⟩⟩, hz⟩ := o
  · cases e; omega
  · cases e
    have hx : xs[i]? = some xs[i] := List.getElem?_eq_getElem hi
    obtain ⟨cs, hc, hr⟩ := ha.get hx
    refine ⟨ob, 0, _, css.flatten, _, cs, xs[i], rfl, hz _ rfl, hg, hx, r.weaken hr fun _ e => e.1, ?_, ?_⟩
    · rw [flat_length ha.lens, ← ha.1]
      have := Nat.mul_le_mul_right r.sz (Nat.succ_le_of_lt hi)
      rw [Nat.succ_mul] at this
      omega
    · rw [Nat.zero_add]; exact flat_at ha.lens hc
end

/-- From a to ahead of b other numbers. -/
def paint (a b : Nat) (f : Nat → Nat) (xs : List Nat) : List Nat := xs.mapIdx fun j x => if a ≤ j ∧ j < b then f j else x
theorem paint_len (a b : Nat) (f : Nat → Nat) (xs : List Nat) : (paint a b f xs).length = xs.length := by simp [paint]
theorem paint_get (a b : Nat) (f : Nat → Nat) (xs : List Nat) (j : Nat) : (paint a b f xs)[j]? = (xs[j]?).map fun x => if a ≤ j ∧ j < b then f j else x := by simp [paint, List.getElem?_mapIdx]
theorem paint_nil {a b : Nat} (f : Nat → Nat) (xs : List Nat) (h : b ≤ a) : paint a b f xs = xs := by
  apply List.ext_getElem?
  intro j
  rw [paint_get]
  cases xs[j]? with
  | none => rfl
  | some x => simp only [Option.map_some]; rw [if_neg (by omega)]
theorem paint_set {a b : Nat} (f : Nat → Nat) (xs : List Nat) (h : a ≤ b) (hb : b < xs.length) : (paint a b f xs).set b (f b) = paint a (b + 1) f xs := by
  apply List.ext_getElem?
  intro j
  rw [List.getElem?_set]
  split
  · rename_i e; subst e
    rw [if_pos (by rw [paint_len]; exact hb), paint_get, List.getElem?_eq_getElem hb]
    simp only [Option.map_some]
    rw [if_pos (by omega)]
  · rw [paint_get, paint_get]
    cases xs[j]? with
    | none => rfl
    | some x =>
      simp only [Option.map_some]
      by_cases h1 : a ≤ j ∧ j < b
      · rw [if_pos h1, if_pos (by omega)]
      · rw [if_neg h1, if_neg (by omega)]

/-- What an op writes at a block. -/
def Bop.val (o : Bop) (j : Nat) : Nat := if o.kd = 1 then o.data.getD (j - o.off.toNat) 0 else 0
/-- A volume behind an op. -/
def Bop.app (o : Bop) (xs : List Nat) : List Nat := paint o.off.toNat (o.off.toNat + o.rng.2.toNat) o.val xs

section
variable {h k h' : AHeap} {S S' Z : Nat → Prop} {v w : Value} {id : Nat}
theorem many_ok {n : Int} : Does Tryz.prog 57 #[.int .i64 n] h (fun u h' => u = .bool (decide (0 ≤ n ∧ n ≤ 1024)) ∧ h' = h) := by
  refine spec_go mixed Tryz.func57 rfl Tryz.results57 (n := Tryz.f57.ntmps) (by kernel_rfl) (by simp) ?_
  simp only [go_sem, simprocAttr]
  by_cases c1 : 0 ≤ n
  · simp only [go_sem, simprocAttr, c1, decide_true, true_and]
  · simp only [go_sem, simprocAttr, c1, decide_false, false_and]
theorem in_ok {n i k : Int} (h0 : inJ n) (h1 : inJ i) : Does Tryz.prog 107 #[.int .i64 n, .int .i64 i, .int .i64 k] h (fun u h' => u = .bool (decide (0 ≤ i ∧ i ≤ n ∧ k ≤ n - i)) ∧ h' = h) := by
  refine spec_go mixed Tryz.func107 rfl Tryz.results107 (n := Tryz.f107.ntmps) (by kernel_rfl) (by simp) ?_
  simp only [go_sem, simprocAttr]
  by_cases c1 : 0 ≤ i
  · by_cases c2 : i ≤ n
    · have e : IntKind.i64.wrap (n - i) = n - i := by have := h0.2; rw [wi64] <;> omega
      simp only [go_sem, simprocAttr, c1, c2, decide_true, e, true_and]
    · simp only [go_sem, simprocAttr, c1, c2, decide_true, decide_false, true_and, false_and]
  · simp only [go_sem, simprocAttr, c1, decide_false, false_and]
theorem RRange_ok {o : Bop} (hv : Words S h o.data v) : Does Tryz.prog 108 #[.agg (o.cs v).toArray] h (fun u h' => u = .tuple #[.int .i64 o.rng.1, .int .i64 o.rng.2] ∧ h.quiet h') := by
  obtain ⟨a, c, rfl⟩ := hv.shape
  refine spec_go mixed Tryz.func108 rfl Tryz.results108 (n := Tryz.f108.ntmps) (by kernel_rfl) (by simp) ?_
  simp only [go_sem, simprocAttr, bo_len, bo_one, bo_take, bo_put, bo_0]
  unfold Bop.rng
  by_cases k1 : o.kd = 1
  · simp only [go_sem, simprocAttr, k1, eq_self, decide_true, bo_1, bo_3, if_true]
    all_goals exact .push _ _
  · by_cases k2 : o.kd = 2
    · simp only [go_sem, simprocAttr, k1, k2, eq_self, decide_true, decide_false, bo_1, bo_2, if_true, if_false]
      all_goals exact .push _ _
    · simp only [go_sem, simprocAttr, k1, k2, decide_true, decide_false, if_false]
      all_goals exact .push _ _
theorem RRight_ok {o : Bop} {n : Int} (hi : o.inI) (hn : inJ n) (hv : Words S h o.data v) : Does Tryz.prog 58 #[.int .i64 n, .agg (o.cs v).toArray] h (fun u h' => u = .bool (decide (o.fits n)) ∧ h.quiet h') := by
  obtain ⟨a, c, rfl⟩ := hv.shape
  have hl := hv.len
  have hno : ¬ o.fits n → Value.bool false = Value.bool (decide (o.fits n)) := fun e => by rw [decide_eq_false e]
  have hr : ∀ q, (q ↔ o.fits n) → ∀ [Decidable q], Value.bool (decide q) = Value.bool (decide (o.fits n)) := fun q e _ => congrArg Value.bool (decide_eq_decide.2 e)
  refine spec_go mixed Tryz.func58 rfl Tryz.results58 (n := Tryz.f58.ntmps) (by kernel_rfl) (by simp) ?_
  simp only [go_sem, simprocAttr, bo_len, bo_one, bo_take, bo_put]
  have q0 : h.quiet (h.push (.cells (o.cs (.slice a o.data.length c)) .rw)) := .push _ _
  have g0 : (h.push (.cells (o.cs (.slice a o.data.length c)) .rw)).get h.next = .cells (o.cs (.slice a o.data.length c)) .rw := by simp
  generalize h.push (.cells (o.cs (.slice a o.data.length c)) .rw) = k at q0 g0
  simp only [go_sem, simprocAttr, g0, bo_0]
  by_cases k1 : o.kd = 1
  · have er : o.rng = (o.off, (o.data.length : Int)) := by unfold Bop.rng; rw [if_pos k1]
    have hf : o.fits n ↔ (0 ≤ n ∧ n ≤ 1024 ∧ 1 ≤ (o.data.length : Int) ∧ 0 ≤ o.off ∧ (o.data.length : Int) ≤ n ∧ o.off ≤ n - o.data.length) ∧ ((o.kd = 2 ∧ o.data.length = 0) ∨ (o.kd = 1 ∧ o.ln = 0 ∧ (o.data.length : Int) ≤ 64)) := by unfold Bop.fits; rw [er]
    simp only [go_sem, simprocAttr, k1, eq_self, decide_true]
    refine cl_spec many_ok (fun _ _ _ hc => absurd hc (by decide +kernel)) ?_
    rintro u k2 ⟨rfl, rfl⟩
    by_cases c1 : 0 ≤ n ∧ n ≤ 1024
    · simp only [go_sem, simprocAttr, decide_eq_true c1, g0, bo_2]
      by_cases c2 : o.ln = 0
      · simp only [go_sem, simprocAttr, c2, eq_self, decide_true, g0, bo_3]
        by_cases c3 : (1 : Int) ≤ o.data.length
        · simp only [go_sem, simprocAttr, c3, decide_true, g0, bo_3]
          by_cases c4 : (o.data.length : Int) ≤ 64
          · simp only [go_sem, simprocAttr, c4, decide_true, g0, bo_3, bo_1]
            refine cl_spec (in_ok hn hi.2.1) (fun _ _ _ hc => absurd hc (by decide +kernel)) ?_
            rintro u k3 ⟨rfl, rfl⟩
            simp only [go_sem, simprocAttr]
            exact ⟨hr _ (by rw [hf]; omega), q0⟩
          · simp only [go_sem, simprocAttr, c4, decide_false]
            exact ⟨hno (by rw [hf]; omega), q0⟩
        · simp only [go_sem, simprocAttr, c3, decide_false]
          exact ⟨hno (by rw [hf]; omega), q0⟩
      · simp only [go_sem, simprocAttr, c2, decide_false]
        exact ⟨hno (by rw [hf]; omega), q0⟩
    · simp only [go_sem, simprocAttr, decide_eq_false c1]
      exact ⟨hno (by rw [hf]; omega), q0⟩
  · by_cases k2 : o.kd = 2
    · have er : o.rng = (o.off, o.ln) := by unfold Bop.rng; rw [if_neg k1, if_pos k2]
      have hf : o.fits n ↔ (0 ≤ n ∧ n ≤ 1024 ∧ 1 ≤ o.ln ∧ 0 ≤ o.off ∧ o.ln ≤ n ∧ o.off ≤ n - o.ln) ∧ ((o.kd = 2 ∧ o.data.length = 0) ∨ (o.kd = 1 ∧ o.ln = 0 ∧ o.ln ≤ 64)) := by unfold Bop.fits; rw [er]
      simp only [go_sem, simprocAttr, k1, k2, eq_self, decide_true, decide_false]
      refine cl_spec many_ok (fun _ _ _ hc => absurd hc (by decide +kernel)) ?_
      rintro u k2 ⟨rfl, rfl⟩
      by_cases c1 : 0 ≤ n ∧ n ≤ 1024
      · simp only [go_sem, simprocAttr, decide_eq_true c1, g0, bo_3]
        by_cases c2 : (o.data.length : Int) = 0
        · simp only [go_sem, simprocAttr, c2, eq_self, decide_true, g0, bo_2]
          by_cases c3 : 1 ≤ o.ln
          · simp only [go_sem, simprocAttr, c3, decide_true, g0, bo_2, bo_1]
            refine cl_spec (in_ok hn hi.2.1) (fun _ _ _ hc => absurd hc (by decide +kernel)) ?_
            rintro u k3 ⟨rfl, rfl⟩
            simp only [go_sem, simprocAttr]
            exact ⟨hr _ (by rw [hf]; omega), q0⟩
          · simp only [go_sem, simprocAttr, c3, decide_false]
            exact ⟨hno (by rw [hf]; omega), q0⟩
        · simp only [go_sem, simprocAttr, c2, decide_false]
          exact ⟨hno (by rw [hf]; omega), q0⟩
      · simp only [go_sem, simprocAttr, decide_eq_false c1]
        exact ⟨hno (by rw [hf]; omega), q0⟩
    · simp only [go_sem, simprocAttr, k1, k2, decide_false]
      exact ⟨hno (by unfold Bop.fits; omega), q0⟩
attribute [local go_sem] Bop.cs

theorem rone_ok {xs : List Nat} {o : Bop} {v d : Value} (hx : Words S h xs v) (hod : Words S' h o.data d) (hr : o.fits xs.length) : Does Tryz.prog 59 #[v, .agg (o.cs d).toArray] h (fun u h' => h.quiet h' ∧ Lst rW (h.next + 1) (fun _ => False) h' (o.app xs) u) := by
  replace hod := hod.bound
  obtain ⟨a, c, rfl⟩ := hx.shape
  obtain ⟨a2, c2, rfl⟩ := hod.shape
  have hl := hx.len
  have hl2 := hod.len
  obtain ⟨n0, n1, r1, r0, r3_, r2⟩ := hr.1
  have eo : o.rng.1 = o.off := by rcases hr.kd with ⟨_, e, _⟩ | ⟨_, e⟩ <;> rw [e]
  rw [eo] at r0 r2
  have hm := hx.vals rfl
  refine spec_go mixed Tryz.func59 rfl Tryz.results59 (n := Tryz.f59.ntmps) (by kernel_rfl) (by simp) ?_
  generalize hH : h.push (.cells [.int .i64 o.kd, .int .i64 o.off, .int .i64 o.ln, .slice a2 o.data.length c2] .rw) = H
  obtain ⟨gH, lH, qH⟩ := AHeap.quiet.box (h := h) (k := H) (by rw [hH]; exact .refl _)
  obtain ⟨u1, k1, e1, l1, f1, _⟩ := (Lst.nil rW (h.next + 1) (fun _ => False) H).app (ys := xs) 1 rfl (bytes := 8) (n := xs.length) (nat_all2 (fun n hn => hm n hn)) rfl (by simp; omega) (by simp; omega) (by omega)
  rw [nat_flat, List.nil_append] at *
  have q1 : H.quiet k1 := f1.quiet (fun j _ e => by cases e)
  have gk1 := (q1.2 _ lH).trans gH
  simp only [go_sem, simprocAttr, hH, (hx.quiet qH).acellsN, e1, gk1]
  refine cl_spec (RRange_ok (hod.quiet (qH.trans q1))) (fun _ _ _ hc => absurd hc (by decide +kernel)) ?_
  rintro u k2 ⟨rfl, q2⟩
  have gk2 := (q2.2 _ (by have := q1.1; omega)).trans gk1
  simp only [go_sem, simprocAttr]
  refine go_loop (fun z ρ k => ∃ (i : Nat) (u : Value), (i : Int) ≤ o.rng.2 ∧ z = o.rng.2.toNat - i ∧ k2.next ≤ k.next ∧ h.quiet k ∧ Lst rW (h.next + 1) (fun _ => False) k (paint o.off.toNat (o.off.toNat + i) o.val xs) u ∧ k.get h.next = .cells [.int .i64 o.kd, .int .i64 o.off, .int .i64 o.ln, .slice a2 o.data.length c2] .rw ∧
    ρ 3 = .pointer (some ⟨h.next, 0, none⟩) ∧ ρ 5 = u ∧ ρ 6 = .int .i64 o.rng.1 ∧ ρ 7 = .int .i64 o.rng.2 ∧ ρ 8 = .int .i64 i) o.rng.2.toNat
    ⟨0, u1, by omega, by omega, Nat.le_refl _, (qH.trans q1).trans q2, by rw [paint_nil _ _ (by omega)]; exact l1.quiet q2, gk2, by simp only [go_sem, simprocAttr]⟩ ?_
  rintro z ρ k ⟨i, u, hi, rfl, nk, qk, hlu, gk, r3, r5, r6, r7, r8⟩
  simp only [go_sem, simprocAttr, r3, r5, r6, r7, r8]
  refine cnd_decide (fun hx' => ?_) (fun hx' => ?_)
  · obtain ⟨au, cu, rfl, _⟩ := hlu.len
    have hpl := paint_len o.off.toNat (o.off.toNat + i) o.val xs
    rw [hpl] at hlu r5
    obtain ⟨ob, cc, x, rfl, hob, hob2, hg, hc, hcl, hxi, hmx, hset⟩ := hlu.setN (i := o.off.toNat + i) (by omega)
    have e2 : IntKind.i64.wrap (o.rng.1 + i) = ((o.off.toNat + i : Nat) : Int) := by rw [eo, wi64] <;> omega
    have e9 : IntKind.i64.wrap ((i : Int) + 1) = ((i + 1 : Nat) : Int) := by rw [wi64] <;> omega
    have b1 : o.off.toNat + i < xs.length := by omega
    have b2 : o.off.toNat + i + 1 ≤ xs.length := by omega
    have gset : ∀ o', (k.set ob o').get h.next = _ := fun o' => (AHeap.get_set_ne _ _ (by omega)).trans gk
    by_cases hk : o.kd = 1
    · have ev : o.val (o.off.toNat + i) = o.data.getD i 0 := by unfold Bop.val; rw [if_pos hk, Nat.add_sub_cancel_left]
      have hx2 := hx'
      have er : o.rng = (o.off, (o.data.length : Int)) := by unfold Bop.rng; rw [if_pos hk]
      rw [er] at hx2
      have hdi : i < o.data.length := by simp only at hx2; omega
      obtain ⟨b0, off0, sp0, cd, md0, y, rfl, hSb, hgd, hyi, hmy, hcd⟩ := (hod.quiet qk).atN hdi
      have ey : o.data.getD i 0 = y := by rw [List.getD_eq_getElem?_getD, hyi]; rfl
      have gset2 : ∀ o', (k.set ob o').get b0 = _ := fun o' => (AHeap.get_set_ne _ _ (by have := hSb.2; omega)).trans hgd
      rw [hk] at gset
      simp only [go_sem, simprocAttr, r3, r5, r6, r7, r8, e2, b1, b2, hg, hcl, gset, gset2, hk, hdi, hcd, AHeap.get_set_self _ _ hob2, List.length_set, AHeap.set_set, List.set_set, e9]
      have hp := hset y hmy
      rw [← ey, ← ev, paint_set _ _ (by omega) (by omega)] at hp
      refine Hold.mk ⟨o.rng.2.toNat - (i + 1), by omega, i + 1, .slice (some ⟨ob, 0, some 1⟩) xs.length cu, by omega, rfl, by simpa using nk, qk.set' (by omega) _, ?_, gset _, by simp only [go_sem, simprocAttr, r3, r5, r6, r7]⟩
      rw [← ey, ← ev]; exact hp
    · have ev : o.val (o.off.toNat + i) = 0 := by unfold Bop.val; rw [if_neg hk]
      simp only [go_sem, simprocAttr, r3, r5, r6, r7, r8, e2, b1, b2, hg, hcl, gset, hk, decide_false, e9]
      have hp := hset 0 (by rw [u64_max]; omega)
      have hpt := paint_set (a := o.off.toNat) (b := o.off.toNat + i) o.val xs (by omega) (by omega)
      rw [ev] at hpt
      rw [hpt] at hp
      refine Hold.mk ⟨o.rng.2.toNat - (i + 1), by omega, i + 1, .slice (some ⟨ob, 0, some 1⟩) xs.length cu, by omega, rfl, by simpa using nk, qk.set' (by omega) _, ?_, gset _, by simp only [go_sem, simprocAttr, r3, r5, r6, r7]⟩
      exact hp
  · have : o.rng.2.toNat = i := by omega
    unfold Bop.app
    rw [this]
    simp only [go_sem, simprocAttr, r5]
    exact ⟨qk, hlu⟩

/-- A volume behind ops. -/
def applyV (xs : List Nat) (os : List Bop) : List Nat × Int :=
  if xs.length ≤ 1024 then (if ∀ o ∈ os, o.fits xs.length then (os.foldl (fun xs o => o.app xs) xs, 0) else ([], 1)) else ([], 6)
theorem app_len (o : Bop) (xs : List Nat) : (o.app xs).length = xs.length := paint_len _ _ _ _
theorem foldl_app_len (os : List Bop) : ∀ (xs : List Nat), (os.foldl (fun xs o => o.app xs) xs).length = xs.length := by
  induction os with
  | nil => intro xs; rfl
  | cons o os ih => intro xs; rw [List.foldl_cons, ih, app_len]

theorem rApply_ok {xs : List Nat} {os : List Bop} {v w : Value} (hx : Words S h xs v) (hos : IsSl rBop S' h os w) : Does Tryz.prog 23 #[v, w] h
      (fun u h' => h.quiet h' ∧ ∃ x, u = .tuple #[x, .int .i64 (applyV xs os).2] ∧ Lst rW h.next (fun _ => False) h' (applyV xs os).1 x) := by
  obtain ⟨a, c, rfl⟩ := hx.shape
  obtain ⟨a2, c2, rfl⟩ := hos.shape
  have hl := hx.len
  have hlo := hos.len
  have hm := hx.vals rfl
  refine spec_go mixed Tryz.func23 rfl Tryz.results23 (n := Tryz.f23.ntmps) (by kernel_rfl) (by simp) ?_
  simp only [go_sem, simprocAttr]
  refine cl_spec many_ok (fun _ _ _ hc => absurd hc (by decide +kernel)) ?_
  rintro u k ⟨rfl, rfl⟩
  unfold applyV
  by_cases h1 : xs.length ≤ 1024
  · rw [if_pos h1]
    have h1' : (xs.length : Int) ≤ 1024 := by omega
    simp only [go_sem, simprocAttr, decide_eq_true h1']
    refine go_loop (fun z ρ k2 => ∃ i : Nat, i ≤ os.length ∧ z = os.length - i ∧ k.quiet k2 ∧ (∀ o ∈ os.take i, o.fits xs.length) ∧ ρ 0 = .slice a xs.length c ∧ ρ 1 = .slice a2 os.length c2 ∧ ρ 6 = .int .i64 i) os.length
      ⟨0, by omega, by omega, .refl _, by simp, by simp only [go_sem, simprocAttr]⟩ ?_
    rintro z ρ k2 ⟨i, hi, rfl, qk, hri, r0, r1, r6⟩
    simp only [go_sem, simprocAttr, r0, r1, r6]
    refine cnd_decide (fun hx' => ?_) (fun hx' => ?_)
    · have h1 : i < os.length := by omega
      obtain ⟨b, off, sp, cc, md, o, d, rfl, _, hg, hoi, hod, hoo, hle, hdt⟩ := IsSl.atO (hos.quiet qk) h1
      obtain ⟨ad, cd_, rfl⟩ := hod.shape
      have e9 : IntKind.i64.wrap ((i : Int) + 1) = ((i + 1 : Nat) : Int) := by rw [wi64] <;> omega
      simp only [Bop.cs] at hdt
      simp only [go_sem, simprocAttr, r0, r1, r6, h1, hg, hle, hdt]
      refine cl_spec (RRight_ok (o := o) hoo (by unfold inJ; omega) hod) (fun _ _ _ hc => absurd hc (by decide +kernel)) ?_
      rintro u k3 ⟨rfl, q3⟩
      by_cases hr : o.fits xs.length
      · simp only [go_sem, simprocAttr, r0, r1, r6, decide_eq_true hr, e9]
        refine Hold.mk ⟨os.length - (i + 1), by omega, i + 1, by omega, rfl, qk.trans q3, ?_, by simp only [go_sem, simprocAttr, r0, r1]⟩
        rw [List.take_add_one, hoi]
        intro o' ho'
        rcases List.mem_append.1 ho' with ho' | ho'
        · exact hri o' ho'
        · simp at ho'; subst ho'; exact hr
      · simp only [go_sem, simprocAttr, decide_eq_false hr]
        rw [if_neg (fun e => hr (e o (List.mem_of_getElem? hoi)))]
        exact ⟨qk.trans q3, _, rfl, .nil _ _ _ _⟩
    · have : i = os.length := by omega
      subst this
      rw [List.take_length] at hri
      rw [if_pos hri]
      obtain ⟨u4, k4, e4, hl4, hf4, _⟩ := (Lst.nil rW k.next (fun _ => False) k2).app (ys := xs) 1 rfl (bytes := 8) (n := xs.length) (nat_all2 (fun n hn => hm n hn)) rfl (by simp; omega) (by simp; omega) qk.1
      rw [nat_flat, List.nil_append] at *
      have q4 : k.quiet k4 := Fw.behind qk hf4 (fun j e => by cases e)
      simp only [go_sem, simprocAttr, r0, r1, (hx.quiet qk).acellsN, e4]
      refine go_loop (fun z ρ k3 => ∃ (i : Nat) (u : Value), i ≤ os.length ∧ z = os.length - i ∧ k.quiet k3 ∧ Lst rW k.next (fun _ => False) k3 ((os.take i).foldl (fun xs o => o.app xs) xs) u ∧ ρ 1 = .slice a2 os.length c2 ∧ ρ 7 = u ∧ ρ 8 = .int .i64 i) os.length
        ⟨0, u4, by omega, by omega, q4, hl4, by simp only [go_sem, simprocAttr, r1]⟩ ?_
      rintro z ρ k3 ⟨i, u, hi, rfl, qk3, hlu, r1, r7, r8⟩
      simp only [go_sem, simprocAttr, r1, r7, r8]
      refine cnd_decide (fun hx' => ?_) (fun hx' => ?_)
      · have h1 : i < os.length := by omega
        obtain ⟨b, off, sp, cc, md, o, d, rfl, _, hg, hoi, hod, hoo, hle, hdt⟩ := IsSl.atO (hos.quiet qk3) h1
        obtain ⟨ad, cd_, rfl⟩ := hod.shape
        have e9 : IntKind.i64.wrap ((i : Int) + 1) = ((i + 1 : Nat) : Int) := by rw [wi64] <;> omega
        have hr := hri o (List.mem_of_getElem? hoi)
        simp only [Bop.cs] at hdt
        simp only [go_sem, simprocAttr, r1, r7, r8, h1, hg, hle, hdt]
        refine cl_spec (rone_ok (o := o) (S := fun _ => True) (hlu.isSl (fun _ _ _ => trivial) (fun _ _ => trivial)) hod (by rw [foldl_app_len]; exact hr)) (fun _ _ _ hc => absurd hc (by decide +kernel)) ?_
        rintro u5 k5 ⟨q5, hl5⟩
        simp only [go_sem, simprocAttr, r1, r8, e9]
        refine Hold.mk ⟨os.length - (i + 1), by omega, i + 1, u5, by omega, rfl, qk3.trans q5, ?_, by simp only [go_sem, simprocAttr, r1]⟩
        rw [List.take_add_one, hoi, List.foldl_append]
        exact hl5.mono (by have := qk3.1; omega) (Nat.le_refl _) (fun _ e _ _ => e.elim) (fun _ _ _ => rfl)
      · have : i = os.length := by omega
        subst this
        rw [List.take_length] at hlu
        simp only [go_sem, simprocAttr, r7]
        exact ⟨qk3, u, rfl, hlu⟩
  · rw [if_neg h1]
    have h1' : ¬ ((xs.length : Int) ≤ 1024) := by omega
    simp only [go_sem, simprocAttr, decide_eq_false h1']
    exact ⟨_, rfl, .nil _ _ _ _⟩
end

/-- Where a block lies. -/
def Ext.has (x : Ext) (j : Int) : Prop := x.off ≤ j ∧ j < x.off + x.len
instance (x : Ext) (j : Int) : Decidable (x.has j) := inferInstanceAs (Decidable (_ ∧ _))
def cov : List Ext → Int → Option Int
  | [], _ => none
  | x :: l, j => if x.has j then some (x.phys + j - x.off) else cov l j
theorem cov_cons (x : Ext) (l : List Ext) (j : Int) : cov (x :: l) j = if x.has j then some (x.phys + j - x.off) else cov l j := rfl
theorem cov_yes {x : Ext} {l : List Ext} {j : Int} (h : x.has j) : cov (x :: l) j = some (x.phys + j - x.off) := if_pos h
theorem cov_no {x : Ext} {l : List Ext} {j : Int} (h : ¬ x.has j) : cov (x :: l) j = cov l j := if_neg h
theorem cov_append : ∀ (a b : List Ext) (j : Int), cov (a ++ b) j = (cov a j).or (cov b j)
  | [], _, _ => rfl
  | x :: a, b, j => by
    rw [List.cons_append]
    by_cases h : x.has j
    · rw [cov_yes h, cov_yes h]; rfl
    · rw [cov_no h, cov_no h]; exact cov_append a b j
theorem cov_part {f t : Int} : ∀ (l : List Ext) {j : Int}, cov (partL f t l) j = if f ≤ j ∧ j < t then cov l j else none
  | [], j => by
    show none = _
    by_cases h : f ≤ j ∧ j < t
    · rw [if_pos h]; rfl
    · rw [if_neg h]
  | x :: l, j => by
    rw [partL_cons, cov_append, cov_part l]
    by_cases hl : x.lies f t
    · rw [if_pos hl]
      by_cases hx : x.has j
      · by_cases hj : f ≤ j ∧ j < t
        · have hc : (x.clip f t).has j := by unfold Ext.has at *; unfold Ext.lies at hl; unfold Ext.clip; dsimp only; omega
          rw [cov_yes hc, if_pos hj, if_pos hj, cov_yes hx]
          show some _ = some _
          congr 1
          unfold Ext.clip
          dsimp only
          omega
        · have hc : ¬ (x.clip f t).has j := by unfold Ext.has at *; unfold Ext.lies at hl; unfold Ext.clip; dsimp only; omega
          rw [cov_no hc, if_neg hj, if_neg hj]; rfl
      · have hc : ¬ (x.clip f t).has j := by unfold Ext.has at *; unfold Ext.lies at hl; unfold Ext.clip; dsimp only; omega
        rw [cov_no hc, cov_no hx]; rfl
    · rw [if_neg hl]
      show (if f ≤ j ∧ j < t then cov l j else none) = _
      by_cases hj : f ≤ j ∧ j < t
      · rw [if_pos hj, if_pos hj, cov_no (show ¬ x.has j by unfold Ext.has; unfold Ext.lies at hl; omega)]
      · rw [if_neg hj, if_neg hj]
theorem cov_step {out : List Ext} {y : Ext} (hz : ∀ z ∈ out, 1 ≤ z.len) (hy : 1 ≤ y.len) (j : Int) : cov (jstep out y) j = cov (out ++ [y]) j := by
  rcases List.eq_nil_or_concat out with rfl | ⟨pre, z, rfl⟩
  · rfl
  · rw [List.concat_eq_append] at hz ⊢
    by_cases hm : z.meets y
    · rw [jstep_one hm, List.append_assoc, cov_append, cov_append]
      congr 1
      have hz1 := hz z (by simp)
      unfold Ext.meets at hm
      show cov [z.with y] j = cov [z, y] j
      by_cases h1 : z.has j
      · rw [cov_yes h1, cov_yes (by unfold Ext.has at *; unfold Ext.with; dsimp only; omega)]; rfl
      · rw [cov_no h1]
        by_cases h2 : y.has j
        · rw [cov_yes h2, cov_yes (by unfold Ext.has at *; unfold Ext.with; dsimp only; omega)]
          unfold Ext.with
          dsimp only
          congr 1; omega
        · rw [cov_no h2, cov_no (by unfold Ext.has at *; unfold Ext.with; dsimp only; omega)]
    · unfold jstep
      rw [List.getLast?_concat]
      simp only [if_neg hm]
theorem jstep_pos {out : List Ext} {y : Ext} (hz : ∀ z ∈ out, 1 ≤ z.len) (hy : 1 ≤ y.len) : ∀ z ∈ jstep out y, 1 ≤ z.len := by
  unfold jstep
  intro z h
  split at h
  · rename_i w hw
    split at h
    · rcases List.mem_append.1 h with h | h
      · exact hz z (List.dropLast_subset _ h)
      · obtain rfl : z = w.with y := by simpa using h
        have := hz w (List.mem_of_getLast? hw)
        unfold Ext.with; dsimp only; omega
    · rcases List.mem_append.1 h with h | h
      · exact hz z h
      · obtain rfl : z = y := by simpa using h
        exact hy
  · rcases List.mem_append.1 h with h | h
    · exact hz z h
    · obtain rfl : z = y := by simpa using h
      exact hy
theorem cov_join : ∀ (l out : List Ext) (j : Int), (∀ z ∈ out, 1 ≤ z.len) → (∀ z ∈ l, 1 ≤ z.len) → cov (l.foldl jstep out) j = cov (out ++ l) j
  | [], out, j, _, _ => by simp
  | y :: l, out, j, ho, hl => by
    have hy := hl y (by simp)
    rw [List.foldl_cons, cov_join l _ j (jstep_pos ho hy) fun z hz => hl z (by simp [hz]), cov_append, cov_step ho hy, ← cov_append]
    simp
theorem cov_put {l : List Ext} {x : Ext} (hl : ∀ y ∈ l, y.ok) (hx : x.ok) {j : Int} (h0 : 0 ≤ j) (h1 : j < 1024) : cov (putL l x) j = if x.has j then some (x.phys + j - x.off) else cov l j := by
  have hxo := hx
  unfold Ext.ok at hxo
  have pp : ∀ (f t : Int), ∀ z ∈ partL f t l, 1 ≤ z.len := fun f t z hz => by
    obtain ⟨y, hy, hlies, rfl⟩ := partL_mem.1 hz
    unfold Ext.lies at hlies; unfold Ext.clip; dsimp only; omega
  unfold putL joinL
  rw [cov_join _ [] j (fun z hz => by cases hz) fun z hz => ?_, List.nil_append, cov_append, cov_append, cov_part, cov_part]
  · by_cases hh : x.has j
    · have hh' := hh
      unfold Ext.has at hh'
      rw [if_pos hh, if_neg (by omega), cov_yes hh]; rfl
    · have e : cov [x] j = none := by rw [cov_no hh]; rfl
      rw [if_neg hh, e]
      unfold Ext.has at hh
      by_cases hj : j < x.off
      · rw [if_pos (by omega), if_neg (by omega)]
        cases cov l j <;> rfl
      · rw [if_neg (by omega), if_pos (by omega)]; rfl
  · rcases List.mem_append.1 hz with hz | hz
    · rcases List.mem_append.1 hz with hz | hz
      · exact pp _ _ z hz
      · obtain rfl : z = x := by simpa using hz
        omega
    · exact pp _ _ z hz
theorem cov_cut {l : List Ext} {o n : Int} (hb : Blks o n) {j : Int} (h0 : 0 ≤ j) (h1 : j < 1024) : cov (cutL l o n) j = if o ≤ j ∧ j < o + n then none else cov l j := by
  unfold Blks at hb
  unfold cutL
  rw [cov_append, cov_part, cov_part]
  by_cases hh : o ≤ j ∧ j < o + n
  · rw [if_pos hh, if_neg (by omega), if_neg (by omega)]; rfl
  · rw [if_neg hh]
    by_cases hj : j < o
    · rw [if_pos (by omega), if_neg (by omega)]
      cases cov l j <;> rfl
    · rw [if_neg (by omega), if_pos (by omega)]; rfl
/-- What is seen at a block. -/
def seen (us : List Nat) (l : List Ext) (j : Nat) : Nat := match cov l j with | some u => us.getD u.toNat 0 | none => 0
theorem xput_get {us v : List Nat} {x : Ext} (hx : x.ok) (hu : x.phys + x.len ≤ us.length) {j : Nat} (hj : j < v.length) : (xput us v x)[j]? = some (if x.has j then us.getD (x.phys + j - x.off).toNat 0 else v.getD j 0) := by
  unfold Ext.ok at hx
  have ks : ∀ (n : Nat), n ≤ x.len.toNat → ((List.range n).foldl (kput us x) v).length = v.length ∧ ((List.range n).foldl (kput us x) v)[j]? = some (if x.off ≤ j ∧ (j : Int) < x.off + n then us.getD (x.phys + j - x.off).toNat 0 else v.getD j 0) := by
    intro n
    induction n with
    | zero =>
      intro _
      refine ⟨rfl, ?_⟩
      rw [if_neg (by omega), List.getD, List.range_zero, List.foldl_nil, List.getElem?_eq_getElem hj]; rfl
    | succ n ih =>
      intro hn
      obtain ⟨l1, g1⟩ := ih (by omega)
      rw [List.range_succ, List.foldl_append, List.foldl_cons, List.foldl_nil]
      generalize (List.range n).foldl (kput us x) v = v1 at l1 g1
      refine ⟨by rw [kput_len, l1], ?_⟩
      unfold kput
      rw [if_pos (by omega), List.getElem?_set]
      by_cases e : (x.off + n).toNat = j
      · rw [if_pos e, if_pos (by omega), if_pos (by omega)]
        congr 2; omega
      · rw [if_neg e, g1]
        congr 1
        by_cases c : x.off ≤ j ∧ (j : Int) < x.off + n
        · rw [if_pos c, if_pos (by omega)]
        · rw [if_neg c, if_neg (by omega)]
  unfold xput
  rw [(ks x.len.toNat (Nat.le_refl _)).2]
  congr 1
  by_cases c : x.has j
  · rw [if_pos c, if_pos (by unfold Ext.has at c; omega)]
  · rw [if_neg c, if_neg (by unfold Ext.has at c; omega)]
theorem cov_none {l : List Ext} {x : Ext} {j : Int} (h : ∀ y ∈ l, y.off + y.len ≤ x.off) (hx : x.has j) : cov l j = none := by
  induction l with
  | nil => rfl
  | cons y l ih =>
    have := h y (by simp)
    rw [cov_no (by unfold Ext.has at *; omega)]
    exact ih fun z hz => h z (by simp [hz])
theorem view_get {us : List Nat} {n : Nat} : ∀ (l : List Ext), GoodL l → (∀ x ∈ l, x.phys + x.len ≤ us.length) → ∀ j, j < n → (viewL us n l)[j]? = some (seen us l j) := by
  have key : ∀ (l pre : List Ext), GoodL (pre ++ l) → (∀ x ∈ pre ++ l, x.phys + x.len ≤ us.length) → ∀ v : List Nat, v.length = n → (∀ j, j < n → v[j]? = some (seen us pre j)) → ∀ j, j < n → (l.foldl (xput us) v)[j]? = some (seen us (pre ++ l) j) := by
    intro l
    induction l with
    | nil => intro pre g hu v hv hg j hj; rw [List.append_nil]; exact hg j hj
    | cons x l ih =>
      intro pre g hu v hv hg j hj
      have hx := g.mid
      rw [List.foldl_cons, show pre ++ x :: l = (pre ++ [x]) ++ l by simp]
      have hxl : (xput us v x).length = n := by
        have : ∀ (js : List Nat) (v : List Nat), (js.foldl (kput us x) v).length = v.length := by
          intro js
          induction js with
          | nil => intro v; rfl
          | cons k js ih => intro v; rw [List.foldl_cons, ih, kput_len]
        exact (this _ v).trans hv
      refine ih (pre ++ [x]) (by simpa using g) (by simpa using hu) _ hxl (fun i hi => ?_) j hj
      rw [xput_get hx.2.1 (hu x (by simp)) (by omega)]
      congr 1
      unfold seen
      rw [cov_append]
      by_cases c : x.has i
      · rw [if_pos c, cov_none (fun y hy => (hx.2.2.2.1 y hy).1) c, cov_yes c]; rfl
      · rw [if_neg c]
        have := hg i hi
        rw [List.getD, this]
        have e : cov [x] (i : Int) = none := by rw [cov_no c]; rfl
        unfold seen
        rw [e]
        cases cov pre (i : Int) <;> rfl
  intro l g hu j hj
  have := key l [] (by simpa using g) (by simpa using hu) (List.replicate n 0) (by simp) (fun i hi => by rw [List.getElem?_replicate, if_pos hi]; rfl) j hj
  exact this
theorem cov_lt {l : List Ext} {U : Int} (hok : ∀ x ∈ l, x.ok) (hu : ∀ x ∈ l, x.phys + x.len ≤ U) {j u : Int} (h : cov l j = some u) : 0 ≤ u ∧ u < U := by
  induction l with
  | nil => cases h
  | cons x l ih =>
    rw [cov_cons] at h
    split at h
    · rename_i hx
      cases h
      have h1 := hok x (by simp)
      have h2 := hu x (by simp)
      unfold Ext.ok at h1
      unfold Ext.has at hx
      omega
    · exact ih (fun y hy => hok y (by simp [hy])) (fun y hy => hu y (by simp [hy])) h
/-- A VOLUME BEHIND AN OP. -/
theorem vol_done {m : Sm} {b : Nat} (g : m.good b) (hb : b ≤ 1073741824) {o : Bop} (f : o.fits m.n) {root : Int} (h : Has m.ts root) : (m.done root o).vol m.ts.length = o.app (m.vol root) := by
  have c' := g.core hb f h
  have hn0 := g.c.n0
  have hn1 := g.c.n1
  have hh' : Has (m.done root o).ts m.ts.length := by show Has (m.ts ++ [_]) _; unfold Has; rw [List.length_append]; simp only [List.length_cons, List.length_nil]; omega
  obtain ⟨gt, ft⟩ := g.c.get h
  obtain ⟨gt', ft'⟩ := c'.get hh'
  have htree : (m.done root o).ts.getD (m.ts.length : Int).toNat .nil = m.tree root o := by
    show (m.ts ++ [m.tree root o]).getD _ _ = _
    rw [List.getD, Int.toNat_natCast, List.getElem?_append_right (Nat.le_refl _), Nat.sub_self]; rfl
  have hv : m.vol root = viewL m.us m.n.toNat (m.ts.getD root.toNat .nil).list := by unfold Sm.vol; rw [g.c.part h]
  have hv' : (m.done root o).vol m.ts.length = viewL (m.us ++ o.dat) m.n.toNat (m.tree root o).list := by
    unfold Sm.vol
    rw [show (m.done root o).n = m.n from rfl, c'.part hh', htree]; rfl
  rw [htree] at gt' ft'
  rw [hv, hv']
  apply List.ext_getElem?
  intro j
  have hl1 := viewL_len m.us m.n.toNat (m.ts.getD root.toNat .nil).list
  have hl2 := viewL_len (m.us ++ o.dat) m.n.toNat (m.tree root o).list
  rcases Nat.lt_or_ge j m.n.toNat with hj | hj
  rotate_left
  · rw [List.getElem?_eq_none (by omega), List.getElem?_eq_none (by rw [app_len]; omega)]
  unfold Bop.app
  rw [paint_get, view_get _ gt.1 (fun x hx => (ft x hx).2) j hj, view_get (us := m.us ++ o.dat) _ gt'.1 (fun x hx => (ft' x hx).2) j hj]
  simp only [Option.map_some, Option.some.injEq]
  have old : ∀ u, cov (m.ts.getD root.toNat .nil).list j = some u → (m.us ++ o.dat).getD u.toNat 0 = m.us.getD u.toNat 0 := fun u hu => by
    have := cov_lt gt.1.1 (fun x hx => (ft x hx).2) hu
    rw [List.getD, List.getD, List.getElem?_append_left (by omega)]
  have ge := f.1
  unfold Sm.tree
  rcases f.kd with ⟨h1, h2, h3⟩ | ⟨h1, h2⟩
  · rw [h2] at ge ⊢
    dsimp only at ge ⊢
    rw [if_pos h1]
    have hb' : Blks o.off o.ln := by unfold Blks; omega
    unfold seen
    rw [(Tcut_good gt hb').2, cov_cut hb' (by omega) (by omega)]
    by_cases c : o.off ≤ j ∧ (j : Int) < o.off + o.ln
    · rw [if_pos c, if_pos (by omega)]
      unfold Bop.val
      rw [if_neg (by omega)]
    · rw [if_neg c, if_neg (by omega)]
      split
      · rename_i u hu; exact old u hu
      · rfl
  · rw [h2] at ge ⊢
    dsimp only at ge ⊢
    rw [if_neg (show ¬ o.kd = 2 by omega)]
    have hx := g.ext hb f h1
    unfold seen
    rw [(Tput_good gt hx).2, cov_put gt.1.1 hx (by omega) (by omega)]
    by_cases c : (⟨o.off, o.data.length, m.us.length, m.gen⟩ : Ext).has j
    · rw [if_pos c]
      unfold Ext.has at c
      dsimp only at c ⊢
      rw [if_pos (by omega)]
      unfold Bop.val
      rw [if_pos h1, f.dat.1, List.getD, List.getD, List.getElem?_append_right (by omega)]
      congr 2; omega
    · rw [if_neg c]
      unfold Ext.has at c
      dsimp only at c
      rw [if_neg (by omega)]
      split
      · rename_i u hu; exact old u hu
      · rfl
theorem app_get {o : Bop} {xs : List Nat} {j : Nat} (hj : j < xs.length) : (o.app xs).getD j 0 = if o.off.toNat ≤ j ∧ j < o.off.toNat + o.rng.2.toNat then o.val j else xs.getD j 0 := by
  unfold Bop.app
  rw [List.getD, paint_get, List.getD, List.getElem?_eq_getElem hj]; rfl
/-- What may stand at a block behind a crash. -/
structure May (m : Sm) (ms : List (List Nat)) : Prop where
  len : ms.length = m.n.toNat
  sure : ∀ j l, ms[j]? = some l → (m.vol m.sure).getD j 0 ∈ l
  opn : ∀ o ∈ m.opn, ∀ j l, ms[j]? = some l → o.off.toNat ≤ j → j < o.off.toNat + o.rng.2.toNat → o.val j ∈ l
theorem replay_may {b : Nat} (hb : b ≤ 1073740000) : ∀ (os : List Bop) (ks : List Bool) (m m0 : Sm) (ms : List (List Nat)) (c : Nat), m.good c → c + os.length ≤ b → m.n = m0.n → (∀ o ∈ os, o.fits m.n) → ms.length = m.n.toNat →
    (∀ j l, ms[j]? = some l → (m.vol m.now).getD j 0 ∈ l) → (∀ o ∈ os, ∀ j l, ms[j]? = some l → o.off.toNat ≤ j → j < o.off.toNat + o.rng.2.toNat → o.val j ∈ l) → ∀ j l, ms[j]? = some l → ((m.replay os ks).vol (m.replay os ks).now).getD j 0 ∈ l
  | [], _, _, _, _, _, _, _, _, _, _, hs, _ => hs
  | _ :: _, [], _, _, _, _, _, _, _, _, _, hs, _ => hs
  | o :: os, k :: ks, m, m0, ms, c, g, hc, hn, hf, hl, hs, ho => by
    rw [Sm.replay_cons]
    simp only [List.length_cons] at hc
    cases k with
    | false =>
      rw [if_neg Bool.false_ne_true]
      exact replay_may hb os ks m m0 ms c g (by omega) hn (fun x hx => hf x (by simp [hx])) hl hs fun x hx => ho x (by simp [hx])
    | true =>
      rw [if_pos rfl]
      have f := hf o (by simp)
      refine replay_may hb os ks (m.go o) m0 ms (c + 1) (g.step (by omega) f) (by omega) hn (fun x hx => hf x (by simp [hx])) hl (fun j l hj => ?_) fun x hx => ho x (by simp [hx])
      have e : (m.go o).vol (m.go o).now = o.app (m.vol m.now) := vol_done g (by omega) f g.now
      rw [e]
      have hjl : j < (m.vol m.now).length := by rw [m.vol_len, ← hl]; exact (List.getElem?_eq_some_iff.1 hj).1
      rw [app_get hjl]
      split
      · rename_i hr; exact ho o (by simp) j l hj hr.1 hr.2
      · exact hs j l hj
/-- Behind a crash each block is one of those. -/
theorem crash_may {m : Sm} {b : Nat} (g : m.good b) (hb : b ≤ 1073730000) {ms : List (List Nat)} (hm : May m ms) (keep : List Bool) {j : Nat} {l : List Nat} (hj : ms[j]? = some l) : ((m.crash keep).vol (m.crash keep).now).getD j 0 ∈ l := by
  have g1 : ({ m with now := m.sure } : Sm).good b := by
    obtain ⟨a1, a2, a3, a4, a5, a6, a7, a8, a9, a10, a11, a12⟩ := g
    exact ⟨a1, a3, a3, a4, a5, a6, a7, a8, a9, a10, a11, a12⟩
  have e : (m.crash keep).vol (m.crash keep).now = (({ m with now := m.sure } : Sm).replay m.opn keep).vol (({ m with now := m.sure } : Sm).replay m.opn keep).now := rfl
  rw [e]
  exact replay_may (b := b + 256) (by omega) m.opn keep { m with now := m.sure } m ms b g1 (by have := g.ol; omega) rfl g.op hm.len hm.sure hm.opn j l hj
/-- What is sure now. -/
theorem May.fix {m : Sm} (h1 : m.sure = m.now) (h2 : m.opn = []) : May m ((m.vol m.now).map fun x => [x]) := by
  refine ⟨by rw [List.length_map, m.vol_len], fun j l hj => ?_, fun o ho => by rw [h2] at ho; cases ho⟩
  rw [List.getElem?_map, Option.map_eq_some_iff] at hj
  obtain ⟨x, hx, rfl⟩ := hj
  rw [h1, List.getD, hx]; simp

theorem act_do {m : Sm} {a : SAct} (hk : a.kd % 8 = 0) (h0 : (m.act a).1 = 0) : a.op.fits m.n ∧ m.opn.length < 256 ∧ (m.act a).2 = { m.go a.op with opn := m.opn ++ [a.op] } := by
  unfold Sm.act at *
  rw [if_pos hk] at h0 ⊢
  unfold Sm.doOp at *
  by_cases c1 : a.op.fits m.n
  · rw [if_neg (Decidable.not_not.2 c1)] at h0 ⊢
    by_cases c2 : m.frozen = true
    · rw [if_pos c2] at h0; cases h0
    · rw [if_neg c2] at h0 ⊢
      by_cases c3 : 256 ≤ m.opn.length
      · rw [if_pos c3] at h0; cases h0
      · rw [if_neg c3]; exact ⟨c1, by omega, rfl⟩
  · rw [if_pos c1] at h0; cases h0
theorem act_sure {m : Sm} {a : SAct} (hk : a.kd % 8 = 6 ∨ ((m.act a).1 = 0 ∧ (a.kd % 8 = 1 ∨ a.kd % 8 = 3 ∨ a.kd % 8 = 5))) : (m.act a).2.sure = (m.act a).2.now ∧ (m.act a).2.opn = [] := by
  unfold Sm.act at *
  rcases hk with k6 | ⟨h0, k1 | k3 | k5⟩
  · rw [if_neg (by omega), if_neg (by omega), if_neg (by omega), if_neg (by omega), if_neg (by omega), if_neg (by omega), if_pos k6]; exact ⟨rfl, rfl⟩
  · rw [if_neg (by omega), if_pos k1]; exact ⟨rfl, rfl⟩
  · rw [if_neg (by omega), if_neg (by omega), if_neg (by omega), if_pos k3] at h0 ⊢
    unfold Sm.snap at *
    by_cases c1 : a.id < 1
    · rw [if_pos c1] at h0; cases h0
    rw [if_neg c1] at h0 ⊢
    by_cases c2 : (m.find a.id).2 = 0
    · rw [if_pos c2] at h0; cases h0
    rw [if_neg c2] at h0 ⊢
    by_cases c3 : 32 ≤ m.snaps.length
    · rw [if_pos c3] at h0; cases h0
    rw [if_neg c3]; exact ⟨rfl, rfl⟩
  · rw [if_neg (by omega), if_neg (by omega), if_neg (by omega), if_neg (by omega), if_neg (by omega), if_pos k5] at h0 ⊢
    unfold Sm.rollback at *
    dsimp only at h0 ⊢
    by_cases c1 : (m.find a.id).2 ≠ 0
    · rw [if_pos c1] at h0; exact absurd h0 c1
    · rw [if_neg c1] at h0
      by_cases c2 : m.frozen = true
      · rw [if_pos c2] at h0; cases h0
      · rw [if_neg (by rintro (e | e) <;> contradiction)]; exact ⟨rfl, rfl⟩
theorem act_keep {m : Sm} {a : SAct} (h1 : ¬ (a.kd % 8 = 0 ∧ (m.act a).1 = 0)) (h2 : ¬ (a.kd % 8 = 6 ∨ ((m.act a).1 = 0 ∧ (a.kd % 8 = 1 ∨ a.kd % 8 = 3 ∨ a.kd % 8 = 5)))) : (m.act a).2.sure = m.sure ∧ (m.act a).2.opn = m.opn := by
  unfold Sm.act at *
  by_cases k0 : a.kd % 8 = 0
  · rw [if_pos k0] at h1 ⊢
    unfold Sm.doOp at *
    by_cases c1 : a.op.fits m.n
    · rw [if_neg (Decidable.not_not.2 c1)] at h1 ⊢
      by_cases c2 : m.frozen = true
      · rw [if_pos c2]; exact ⟨rfl, rfl⟩
      · rw [if_neg c2] at h1 ⊢
        by_cases c3 : 256 ≤ m.opn.length
        · rw [if_pos c3]; exact ⟨rfl, rfl⟩
        · rw [if_neg c3] at h1; exact absurd ⟨k0, rfl⟩ h1
    · rw [if_pos c1]; exact ⟨rfl, rfl⟩
  rw [if_neg k0] at h2 ⊢
  by_cases k1 : a.kd % 8 = 1
  · rw [if_pos k1] at h2; exact absurd (.inr ⟨rfl, .inl k1⟩) h2
  rw [if_neg k1] at h2 ⊢
  by_cases k2 : a.kd % 8 = 2
  · rw [if_pos k2]; exact ⟨rfl, rfl⟩
  rw [if_neg k2] at h2 ⊢
  by_cases k3 : a.kd % 8 = 3
  · rw [if_pos k3] at h2 ⊢
    unfold Sm.snap at *
    by_cases c1 : a.id < 1
    · rw [if_pos c1]; exact ⟨rfl, rfl⟩
    rw [if_neg c1] at h2 ⊢
    by_cases c2 : (m.find a.id).2 = 0
    · rw [if_pos c2]; exact ⟨rfl, rfl⟩
    rw [if_neg c2] at h2 ⊢
    by_cases c3 : 32 ≤ m.snaps.length
    · rw [if_pos c3]; exact ⟨rfl, rfl⟩
    rw [if_neg c3] at h2; exact absurd (.inr ⟨rfl, .inr (.inl k3)⟩) h2
  rw [if_neg k3] at h2 ⊢
  by_cases k4 : a.kd % 8 = 4
  · rw [if_pos k4]; unfold Sm.delete; split <;> exact ⟨rfl, rfl⟩
  rw [if_neg k4] at h2 ⊢
  by_cases k5 : a.kd % 8 = 5
  · rw [if_pos k5] at h2 ⊢
    unfold Sm.rollback at *
    dsimp only at h2 ⊢
    by_cases c1 : (m.find a.id).2 ≠ 0
    · rw [if_pos (.inl c1)]; exact ⟨rfl, rfl⟩
    · by_cases c2 : m.frozen = true
      · rw [if_pos (.inr c2)]; exact ⟨rfl, rfl⟩
      · rw [if_neg c1, if_neg c2] at h2; exact absurd (.inr ⟨rfl, .inr (.inr k5)⟩) h2
  rw [if_neg k5] at h2 ⊢
  by_cases k6 : a.kd % 8 = 6
  · exact absurd (.inl k6) h2
  rw [if_neg k6]; exact ⟨rfl, rfl⟩
/-- .. while nothing is done. -/
theorem May.keep {m m' : Sm} {b : Nat} {ms : List (List Nat)} (hm : May m ms) (g : m.good b) (gr : m.Grow m') (h1 : m'.sure = m.sure) (h2 : m'.opn = m.opn) : May m' ms :=
  ⟨by rw [gr.1]; exact hm.len, fun j l hj => by rw [h1, vol_grow g.c g.sure gr]; exact hm.sure j l hj, fun o ho => hm.opn o (h2 ▸ ho)⟩
/-- What may be, and what was seen now. -/
def addM (ms : List (List Nat)) (off k : Nat) (f : Nat → Nat) : List (List Nat) := ms.mapIdx fun j l => if off ≤ j ∧ j < off + k then l ++ [f j] else l
theorem addM_get (ms : List (List Nat)) (off k : Nat) (f : Nat → Nat) (j : Nat) : (addM ms off k f)[j]? = (ms[j]?).map fun l => if off ≤ j ∧ j < off + k then l ++ [f j] else l := by simp [addM, List.getElem?_mapIdx]
theorem addM_len (ms : List (List Nat)) (off k : Nat) (f : Nat → Nat) : (addM ms off k f).length = ms.length := by simp [addM]
theorem addM_zero (ms : List (List Nat)) (off : Nat) (f : Nat → Nat) : addM ms off 0 f = ms := by
  apply List.ext_getElem?
  intro j
  rw [addM_get]
  cases ms[j]? with
  | none => rfl
  | some l => simp only [Option.map_some]; rw [if_neg (by omega)]
theorem addM_succ {ms : List (List Nat)} {off k : Nat} {f : Nat → Nat} {l : List Nat} (h : (addM ms off k f)[off + k]? = some l) : (addM ms off k f).set (off + k) (l ++ [f (off + k)]) = addM ms off (k + 1) f := by
  apply List.ext_getElem?
  intro j
  rw [List.getElem?_set]
  by_cases e : off + k = j
  · subst e
    rw [if_pos rfl, if_pos (List.getElem?_eq_some_iff.1 h).1, addM_get]
    rw [addM_get] at h
    cases hm : ms[off + k]? with
    | none => rw [hm] at h; cases h
    | some l' =>
      rw [hm] at h
      simp only [Option.map_some, Option.some.injEq] at h ⊢
      rw [if_neg (by omega)] at h
      rw [if_pos (by omega), h]
  · rw [if_neg e, addM_get, addM_get]
    cases ms[j]? with
    | none => rfl
    | some l' =>
      simp only [Option.map_some]
      by_cases c : off ≤ j ∧ j < off + k
      · rw [if_pos c, if_pos (by omega)]
      · rw [if_neg c, if_neg (by omega)]
theorem May.add {m : Sm} {b : Nat} (g : m.good b) (hb : b ≤ 1073741824) {ms : List (List Nat)} (hm : May m ms) {o : Bop} (f : o.fits m.n) {m' : Sm} (hm' : m' = { m.go o with opn := m.opn ++ [o] }) : May m' (addM ms o.off.toNat o.rng.2.toNat fun j => (m'.vol m'.now).getD j 0) := by
  have gr : m.Grow m' := by rw [hm']; exact go_grow m o
  have hv : m'.vol m'.now = o.app (m.vol m.now) := by rw [hm']; exact vol_done g hb f g.now
  refine ⟨by rw [addM_len, gr.1]; exact hm.len, fun j l hj => ?_, fun o' ho' j l hj h1 h2 => ?_⟩
  · rw [addM_get, Option.map_eq_some_iff] at hj
    obtain ⟨l', hl', rfl⟩ := hj
    have e : m'.sure = m.sure := by rw [hm']; rfl
    rw [e, vol_grow g.c g.sure gr]
    have := hm.sure j l' hl'
    split
    · exact List.mem_append.2 (.inl this)
    · exact this
  · rw [addM_get, Option.map_eq_some_iff] at hj
    obtain ⟨l', hl', rfl⟩ := hj
    have e : m'.opn = m.opn ++ [o] := by rw [hm']
    rw [e] at ho'
    rcases List.mem_append.1 ho' with ho' | ho'
    · have := hm.opn o' ho' j l' hl' h1 h2
      split
      · exact List.mem_append.2 (.inl this)
      · exact this
    · obtain rfl : o' = o := by simpa using ho'
      rw [if_pos ⟨h1, h2⟩, hv, app_get (by rw [m.vol_len, ← hm.len]; exact (List.getElem?_eq_some_iff.1 hl').1), if_pos ⟨h1, h2⟩]
      simp
/-! How it stands. -/
def MayAt (own : Nat → Nat) (h : AHeap) (mid : Nat) (ms : List (List Nat)) : Prop := own mid = 21 ∧ ∃ vs, h.get mid = .cells vs .rw ∧ All2 (fun l v => Words (fun j => own j = 0) h l v) ms vs
def durT (t : Nat) : Prop := shT t ∨ t = 21
section
variable {T : Nat → Prop} {own own' own'' : Nat → Nat} {h h' h'' : AHeap} {S S' : Nat → Prop} {m : Sm} {id mid : Nat} {v w : Value} {b : Nat} {ms : List (List Nat)}
theorem MayAt.lt (a : MayAt own h mid ms) : mid < h.next := by obtain ⟨_, vs, hg, _⟩ := a; exact AHeap.lt_of_alive h (by rw [hg]; simp)
theorem MayAt.ks (a : MayAt own h mid ms) (k : Ks T own h own' h') (h0 : ¬ T 0) (h21 : ¬ T 21) : MayAt own' h' mid ms := by
  have hl := a.lt
  obtain ⟨ho, vs, hg, ha⟩ := a
  exact ⟨(k.tg h21 mid ho hl).1, vs, (k.tg h21 mid ho hl).2.trans hg, ha.mono fun l v _ _ hw => hw.mono fun j hj hlt => k.tg h0 j hj hlt⟩
/-- One list more stands in the place of another. -/
theorem MayAt.set (a : MayAt own h mid ms) {i : Nat} {l : List Nat} {w : Value} (hw : Words (fun j => own j = 0) h l w) {vs : List Value} (hg : h.get mid = .cells vs .rw) : MayAt own (h.set mid (.cells (vs.set i w) .rw)) mid (ms.set i l) := by
  have hl := a.lt
  obtain ⟨ho, vs', hg', ha⟩ := a
  rw [hg] at hg'
  cases hg'
  have keep : ∀ {l : List Nat} {v : Value}, Words (fun j => own j = 0) h l v → Words (fun j => own j = 0) (h.set mid (.cells (vs.set i w) .rw)) l v := fun hw => hw.mono fun j hj _ => ⟨hj, AHeap.get_set_ne _ _ (by rintro rfl; rw [ho] at hj; cases hj)⟩
  exact ⟨ho, _, AHeap.get_set_self _ _ hl, (ha.mono fun _ _ _ _ e => keep e).set (keep hw)⟩
theorem MayAt.vlen (a : MayAt own h mid ms) {vs : List Value} (hg : h.get mid = .cells vs .rw) : vs.length = ms.length := by
  obtain ⟨ho, vs', hg', ha⟩ := a
  rw [hg] at hg'
  cases hg'
  exact ha.1.symm
theorem MayAt.elem (a : MayAt own h mid ms) {vs : List Value} (hg : h.get mid = .cells vs .rw) {i : Nat} {l : List Nat} (hi : ms[i]? = some l) : ∃ v, vs[i]? = some v ∧ Words (fun j => own j = 0) h l v := by
  obtain ⟨ho, vs', hg', ha⟩ := a
  rw [hg] at hg'
  cases hg'
  exact ha.get hi
end
end Go.Proofs.YtedpfdflolkpeaaGreatDoor
