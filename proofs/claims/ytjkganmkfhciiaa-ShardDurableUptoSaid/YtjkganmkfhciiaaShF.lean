/- shard: New, and a crash. -/
import Derived.Test.YtjkganmkfhciiaaShE
set_option linter.unusedSimpArgs false
set_option linter.unusedVariables false
set_option linter.unnecessarySimpa false
set_option maxRecDepth 100000
namespace Go.Proofs.Ytjkganmkfhciiaa
open Go.AM

theorem Sm.replay_nil (m : Sm) (os : List Bop) : m.replay os [] = m := by cases os <;> rfl
theorem Sm.replay_cons (m : Sm) (o : Bop) (os : List Bop) (k : Bool) (ks : List Bool) : m.replay (o :: os) (k :: ks) = (if k then m.go o else m).replay os ks := rfl
theorem Sm.go_opn (m : Sm) (o : Bop) : (m.go o).opn = m.opn := rfl
theorem Sm.go_n (m : Sm) (o : Bop) : (m.go o).n = m.n := rfl
theorem Sm.good.step {m : Sm} {b : Nat} (g : m.good b) (hb : b < 1073741824) {o : Bop} (f : o.fits m.n) : (m.go o).good (b + 1) := by
  have := f.dat.2; have := g.b1; have := g.b2
  exact (g.mono (Nat.le_succ b)).go (by omega) f (k := m.opn.length) (by omega) (by omega) m.opn rfl g.ol g.op
section
variable {own own' own'' : Nat → Nat} {h h' h'' : AHeap} {S : Nat → Prop} {m : Sm} {id : Nat} {v : Value} {b : Nat}
theorem snew_ok {n : Int} (hn : inI n) : Does Try.prog 8 #[.int .i64 n] h (fun u h' => h.quiet h' ∧ ((0 ≤ n ∧ n ≤ 1024 ∧ ∃ id own', u = .tuple #[.pointer (some ⟨id, 0, none⟩), .int .i64 0] ∧ h.next ≤ id ∧ ShAt own' h' id (.new n) ∧ Ks (fun _ => False) own h own' h') ∨ (¬ (0 ≤ n ∧ n ≤ 1024) ∧ u = .tuple #[.pointer none, .int .i64 1]))) := by
  refine spec_go mixed Try.func8 rfl Try.results8 (n := Try.f8.ntmps) (by kernel_rfl) (by simp) ?_
  simp only [go_sem, simprocAttr]
  by_cases c1 : n < 0
  · simp only [go_sem, simprocAttr, c1, decide_true]
    omega
  · by_cases c2 : 1024 < n
    · simp only [go_sem, simprocAttr, c1, c2, decide_true, decide_false]
      omega
    · simp only [go_sem, simprocAttr, c1, c2, decide_false]
      refine cl_spec (newForest_ok (own := own)) (fun _ _ _ hc => absurd hc (by decide +kernel)) ?_
      rintro u k ⟨rfl, q, fo⟩
      simp only [go_sem, simprocAttr]
      have q2 : h.quiet ((k.push (.map [] 0)).push (.cells (shC (.new n) (h.next + 1) (.slice none 0 0) (.slice none 0 0) k.next (.slice none 0 0)) .rw)) := (q.push' _).push' _
      obtain ⟨ow, how⟩ : ∃ ow : Nat → Nat, ow = fun j => if j < k.next then bump own h 1 j else if j = k.next then 10 else 6 := ⟨_, rfl⟩
      have o1 : ∀ j, j < k.next → ow j = bump own h 1 j := fun j hj => by rw [how]; exact if_pos hj
      have o2 : ow k.next = 10 := by rw [how]; simp
      have o3 : ow (k.next + 1) = 6 := by rw [how]; simp only; rw [if_neg (by omega), if_neg (by omega)]
      refine ⟨q2, .inl ⟨by omega, by omega, k.next + 1, ow, rfl, by have := q.1; omega, ?_, ?_⟩⟩
      · refine ⟨o3, h.next + 1, .slice none 0 0, .slice none 0 0, k.next, .slice none 0 0, by simp only [go_sem, simprocAttr, shC, Sm.new], ?_⟩
        refine ⟨fo.mono (by simp only [AHeap.next_push]; omega) (fun t _ j hj hl => ⟨(o1 j hl).trans hj, ?_⟩), .nil _ _ _, ⟨.nil _ _ _ _, fun j e => by cases e⟩, ⟨o2, [], 0, by simp only [go_sem, simprocAttr], rfl⟩, ⟨fun x hx => (by cases hx), .inl ⟨rfl, rfl⟩⟩⟩
        rw [AHeap.get_push_lt _ _ (by simp; omega), AHeap.get_push_lt _ _ hl]
      · exact ⟨q2.1, fun j hj => ⟨(o1 j (Nat.lt_of_lt_of_le hj q.1)).trans (bump_lt hj), fun _ => q2.2 j hj⟩⟩
theorem sCrash_ok (a : ShAt own h id m) (g : m.good b) (hb : b ≤ 1073740000) {ks : List Bool} {kv : Value} (hk : IsSl .bool S h ks kv) (hS : ∀ j, S j → own j ≠ 1 ∧ own j ≠ 6 ∧ own j ≠ 7) : Does Try.prog 21 #[.pointer (some ⟨id, 0, none⟩), kv] h
    (fun u h' => u = .tuple #[] ∧ ∃ own', ShAt own' h' id (m.crash ks) ∧ Ks shT own h own' h') := by
  obtain ⟨ak, ck, rfl⟩ := hk.shape
  refine spec_go mixed Try.func21 rfl Try.results21 (n := Try.f21.ntmps) (by kernel_rfl) (by simp) ?_
  simp only [go_sem, simprocAttr]
  refine cl_spec (sok_ok a) (fun _ _ _ hc => absurd hc (by decide +kernel)) ?_
  rintro u k' ⟨rfl, rfl⟩
  have hl := a.lt
  obtain ⟨ho, fid, uv, ov, mid, rv, hg, c⟩ := a
  unfold shC at hg
  obtain ⟨ao, co, rfl⟩ := c.op.slz.shape
  simp only [go_sem, simprocAttr, hg, AHeap.get_set_self _ _ hl]
  obtain ⟨k1, hk1⟩ : ∃ k1, k'.set id (.cells [.int .i64 m.n, .pointer (some ⟨fid, 0, none⟩), uv, .int .i64 m.gen, .int .i64 m.sure, .int .i64 m.sure, .slice ao m.opn.length co, .map (some mid), rv, .bool m.frozen] .rw) = k1 := ⟨_, rfl⟩
  rw [hk1]
  have k01 : Ks (· = 6) own k' own k1 := by rw [← hk1]; exact Ks.set (T := (· = 6)) ho _
  have a1 : ShAt own k1 id { m with now := m.sure } := by
    have c1 := c.ks k01 (by omega)
    exact ⟨ho, fid, uv, _, mid, rv, by rw [← hk1]; exact AHeap.get_set_self _ _ hl, c1.fo, c1.un, c1.op, c1.mp, c1.od⟩
  clear hk1
  have op1 := c.op.ks k01 (by decide) (by decide)
  have g1 : ({ m with now := m.sure } : Sm).good b := by
    obtain ⟨x1, x2, x3, x4, x5, x6, x7, x8, x9, x10, x11, x12⟩ := g
    exact ⟨x1, x3, x3, x4, x5, x6, x7, x8, x9, x10, x11, x12⟩
  have kK : Ks (fun t => t = 1 ∨ t = 6 ∨ t = 7) own k' own k1 := k01.weaken fun t e => .inr (.inl e)
  refine go_cutb (fun ρ k => ∃ (ow : Nat → Nat) (c : Nat), ρ 0 = .pointer (some ⟨id, 0, none⟩) ∧ ShAt ow k id (({ m with now := m.sure } : Sm).replay m.opn ks) ∧ (({ m with now := m.sure } : Sm).replay m.opn ks).good c ∧ Ks (fun t => t = 1 ∨ t = 6 ∨ t = 7) own k' ow k) ?_ ?_
  · refine go_loop (fun z ρ k => ∃ (i : Nat) (cur : Sm) (ow : Nat → Nat), i ≤ m.opn.length ∧ z = m.opn.length - i ∧ cur.replay (m.opn.drop i) (ks.drop i) = ({ m with now := m.sure } : Sm).replay m.opn ks ∧ cur.opn = m.opn ∧ cur.n = m.n ∧ cur.good (b + i) ∧
      ShAt ow k id cur ∧ Ks (fun t => t = 1 ∨ t = 6 ∨ t = 7) own k' ow k ∧ ρ 0 = .pointer (some ⟨id, 0, none⟩) ∧ ρ 1 = .slice ak ks.length ck ∧ ρ 19 = .slice ao m.opn.length co ∧ ρ 20 = .int .i64 m.opn.length ∧ ρ 21 = .int .i64 i)
      m.opn.length ⟨0, _, own, by omega, by omega, rfl, rfl, rfl, g1, a1, kK, by simp only [go_sem, simprocAttr]⟩ ?_
    rintro z ρ k ⟨i, cur, ow, hi, rfl, hrep, hopn, hcn, gc, ac, kk, r0, r1, r19, r20, r21⟩
    simp only [go_sem, simprocAttr, r0, r1, r19, r20, r21]
    refine cnd_decide (fun hy => ?_) (fun hy => ?_)
    · have h1 : i < m.opn.length := by omega
      have e21 : IntKind.i64.wrap ((i : Int) + 1) = ((i + 1 : Nat) : Int) := by have := g.ol; rw [wi64] <;> omega
      obtain ⟨jb, off, sp, cc, md, o, lv, hA, hSb, hgo, hoi, hw, hin, hle, hdt⟩ := IsSl.atO (c.op.ks kk (by decide) (by decide)).slz h1
      have hdr : m.opn.drop i = o :: m.opn.drop (i + 1) := drop_cons hoi
      have hof : o.fits cur.n := by rw [hcn]; exact g.op o (List.mem_of_getElem? hoi)
      obtain ⟨al, cl_, rfl⟩ := hw.shape
      have hwb := hw.bound
      have hib : b + i < 1073741824 := by have := g.ol; omega
      subst hA
      simp only [go_sem, simprocAttr, r0, r1, r19, r20, r21, hgo, h1, hle, hdt, bo_len, bo_take, bo_one, bo_put]
      obtain ⟨k2, hk2⟩ : ∃ k2, k.push (.cells (o.cs (.slice al o.data.length cl_)) .rw) = k2 := ⟨_, rfl⟩
      have q2 : k.quiet k2 := by rw [← hk2]; exact .push _ _
      have gt2 : k2.get k.next = .cells (o.cs (.slice al o.data.length cl_)) .rw := by rw [← hk2]; exact AHeap.get_push_self _ _
      rw [hk2]
      clear hk2
      have ac2 := ac.quiet q2 0
      have kk2 := kk.trans (Ks.quiet q2 0)
      obtain ⟨ow2, how2⟩ : ∃ ow2, bump ow k 0 = ow2 := ⟨_, rfl⟩
      have hw2 : Words (fun j => ow2 j = 8 ∨ ow2 j = 9) k2 o.data (.slice al o.data.length cl_) := (hwb.quiet q2).mono fun j hj _ => ⟨by rw [← how2, bump_lt hj.2]; exact hj.1, rfl⟩
      rw [how2] at ac2 kk2
      clear how2
      -- behind this round
      have next : ∀ (kf : AHeap) (owf : Nat → Nat) (cur' : Sm) (ρ' : Env), cur'.replay (m.opn.drop (i + 1)) (ks.drop (i + 1)) = ({ m with now := m.sure } : Sm).replay m.opn ks → cur'.opn = m.opn → cur'.n = m.n → cur'.good (b + (i + 1)) → ShAt owf kf id cur' → Ks (fun t => t = 1 ∨ t = 6 ∨ t = 7) own k' owf kf →
          ρ' 0 = .pointer (some ⟨id, 0, none⟩) → ρ' 1 = .slice ak ks.length ck → ρ' 19 = (.slice (some ⟨jb, off, sp⟩) m.opn.length co) → ρ' 20 = .int .i64 m.opn.length → ρ' 21 = .int .i64 (i + 1 : Nat) → ∃ m', m' < m.opn.length - i ∧ ∃ (i : Nat) (cur : Sm) (ow : Nat → Nat), i ≤ m.opn.length ∧ m' = m.opn.length - i ∧ cur.replay (m.opn.drop i) (ks.drop i) = ({ m with now := m.sure } : Sm).replay m.opn ks ∧ cur.opn = m.opn ∧ cur.n = m.n ∧ cur.good (b + i) ∧
      ShAt ow kf id cur ∧ Ks (fun t => t = 1 ∨ t = 6 ∨ t = 7) own k' ow kf ∧ ρ' 0 = .pointer (some ⟨id, 0, none⟩) ∧ ρ' 1 = .slice ak ks.length ck ∧ ρ' 19 = (.slice (some ⟨jb, off, sp⟩) m.opn.length co) ∧ ρ' 20 = .int .i64 m.opn.length ∧ ρ' 21 = .int .i64 i :=
        fun kf owf cur' ρ' e1 e2 e3 e4 e5 e6 e7 e8 e9 e10 e11 => ⟨m.opn.length - (i + 1), by omega, i + 1, cur', owf, by omega, rfl, e1, e2, e3, e4, e5, e6, e7, e8, e9, e10, e11⟩
      by_cases hki : i < ks.length
      · have hki' : (i : Int) < ks.length := by omega
        have hkk := hk.bound.mono (S' := fun j => S j ∧ j < k'.next) (h' := k2) fun j hj hl => ⟨hj, (kk2.2 j hl).2 (by have := hS j hj.1; omega)⟩
        obtain ⟨bk, fk, sk, ck_, mk, ub, y, hAk, hSk, hgk, hyi, hyr, hyd⟩ := hkk.at1 rfl hki
        subst hAk
        have hub : ub = .bool y := by have := hyr; simpa [Rep.bool] using this
        subst hub
        have hkd : ks.drop i = y :: ks.drop (i + 1) := drop_cons hyi
        rw [hdr, hkd, Sm.replay_cons] at hrep
        simp only [go_sem, simprocAttr, r0, r1, r19, r20, r21, hki, hki', decide_true, hgk, hyd]
        cases y with
        | true =>
          have ac0 := ac2
          obtain ⟨ho2, fid2, uv2, ov2, mid2, rv2, hg2, c2⟩ := ac2
          unfold shC at hg2
          simp only [go_sem, simprocAttr, r0, r19, r20, r21, hg2, gt2, bo_len, bo_take]
          refine cl_spec (sdone_ok ac0 gc (Nat.le_of_lt hib) gc.now hof hin hw2 (fun j hj => by omega)) (fun _ _ _ hc => absurd hc (by decide +kernel)) ?_
          rintro u k3 ⟨rfl, ow3, ac3, k23⟩
          have hl3 := ac3.lt
          obtain ⟨ho3, fid3, uv3, ov3, mid3, rv3, hg3, c3⟩ := ac3
          unfold shC at hg3
          simp only [go_sem, simprocAttr, r0, r19, r20, r21, hg3, e21]
          have k34 : Ks (· = 6) ow3 k3 ow3 (k3.set id (.cells (shC (cur.go o) fid3 uv3 ov3 mid3 rv3) .rw)) := .set (T := (· = 6)) ho3 _
          have c4 := c3.ks k34 (by omega)
          rw [if_pos rfl] at hrep
          refine Hold.mk (next _ ow3 (cur.go o) _ hrep hopn hcn (gc.step hib hof) ⟨ho3, fid3, _, _, mid3, rv3, AHeap.get_set_self _ _ hl3, ⟨c4.fo, c4.un, c4.op, c4.mp, c4.od⟩⟩ (kk2.trans (k23.trans (k34.weaken fun t e => .inr (.inl e)))) ?_ ?_ ?_ ?_ ?_)
          all_goals simp only [go_sem, simprocAttr, r0, r1, r19, r20]
        | false =>
          simp only [go_sem, simprocAttr, r21, e21]
          rw [if_neg Bool.false_ne_true] at hrep
          refine Hold.mk (next _ ow2 cur _ hrep hopn hcn (gc.mono (by omega)) ac2 kk2 ?_ ?_ ?_ ?_ ?_)
          all_goals simp only [go_sem, simprocAttr, r0, r1, r19, r20]
      · have hki' : ¬ (i : Int) < ks.length := by omega
        have hkd : ks.drop i = [] := List.drop_eq_nil_of_le (by omega)
        have hkd' : ks.drop (i + 1) = [] := List.drop_eq_nil_of_le (by omega)
        rw [hkd, Sm.replay_nil] at hrep
        simp only [go_sem, simprocAttr, r0, r1, r19, r20, r21, hki, hki', decide_false, e21]
        refine Hold.mk (next _ ow2 cur _ (by rw [hkd', Sm.replay_nil]; exact hrep) hopn hcn (gc.mono (by omega)) ac2 kk2 ?_ ?_ ?_ ?_ ?_)
        all_goals simp only [go_sem, simprocAttr, r0, r1, r19, r20]
    · have hi' : i = m.opn.length := by omega
      subst hi'
      rw [List.drop_length] at hrep
      simp only [go_sem, simprocAttr, r0]
      refine Hold.mk ⟨ow, b + m.opn.length, r0, ?_, ?_, kk⟩
      · rw [← hrep]; exact ac
      · rw [← hrep]; exact gc
  · rintro ρ k ⟨ow, cc, r0, ac, gc, kk⟩
    simp only [go_sem, simprocAttr, r0]
    refine cl_spec (sFlush_ok ac) (fun _ _ _ hc => absurd hc (by decide +kernel)) ?_
    rintro u k2 ⟨rfl, a2, k62⟩
    have hl2 := a2.lt
    obtain ⟨ho2, fid2, uv2, ov2, mid2, rv2, hg2, c2⟩ := a2
    unfold shC at hg2
    simp only [go_sem, simprocAttr, r0, hg2]
    have k23 : Ks (· = 6) ow k2 ow (k2.set id (.cells (shC (m.crash ks) fid2 uv2 ov2 mid2 rv2) .rw)) := .set (T := (· = 6)) ho2 _
    have c3 := c2.ks k23 (by omega)
    refine ⟨ow, ⟨ho2, fid2, _, _, mid2, rv2, AHeap.get_set_self _ _ hl2, ⟨c3.fo, c3.un, c3.op, c3.mp, c3.od⟩⟩, ?_⟩
    exact (kk.weaken fun t e => by unfold shT; omega).trans ((k62.weaken fun t e => by subst e; unfold shT; decide).trans (k23.weaken fun t e => by subst e; unfold shT; decide))
end
end Go.Proofs.Ytjkganmkfhciiaa
