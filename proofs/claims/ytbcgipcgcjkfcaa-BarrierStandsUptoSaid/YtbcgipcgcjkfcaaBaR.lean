/- barrier: the world of the laws, as it stands in the heap: what happens. -/
import Derived.Test.YtbcgipcgcjkfcaaBaQ
set_option linter.unusedSimpArgs false
set_option linter.unusedVariables false
set_option linter.unnecessarySimpa false
set_option maxRecDepth 100000
namespace Go.Proofs.Ytbcgipcgcjkfcaa
open Go.AM

section
variable {own own' own'' : Nat → Nat} {h h' h'' : AHeap} {pc id : Nat} {ps : List Nat} {vg vo vn vi : Value} {w : Wd} {Z : Nat → Prop}

/-- A list without the one at a place, made anew: append(append(nil, l[:i]..), l[i+1:]..). -/
theorem OwnL.cut {r : Rep (Int × Int × Int)} {xs : List (Int × Int × Int)} {a : Option Addr} {n c : Nat} (ho : OwnL r Z h xs (.slice a n c)) (hpl : ∀ {S k k' x cs}, r.R S k x cs → r.R (fun _ => False) k' x cs) (hsz : r.sz = 3) (hl : xs.length ≤ 1024) {i : Nat} (hi : i < n) :
    ∃ a1 c1 css1 w0 k0 a2 c2 css2 w1 k1, slI 3 a n c (some 0) (some (i : Int)) = some (.slice a1 i c1) ∧ acells h 3 i (.slice a1 i c1) = some css1 ∧ aappend h 3 24 (.slice none 0 0) i css1 = some (w0, k0) ∧
      slI 3 a n c (some ((i + 1 : Nat) : Int)) (some (n : Int)) = some (.slice a2 (n - (i + 1)) c2) ∧ acells k0 3 (n - (i + 1)) (.slice a2 (n - (i + 1)) c2) = some css2 ∧ aappend k0 3 24 w0 (n - (i + 1)) css2 = some (w1, k1) ∧
      css1.all one = true ∧ css2.all one = true ∧ h.quiet k0 ∧ h.quiet k1 ∧ OwnL r (h.next ≤ ·) k1 (xs.eraseIdx i) w1 ∧ (∃ p q s, w0 = .slice p q s) ∧ ∃ p q s, w1 = .slice p q s := by
  have hs := ho.sl
  have hn := hs.len
  obtain ⟨a1, c1, s1, i1⟩ := hs.slice 3 hsz (Nat.zero_le i) (Nat.le_of_lt hi)
  simp only [Nat.sub_zero, List.drop_zero] at s1 i1
  obtain ⟨css1, e1, l1⟩ := i1.acells 3 hsz
  have p1 : All2 (r.R (fun _ => False) h) (xs.take i) css1 := l1.mono fun _ _ _ _ e => hpl e
  have t1 : (xs.take i).length = i := by rw [List.length_take]; omega
  obtain ⟨w0, k0, ap0, L0, f0, n0⟩ := (Lst.nil r 0 (fun _ => False) h).app (ys := xs.take i) (css' := css1) 3 hsz (bytes := 24) (n := i) (p1.mono fun _ _ _ _ e => r.weaken e fun _ e => e.elim) t1 (by simp; omega) (by simp; omega) (Nat.zero_le _)
  have Q0 : h.quiet k0 := f0.quiet (fun j _ e => by cases e)
  obtain ⟨a2, c2, s2, i2⟩ := hs.slice 3 hsz (show i + 1 ≤ n by omega) (Nat.le_refl n)
  have t2 : ((xs.drop (i + 1)).take (n - (i + 1))) = xs.drop (i + 1) := List.take_of_length_le (by rw [List.length_drop]; omega)
  rw [t2] at i2
  obtain ⟨css2, e2, l2⟩ := (i2.quiet Q0).acells 3 hsz
  have p2 : All2 (r.R (fun _ => False) k0) (xs.drop (i + 1)) css2 := l2.mono fun _ _ _ _ e => hpl e
  have t3 : (xs.drop (i + 1)).length = n - (i + 1) := by rw [List.length_drop]; omega
  rw [List.nil_append] at L0
  obtain ⟨w1, k1, ap1, L1, f1, n1⟩ := L0.app (ys := xs.drop (i + 1)) (css' := css2) 3 hsz (bytes := 24) (n := n - (i + 1)) (p2.mono fun _ _ _ _ e => r.weaken e fun _ e => e.elim) t3 (by rw [t1]; omega) (by rw [t1]; omega) (Nat.zero_le _)
  have b0 : ∀ j, blk w0 = some j → h.next ≤ j := fun j hj => by
    rcases n0 with n0 | ⟨ob, n0, hge⟩
    · rw [n0] at hj; cases hj
    · rw [n0] at hj; cases hj; exact hge
  have Q1 : h.quiet k1 := Fw.behind Q0 f1 b0
  obtain ⟨b1, d1, r1, _⟩ := L0.len
  obtain ⟨b2, d2, r2, _⟩ := L1.len
  refine ⟨a1, c1, _, w0, k0, a2, c2, _, w1, k1, s1, e1, ap0, s2, e2, ap1, p1.ones, p2.ones, Q0, Q1, ⟨?_, fun j hj => ?_⟩, ⟨_, _, _, r1⟩, _, _, _, r2⟩
  · rw [List.eraseIdx_eq_take_drop_succ]; exact L1
  · rcases n1 with n1 | ⟨ob, n1, hge⟩
    · rw [n1] at hj; exact b0 j hj
    · rw [n1] at hj; cases hj; exact Nat.le_trans Q0.1 hge
theorem cnd_gen {Γ : Cx} {x y : Code} {k : List Fr} {ρ : Env} {h : AHeap} {v : Value} (H : ∀ h', h' = h → cnd Γ x y k ρ h' v) : cnd Γ x y k ρ h v := H h rfl
theorem and_one (x : Int) : IntKind.i64.wrap (((BitVec.ofInt 64 x &&& 1#64).toNat : Nat) : Int) = x % 2 := by
  rw [BitVec.toNat_and, BitVec.toNat_ofInt, show (1#64).toNat = 1 from rfl, Nat.and_one_is_mod, wi64]
  all_goals omega
theorem rOrd_plain {S : Nat → Prop} {k k' : AHeap} {x : Int × Int × Int} {cs : List Value} (e : rOrd.R S k x cs) : rOrd.R (fun _ => False) k' x cs := rOrd_iff.2 (rOrd_iff.1 e)

theorem do_ok {n : Nat} (hn : n ≤ 1024) {W : Wd} (ha : WdAt own h id W) (hb : Bnd n W) {d : Dd} (hk : d.kind ≤ 255) (hd : inI d.id ∧ inI d.i) : Does Try.prog 28 #[.pointer (some ⟨id, 0, none⟩), .agg #[.int .u8 (d.kind : Nat), .int .i64 d.id, .int .i64 d.i]] h
    (fun u h' => u = .tuple #[] ∧ ∃ own', WdAt own' h' id (W.do d) ∧ Kp own h own' h') := by
  obtain ⟨kind, x, z⟩ := d
  dsimp only at hk hd ⊢
  obtain ⟨h6, pc, ps, vg, vo, vn, vi, hg, c⟩ := ha
  have hlt : id < h.next := AHeap.lt_of_alive h (by rw [hg]; simp)
  have tm : Int.tmod (kind : Int) 8 = ((kind % 8 : Nat) : Int) := rfl
  refine spec_go mixed Try.func28 rfl Try.results28 (n := Try.f28.ntmps) (by kernel_rfl) (by simp) ?_
  simp only [go_sem, simprocAttr]
  refine cnd_gen fun k1 e1 => ?_
  have q1 : h.quiet k1 := by rw [e1]; simp only [go_sem, simprocAttr]
  have g1 : k1.get h.next = .cells [.int .u8 (kind : Nat), .int .i64 x, .int .i64 z] .rw := by rw [e1]; simp only [go_sem, simprocAttr]
  have n1 : k1.next = h.next + 1 := by rw [e1]; simp
  clear e1
  have c1 := c.quiet q1 0
  have hg1 := (q1.2 id hlt).trans hg
  have h61 : bump own h 0 id = 6 := (bump_lt hlt).trans h6
  have kp1 : Kp own h (bump own h 0) k1 := .quiet q1 0
  have hb1 : bump own h 0 h.next = 0 := bump_ge (Nat.le_refl _)
  have hl1 : id < k1.next := by omega
  generalize bump own h 0 = ow at c1 h61 kp1 hb1
  have stay : ∃ own', WdAt own' k1 id W ∧ Kp own h own' k1 := ⟨ow, ⟨h61, _, _, _, _, _, _, hg1, c1⟩, kp1⟩
  have other : ∀ {t k2}, t ≠ 0 → t ≠ 6 → Fw (tg ow t) k1 k2 → k2.get id = k1.get id ∧ bump ow k1 t id = 6 ∧ id < k2.next ∧ Kp own h (bump ow k1 t) k2 ∧ k2.get h.next = k1.get h.next := fun {t k2} t0 t6 f =>
    ⟨f.2 id hl1 (fun e => t6 ((show ow id = t from e).symm.trans h61)), (bump_lt hl1).trans h61, Nat.lt_of_lt_of_le hl1 f.1, kp1.trans (Kp.fw f t0), f.2 _ (by omega) (fun e => t0 ((show ow h.next = t from e).symm.trans hb1))⟩
  unfold Wd.do
  dsimp only
  refine cnd_decide (fun c0 => ?_) (fun c0 => ?_)
  · replace c0 : kind % 8 = 0 := by omega
    rw [if_pos c0]
    simp only [go_sem, simprocAttr, hg1, g1, wdV]
    refine cl_spec (cBegin_ok c1.co hd.1) (fun _ _ _ hc => absurd hc (by decide +kernel)) ?_
    rintro u k2 ⟨rfl, hc2, f2⟩
    obtain ⟨e2, h62, hl2, kp2, eb2⟩ := other (by decide) (by decide) f2
    have c2 := c1.setCo f2 hc2
    have hg2 := e2.trans hg1
    have gb2 := eb2.trans g1
    generalize bump ow k1 1 = ow2 at h62 kp2 c2
    simp only [go_sem, simprocAttr]
    by_cases c3 : (W.co.begin x).1 = 0
    · have c3' : ((W.co.begin x).1 = 0) = True := eq_true c3
      obtain ⟨ai, ci, rfl⟩ := c2.is.sl.shape
      have hbi := hb.i
      obtain ⟨w', k3, e3, hw', f3, _, a3, n3, c3, rfl⟩ := c2.is.app2 (bytes := 8) (y := x) (cs := [.int .i64 x]) 1 rfl (fun _ => ⟨rfl, inI_iff.1 hd.1⟩) (by show (W.ids.length + 1) * 8 ≤ _; omega) (by show W.ids.length + 1 ≤ _; omega)
      have F3 : Fw (tg ow2 5) k2 k3 := f3.mono fun j _ e => c2.is.2 j e
      have c3 := c2.setI F3 hw'
      have hg3 := (F3.2 id hl2 (fun e => by have : ow2 id = 5 := e; omega)).trans hg2
      have h63 : bump ow2 k2 5 id = 6 := (bump_lt hl2).trans h62
      have hl3 : id < k3.next := by have := F3.1; omega
      have gs := fun o => AHeap.get_set_self k3 o hl3
      simp only [go_sem, simprocAttr, c3', hg2, wdV, gb2, e3, hg3]
      exact ⟨_, ⟨h63, _, _, _, _, _, _, gs _, c3.cell h63 _⟩, kp2.trans ((Kp.fw F3 (by decide)).trans (.set h63 _))⟩
    · have c3' : ((W.co.begin x).1 = 0) = False := eq_false c3
      simp only [go_sem, simprocAttr, c3']
      exact ⟨ow2, ⟨h62, _, _, _, _, _, _, hg2, c2⟩, kp2⟩
  replace c0 : ¬ kind % 8 = 0 := by omega
  rw [if_neg c0]
  simp only [go_sem, simprocAttr]
  refine cnd_decide (fun c1' => ?_) (fun c1' => ?_)
  · replace c1' : kind % 8 = 1 := by omega
    rw [if_pos c1']
    obtain ⟨ao, co, rfl⟩ := c1.os.sl.shape
    have hlo := c1.os.sl.len
    have hbo := hb.o
    simp only [go_sem, simprocAttr, hg1, wdV]
    by_cases c3 : W.ords.length < 300
    · have c3' : (W.ords.length : Int) < 300 := by omega
      rw [if_pos c3]
      simp only [go_sem, simprocAttr, decide_eq_true c3', hg1, wdV]
      refine cl_spec (cStep_ok c1.co) (fun u h' hp _ => hp.2) ?_
      rintro u k2 ⟨o2, q2⟩
      have c2 := c1.quiet q2 0
      have hg2 := (q2.2 id hl1).trans hg1
      have h62 : bump ow k1 0 id = 6 := (bump_lt hl1).trans h61
      have kp2 := kp1.trans (Kp.quiet (own := ow) q2 0)
      have hl2 : id < k2.next := Nat.lt_of_lt_of_le hl1 q2.1
      generalize bump ow k1 0 = ow2 at h62 kp2 c2
      obtain ⟨as_, cs_, rfl⟩ := o2.sl.shape
      obtain ⟨css, ec, lc⟩ := o2.sl.acells 3 rfl
      have hst : W.co.step.length ≤ 16 := by
        obtain ⟨_, hgd, _⟩ := c1.co
        unfold Co.step; split
        · exact Nat.zero_le _
        · rw [List.length_map]; exact hgd.2.2.2.2.2.1
      obtain ⟨w', k3, e3, L3, f3, n3⟩ := c2.os.1.app (ys := W.co.step) (css' := css) 3 rfl (bytes := 24) (n := W.co.step.length) (lc.mono fun _ _ _ _ e => rOrd.weaken (rOrd_plain e) (fun _ e => e.elim)) rfl (by omega) (by omega) (Nat.zero_le _)
      have hw' : OwnL rOrd (up (tg ow2 3) k2) k3 (W.ords ++ W.co.step) w' := ⟨L3, fun j hj => by
        rcases n3 with n3 | ⟨ob, n3, hge⟩
        · rw [n3] at hj; exact .inl (c2.os.2 j hj)
        · rw [n3] at hj; cases hj; exact .inr hge⟩
      obtain ⟨b3, d3, rfl, _⟩ := L3.len
      have F3 : Fw (tg ow2 3) k2 k3 := f3.mono fun j _ e => c2.os.2 j e
      have c3 := c2.setO F3 hw'
      have hg3 := (F3.2 id hl2 (fun e => by have : ow2 id = 3 := e; omega)).trans hg2
      have h63 : bump ow2 k2 3 id = 6 := (bump_lt hl2).trans h62
      have hl3 : id < k3.next := by have := F3.1; omega
      have gs := fun o => AHeap.get_set_self k3 o hl3
      simp only [go_sem, simprocAttr, ec, lc.ones, e3, hg3, wdV]
      exact ⟨_, ⟨h63, _, _, _, _, _, _, gs _, c3.cell h63 _⟩, kp2.trans ((Kp.fw F3 (by decide)).trans (.set h63 _))⟩
    · have c3' : ¬ (W.ords.length : Int) < 300 := by omega
      rw [if_neg c3]
      simp only [go_sem, simprocAttr, decide_eq_false c3']
      exact stay
  replace c1' : ¬ kind % 8 = 1 := by omega
  rw [if_neg c1']
  simp only [go_sem, simprocAttr]
  refine cnd_cut (fun ρ k => k1 = k ∧ ρ 0 = .pointer (some ⟨id, 0, none⟩) ∧ ρ 3 = .pointer (some ⟨h.next, 0, none⟩) ∧ ρ 8 = .int .u8 ((kind % 8 : Nat) : Int) ∧ ρ 65 = .bool (decide (kind % 8 ≤ 4))) (fun hb => ?_) (fun hb => ?_) ?_
  · have : kind % 8 = 2 := by have := of_decide_eq_true hb; omega
    simp only [go_sem, simprocAttr]
    refine Hold.mk ⟨rfl, rfl, rfl, rfl, ?_⟩
    show Value.bool (decide _) = .bool (decide _)
    congr 1; exact decide_eq_decide.2 (by omega)
  · have c2' : ¬ kind % 8 = 2 := by have := of_decide_eq_false hb; omega
    simp only [go_sem, simprocAttr]
    refine cnd_cut (fun ρ k => k1 = k ∧ ρ 0 = .pointer (some ⟨id, 0, none⟩) ∧ ρ 3 = .pointer (some ⟨h.next, 0, none⟩) ∧ ρ 8 = .int .u8 ((kind % 8 : Nat) : Int) ∧ ρ 65 = .bool (decide (kind % 8 ≤ 4))) (fun hb => ?_) (fun hb => ?_) ?_
    · have : kind % 8 = 3 := by have := of_decide_eq_true hb; omega
      simp only [go_sem, simprocAttr]
      refine Hold.mk ⟨rfl, rfl, rfl, rfl, ?_⟩
      show Value.bool (decide _) = .bool (decide _)
      congr 1; exact decide_eq_decide.2 (by omega)
    · have c3' : ¬ kind % 8 = 3 := by have := of_decide_eq_false hb; omega
      simp only [go_sem, simprocAttr]
      refine Hold.mk ⟨rfl, rfl, rfl, rfl, ?_⟩
      show Value.bool (decide _) = .bool (decide _)
      congr 1; exact decide_eq_decide.2 (by omega)
    rintro ρ k ⟨rfl, r0, r3, r8, r65⟩
    simp only [go_sem, simprocAttr, r0, r3, r8, r65]
    exact Hold.mk ⟨rfl, r0, r3, r8, r65⟩
  rintro ρ k ⟨rfl, r0, r3, r8, r65⟩
  simp only [go_sem, simprocAttr, r65]
  refine cnd_decide (fun c4 => ?_) (fun c4 => ?_)
  · rw [if_pos c4]
    simp only [go_sem, simprocAttr, r3, g1]
    by_cases z0 : z < 0
    · rw [if_pos z0]
      simp only [go_sem, simprocAttr, decide_eq_true z0]
      exact stay
    rw [if_neg z0]
    obtain ⟨i, rfl⟩ := Int.eq_ofNat_of_zero_le (show 0 ≤ z by omega)
    rw [Int.toNat_natCast]
    obtain ⟨ao, co, rfl⟩ := c1.os.sl.shape
    have hlo := c1.os.sl.len
    have hbo := hb.o
    by_cases z1 : W.ords.length ≤ i
    · rw [List.getElem?_eq_none z1]
      simp only [go_sem, simprocAttr, r0, r3, g1, decide_eq_false z0, hg1, wdV, decide_eq_true z1]
      exact stay
    have hi : i < W.ords.length := by omega
    obtain ⟨b, off, sp, cc, md, cs, o, hA, _, hgb, hoi, hR, hle, hdt⟩ := c1.os.sl.at 3 rfl hi
    obtain ⟨rfl, ho⟩ := rOrd_iff.1 hR
    rw [hoi]
    simp only [go_sem, simprocAttr, r0, r3, g1, decide_eq_false z0, hg1, wdV, decide_eq_false z1]
    have gp : ∀ oo, (k1.push oo).get h.next = _ := fun oo => (AHeap.get_push_lt _ _ (by omega)).trans g1
    simp only [go_sem, simprocAttr, r0, r3, g1, hg1, wdV, hA, hgb, hle, hdt, hi, gp]
    refine cnd_gen fun k2 e2 => ?_
    have q2 : k1.quiet k2 := by rw [e2]; simp only [go_sem, simprocAttr]
    have g2 : k2.get k1.next = .cells [.int .i64 o.1, .int .i64 o.2.1, .int .i64 o.2.2] .rw := by rw [e2]; simp only [go_sem, simprocAttr]
    have n2 : k2.next = k1.next + 1 := by rw [e2]; simp
    clear e2
    have c2 := c1.quiet q2 0
    have hg2 := (q2.2 id hl1).trans hg1
    have gb2 := (q2.2 h.next (by omega)).trans g1
    have h62 : bump ow k1 0 id = 6 := (bump_lt hl1).trans h61
    have kp2 := kp1.trans (Kp.quiet (own := ow) q2 0)
    have hl2 : id < k2.next := Nat.lt_of_lt_of_le hl1 q2.1
    have ho1 : bump ow k1 0 h.next = 0 := (bump_lt (by omega)).trans hb1
    have ho2 : bump ow k1 0 k1.next = 0 := bump_ge (Nat.le_refl _)
    generalize bump ow k1 0 = ow2 at h62 kp2 c2 ho1 ho2
    refine cnd_cut (fun ρ k => (∃ own', WdAt own' k id (if kind % 8 ≠ 3 then { W with ords := W.ords.eraseIdx i } else W) ∧ Kp own h own' k) ∧ k.get h.next = .cells [.int .u8 (kind : Nat), .int .i64 x, .int .i64 i] .rw ∧ k.get k1.next = .cells [.int .i64 o.1, .int .i64 o.2.1, .int .i64 o.2.2] .rw ∧
      ρ 0 = .pointer (some ⟨id, 0, none⟩) ∧ ρ 3 = .pointer (some ⟨h.next, 0, none⟩) ∧ ρ 4 = .pointer (some ⟨k1.next, 0, none⟩)) (fun hq => ?_) (fun hq => ?_) ?_
    · have c5 : kind % 8 ≠ 3 := by simp only [Bool.not_eq_true', decide_eq_false_iff_not] at hq; omega
      rw [if_pos c5]
      obtain ⟨a1, d1, css1, w0, k3, a2, d2, css2, w1, k4, s1, ec1, ap1, s2, ec2, ap2, l1, l2, q3, q4, o4, ⟨p0, p1, p2, rfl⟩, y0, y1, y2, rfl⟩ := c2.os.cut rOrd_plain rfl (by omega) hi
      have e9 : IntKind.i64.wrap ((i : Int) + 1) = ((i + 1 : Nat) : Int) := by rw [wi64] <;> omega
      have hg3 := (q3.2 id hl2).trans hg2
      have gb3 := (q3.2 h.next (by omega)).trans gb2
      have hg4 := (q4.2 id hl2).trans hg2
      have F4 : Fw (tg ow2 3) k2 k4 := .of_quiet q4
      have c4 := c2.setO F4 (o4.mono (Nat.le_refl _) fun j hj _ => ⟨.inr hj, rfl⟩)
      have h64 : bump ow2 k2 3 id = 6 := (bump_lt hl2).trans h62
      have hl4 : id < k4.next := by have := q4.1; omega
      have gs := fun o => AHeap.get_set_self k4 o hl4
      simp only [go_sem, simprocAttr, r0, r3, gb2, hg2, wdV, s1, ec1, l1, ap1, hg3, gb3, e9, s2, ec2, l2, ap2, hg4]
      refine Hold.mk ⟨⟨_, ⟨h64, _, _, _, _, _, _, gs _, c4.cell h64 _⟩, kp2.trans ((Kp.fw F4 (by decide)).trans (.set h64 _))⟩, ?_, ?_, by simp only [go_sem, simprocAttr, r0, r3]⟩
      · rw [AHeap.get_set_ne _ _ (by omega), q4.2 _ (by omega)]; exact gb2
      · rw [AHeap.get_set_ne _ _ (by omega), q4.2 _ (by omega)]; exact g2
    · have c5 : ¬ kind % 8 ≠ 3 := by simp only [Bool.not_eq_false', decide_eq_true_eq] at hq; omega
      rw [if_neg c5]
      simp only [go_sem, simprocAttr]
      exact Hold.mk ⟨⟨ow2, ⟨h62, _, _, _, _, _, _, hg2, c2⟩, kp2⟩, gb2, g2, by simp only [go_sem, simprocAttr, r0, r3]⟩
    rintro ρ k ⟨⟨ow3, hW, kp3⟩, gb3, g3, r0, r3, r4⟩
    simp only [go_sem, simprocAttr, r0, r3, r4, gb3, tm]
    refine cnd_decide (fun c5 => ?_) (fun c5 => ?_)
    · replace c5 : kind % 8 < 4 := by omega
      rw [if_pos c5]
      have hb3 : Bnd n (if kind % 8 ≠ 3 then { W with ords := W.ords.eraseIdx i } else W) := by
        split
        · exact ⟨hb.a, Nat.le_trans (List.length_eraseIdx_le _ _) hb.o, hb.q, hb.i⟩
        · exact hb
      simp only [go_sem, simprocAttr, r0, r4, g3]
      refine cl_spec (worder_ok hn hW hb3 ho) (fun _ _ _ hc => absurd hc (by decide +kernel)) ?_
      rintro u k4 ⟨rfl, ow4, hW4, kp4⟩
      simp only [go_sem, simprocAttr]
      exact ⟨ow4, hW4, kp3.trans kp4⟩
    · replace c5 : ¬ kind % 8 < 4 := by omega
      rw [if_neg c5]
      simp only [go_sem, simprocAttr]
      exact ⟨ow3, hW, kp3⟩
  rw [if_neg c4]
  simp only [go_sem, simprocAttr, r8]
  refine cnd_decide (fun c5 => ?_) (fun c5 => ?_)
  · replace c5 : kind % 8 = 5 := by omega
    rw [if_pos c5]
    simp only [go_sem, simprocAttr, r3, g1]
    by_cases z0 : z < 0
    · rw [if_pos z0]
      have z0' : ¬ 0 ≤ z := by omega
      simp only [go_sem, simprocAttr, decide_eq_false z0']
      exact stay
    rw [if_neg z0]
    obtain ⟨i, rfl⟩ := Int.eq_ofNat_of_zero_le (show 0 ≤ z by omega)
    have z0' : (0 : Int) ≤ i := by omega
    rw [Int.toNat_natCast]
    obtain ⟨ao, co, rfl⟩ := c1.qs.sl.shape
    have hlo := c1.qs.sl.len
    have hbo := hb.q
    by_cases z1 : ¬ i < W.anss.length
    · rw [List.getElem?_eq_none (by omega)]
      simp only [go_sem, simprocAttr, r0, r3, g1, decide_eq_true z0', hg1, wdV, decide_eq_false z1]
      exact stay
    have hi : i < W.anss.length := by omega
    obtain ⟨b, off, sp, cc, md, cs, o, hA, _, hgb, hoi, hR, hle, hdt⟩ := c1.qs.sl.at 3 rfl hi
    obtain ⟨rfl, ho⟩ := rOrd_iff.1 hR
    rw [hoi]
    simp only [go_sem, simprocAttr, r0, r3, g1, decide_eq_true z0', hg1, wdV, decide_eq_true hi]
    have gp : ∀ oo, (k1.push oo).get h.next = _ := fun oo => (AHeap.get_push_lt _ _ (by omega)).trans g1
    have gp' : ∀ oo, (k1.push oo).get id = _ := fun oo => (AHeap.get_push_lt _ _ (by omega)).trans hg1
    simp only [go_sem, simprocAttr, r0, r3, g1, hg1, wdV, hA, hgb, hle, hdt, hi]
    have q2 := AHeap.quiet.push k1 (.cells [.int .i64 o.1, .int .i64 o.2.1, .int .i64 o.2.2] .rw)
    have g2 : (k1.push (.cells [.int .i64 o.1, .int .i64 o.2.1, .int .i64 o.2.2] .rw)).get k1.next = .cells [.int .i64 o.1, .int .i64 o.2.1, .int .i64 o.2.2] .rw := AHeap.get_push_self _ _
    have n2 : (k1.push (.cells [.int .i64 o.1, .int .i64 o.2.1, .int .i64 o.2.2] .rw)).next = k1.next + 1 := by simp
    rw [← hA]
    generalize k1.push (.cells [.int .i64 o.1, .int .i64 o.2.1, .int .i64 o.2.2] .rw) = k2 at q2 g2 n2 ⊢
    have c2 := c1.quiet q2 0
    have hg2 := (q2.2 id hl1).trans hg1
    have gb2 := (q2.2 h.next (by omega)).trans g1
    have h62 : bump ow k1 0 id = 6 := (bump_lt hl1).trans h61
    have kp2 := kp1.trans (Kp.quiet (own := ow) q2 0)
    have hl2 : id < k2.next := Nat.lt_of_lt_of_le hl1 q2.1
    have ho2 : bump ow k1 0 k1.next = 0 := bump_ge (Nat.le_refl _)
    generalize bump ow k1 0 = ow2 at h62 kp2 c2 ho2
    obtain ⟨a1, d1, css1, w0, k3, a2, d2, css2, w1, k4, s1, ec1, ap1, s2, ec2, ap2, l1, l2, q3, q4, o4, ⟨p0, p1, p2, rfl⟩, y0, y1, y2, rfl⟩ := c2.qs.cut rOrd_plain rfl (by omega) hi
    have e9 : IntKind.i64.wrap ((i : Int) + 1) = ((i + 1 : Nat) : Int) := by rw [wi64] <;> omega
    have hg3 := (q3.2 id hl2).trans hg2
    have gb3 := (q3.2 h.next (by omega)).trans gb2
    have hg4 := (q4.2 id hl2).trans hg2
    have F4 : Fw (tg ow2 4) k2 k4 := .of_quiet q4
    have c4 := c2.setQ F4 (o4.mono (Nat.le_refl _) fun j hj _ => ⟨.inr hj, rfl⟩)
    have h64 : bump ow2 k2 4 id = 6 := (bump_lt hl2).trans h62
    have hl4 : id < k4.next := by have := q4.1; omega
    have gs := fun o => AHeap.get_set_self k4 o hl4
    have gx : ∀ oo, (k4.set id oo).get k1.next = _ := fun oo => (AHeap.get_set_ne _ _ (by omega)).trans ((q4.2 _ (by omega)).trans g2)
    simp only [go_sem, simprocAttr, r0, r3, gb2, hg2, wdV, s1, ec1, l1, ap1, hg3, gb3, e9, s2, ec2, l2, ap2, hg4, gs, gx]
    have c5 := c4.cell h64 (.cells [.pointer (some ⟨pc, 0, none⟩), vg, vo, .slice y0 y1 y2, vi] .rw)
    have g5 := gs (.cells [.pointer (some ⟨pc, 0, none⟩), vg, vo, .slice y0 y1 y2, vi] .rw)
    have kp5 := kp2.trans ((Kp.fw (own := ow2) F4 (by decide)).trans (.set h64 (.cells [.pointer (some ⟨pc, 0, none⟩), vg, vo, .slice y0 y1 y2, vi] .rw)))
    have hl5 : id < (k4.set id (.cells [.pointer (some ⟨pc, 0, none⟩), vg, vo, .slice y0 y1 y2, vi] .rw)).next := by simpa using hl4
    refine cl_spec (cHear_ok c5.co) (fun _ _ _ hc => absurd hc (by decide +kernel)) ?_
    rintro u k6 ⟨rfl, hc6, f6⟩
    simp only [go_sem, simprocAttr]
    exact ⟨_, ⟨(bump_lt hl5).trans h64, _, _, _, _, _, _, (f6.2 id hl5 (fun e => by have : bump ow2 k2 4 id = 1 := e; omega)).trans g5, c5.setCo f6 hc6⟩, kp5.trans (Kp.fw f6 (by decide))⟩
  replace c5 : ¬ kind % 8 = 5 := by omega
  rw [if_neg c5]
  simp only [go_sem, simprocAttr, r8]
  refine cnd_decide (fun c6 => ?_) (fun c6 => ?_)
  · replace c6 : kind % 8 = 6 := by omega
    rw [if_pos c6]
    simp only [go_sem, simprocAttr, r3, g1]
    by_cases z0 : z < 0
    · rw [if_pos z0]
      have z0' : ¬ 0 ≤ z := by omega
      simp only [go_sem, simprocAttr, decide_eq_false z0']
      exact stay
    rw [if_neg z0]
    obtain ⟨i, rfl⟩ := Int.eq_ofNat_of_zero_le (show 0 ≤ z by omega)
    have z0' : (0 : Int) ≤ i := by omega
    rw [Int.toNat_natCast]
    obtain ⟨ag, cg, rfl⟩ := c1.pl.shape
    have hlo := c1.pl.len
    by_cases z1 : ¬ i < ps.length
    · rw [List.getElem?_eq_none (by have := c1.ln; omega)]
      simp only [go_sem, simprocAttr, r0, r3, g1, decide_eq_true z0', hg1, wdV, decide_eq_false z1]
      exact stay
    have hi : i < ps.length := by omega
    obtain ⟨b, off, sp, cc, md, v, p, hA, _, hgb, hpi, hR, hcc⟩ := c1.pl.at1 rfl hi
    obtain rfl : v = _ := by simpa using rP_iff.1 hR
    obtain ⟨a, hai, hag⟩ := c1.lt hpi
    rw [hai]
    simp only [go_sem, simprocAttr, r0, r3, g1, decide_eq_true z0', hg1, wdV, decide_eq_true hi]
    simp only [go_sem, simprocAttr, r0, r3, g1, hg1, wdV, hA, hgb, hcc, hi]
    refine cl_spec (aCrash_ok hag) (fun _ _ _ hc => absurd hc (by decide +kernel)) ?_
    rintro u k2 ⟨rfl, hag2, f2⟩
    have F2 : Fw (tg ow (10 + i)) k1 k2 := f2.mono fun j _ e => by subst e; exact hag.1
    obtain ⟨e2, h62, hl2, kp2, eb2⟩ := other (by omega) (by omega) F2
    simp only [go_sem, simprocAttr]
    exact ⟨_, ⟨h62, _, _, _, _, _, _, e2.trans hg1, c1.setAg hpi F2 (hag2.weaken fun _ e => .inl e)⟩, kp2⟩
  replace c6 : ¬ kind % 8 = 6 := by omega
  rw [if_neg c6]
  by_cases c7 : x % 2 = 1
  · rw [if_pos c7]
    simp only [go_sem, simprocAttr, r3, g1]
    refine cnd_decide (fun _ => ?_) (fun e => absurd ((and_one x).trans c7) e)
    simp only [go_sem, simprocAttr, r0, hg1, wdV]
    refine cl_spec (cAbort_ok c1.co) (fun _ _ _ hc => absurd hc (by decide +kernel)) ?_
    rintro u k2 ⟨rfl, hc2, f2⟩
    obtain ⟨e2, h62, hl2, kp2, eb2⟩ := other (by decide) (by decide) f2
    simp only [go_sem, simprocAttr]
    exact ⟨_, ⟨h62, _, _, _, _, _, _, e2.trans hg1, c1.setCo f2 hc2⟩, kp2⟩
  · rw [if_neg c7]
    simp only [go_sem, simprocAttr, r3, g1]
    refine cnd_decide (fun e => absurd ((and_one x).symm.trans e) c7) (fun _ => ?_)
    simp only [go_sem, simprocAttr, r0, hg1, wdV]
    refine cl_spec (cCrash_ok c1.co) (fun _ _ _ hc => absurd hc (by decide +kernel)) ?_
    rintro u k2 ⟨rfl, hc2, f2⟩
    obtain ⟨e2, h62, hl2, kp2, eb2⟩ := other (by decide) (by decide) f2
    simp only [go_sem, simprocAttr]
    exact ⟨_, ⟨h62, _, _, _, _, _, _, e2.trans hg1, c1.setCo f2 hc2⟩, kp2⟩
end
end Go.Proofs.Ytbcgipcgcjkfcaa
