/- cow: the law CowPlays: what its call comes to. -/
import Derived.Test.YtfdbadpiklmbaaaCoPC
set_option linter.unusedSimpArgs false
set_option linter.unusedVariables false
set_option linter.unnecessarySimpa false
set_option maxRecDepth 100000
namespace Go.Proofs.Ytfdbadpiklmbaaa
open Go.AM

section
variable {own own' own'' : Nat → Nat} {h h' h'' h0 : AHeap} {S S' Z : Nat → Prop} {id rid : Nat} {ts : List T} {v lv : Value} {vs : List Value} {ls : List (List Ext)}
theorem atF_ok (ha : FoAt own h id ts) (g : GF ts) {i : Nat} {t : T} (hi : ts[i]? = some t) {o : Int} (ho : inI o) : Does Try.prog 25 #[.pointer (some ⟨id, 0, none⟩), .int .i64 i, .int .i64 o] h
    (fun u h' => u = .tuple #[.int .i64 (atL (if Blks o 1 then partL o (o + 1) t.list else [])).1, .int .i64 (atL (if Blks o 1 then partL o (o + 1) t.list else [])).2.1, .bool (atL (if Blks o 1 then partL o (o + 1) t.list else [])).2.2] ∧ h.quiet h') := by
  have gt := g.2 t (List.mem_of_getElem? hi)
  have hl := (List.getElem?_eq_some_iff.1 hi).1
  have ep : F.part ts (i : Int) o 1 = if Blks o 1 then (partL o (o + 1) t.list, 0) else ([], 1) := by
    unfold F.part
    rw [if_pos ⟨by omega, by omega⟩, Int.toNat_natCast, List.getD, hi]
    split
    · show (t.parts o (o + 1), 0) = _
      rw [T.parts_eq _ _ gt.1]
    · rfl
  have hp := partF_ok ha g.1 g.ok (root := (i : Int)) ho (n := 1) ⟨by decide, by decide⟩
  rw [ep] at hp
  refine spec_go mixed Try.func25 rfl Try.results25 (n := Try.f25.ntmps) (by kernel_rfl) (by simp) ?_
  simp only [go_sem, simprocAttr]
  refine cl_spec hp (fun _ _ _ hc => absurd hc (by decide +kernel)) ?_
  by_cases hb : Blks o 1
  · rw [if_pos hb, if_pos hb]
    rintro u k ⟨w, rfl, o4, q⟩
    dsimp only at o4
    generalize partL o (o + 1) t.list = p at o4
    obtain ⟨a4, c4, rfl⟩ := o4.sl.shape
    cases p with
    | nil =>
      simp only [go_sem, simprocAttr, List.length_nil]
      exact ⟨rfl, q⟩
    | cons y p =>
      have hz : (((y :: p).length : Nat) : Int) = 0 ↔ False := by simp; omega
      obtain ⟨b, off, sp, cc, md, y', hA, _, hg, hy, hyy, hle, hdt⟩ := IsSl.atX o4.sl (i := 0) (by simp)
      obtain rfl : y = y' := by simpa using hy
      have hl0 : (0 : Int) < (((y :: p).length : Nat) : Int) := by simp
      have d2 : cc[off + 0 * 4 + 2]? = some (.int .i64 y.phys) := seg_get hdt (k := 2) (by omega)
      have d3 : cc[off + 0 * 4 + 3]? = some (.int .i64 y.birth) := seg_get hdt (k := 3) (by omega)
      generalize (y :: p).length = n at *
      simp only [go_sem, simprocAttr, hz]
      simp only [go_sem, simprocAttr, hA, hg, d2, d3, hl0]
      exact ⟨rfl, q⟩
  · rw [if_neg hb, if_neg hb]
    rintro u k ⟨w, rfl, o4, q⟩
    dsimp only at o4
    simp only [go_sem, simprocAttr]
    exact ⟨rfl, q⟩

theorem plays_ok {xs : List Act} {v : Value} {lk : Act} (hd : IsSl rAct (· < h.next) h xs v) (hlr : inI lk.root) (hlx : lk.x.inI) :
    Does Try.prog 6 #[v, .agg lk.cs.toArray] h (fun u _ => u = .bool true) := by
  obtain ⟨A, c, rfl⟩ := hd.shape
  refine spec_go mixed Try.func6 rfl Try.results6 (n := Try.f6.ntmps) (by kernel_rfl) (by simp) ?_
  simp only [go_sem, simprocAttr, Act.cs]
  refine cl_gen fun ka ea => ?_
  have qa : h.quiet ka := by rw [ea]; simp only [go_sem, simprocAttr]
  have gL : ka.get h.next = .cells lk.cs .rw := by rw [ea]; simp only [go_sem, simprocAttr, Act.cs]
  have na : ka.next = h.next + 1 := by rw [ea]; simp
  clear ea
  unfold Act.cs at gL
  refine cl_spec (newForest_ok (own := bump (fun _ => 0) h 0)) (fun _ _ _ hc => absurd hc (by decide +kernel)) ?_
  rintro u k0 ⟨rfl, q0, hf⟩
  simp only [go_sem, simprocAttr]
  have hd0 : IsSl rAct (tg (bump (bump (fun _ => 0) h 0) ka 1) 0) k0 xs _ := hd.mono fun j hj hl => ⟨(bump_lt (by omega)).trans (by unfold bump; split <;> rfl), (q0.2 j (by omega)).trans (qa.2 j hl)⟩
  have hz0 : bump (bump (fun _ => 0) h 0) ka 1 h.next = 0 := (bump_lt (by omega)).trans (by unfold bump; split <;> rfl)
  have gL0 := (q0.2 h.next (by omega)).trans gL
  have lL0 : h.next < k0.next := by have := q0.1; omega
  generalize ka.next + 1 = id at hf
  generalize bump (bump (fun _ => 0) h 0) ka 1 = own at hd0 hf hz0
  clear gL na qa q0
  refine cl_spec rNewF_ok (fun _ _ _ hc => absurd hc (by decide +kernel)) ?_
  rintro u k1 ⟨rb, rfl, hrb, hgb, q1⟩
  simp only [go_sem, simprocAttr]
  refine cl_gen fun k2 e2 => ?_
  have q2 : k1.quiet k2 := by rw [e2]; simp only [go_sem, simprocAttr]
  have g2 : k2.get k1.next = .cells [.slice (some ⟨rb, 0, none⟩) 1 1] .rw := by rw [e2]; simp only [go_sem, simprocAttr]
  have n2 : k2.next = k1.next + 1 := by rw [e2]; simp
  clear e2
  have lrb : rb < k1.next := AHeap.lt_of_alive k1 (by rw [hgb]; simp)
  have hgb2 := (q2.2 rb lrb).trans hgb
  have Q2 := q1.trans q2
  have hrf : RfAt (bump (bump own k0 4) k1 5) k2 k1.next ([T.nil].map T.list) := by
    refine ⟨bump_ge (Nat.le_refl _), _, [.slice none 0 0], g2, ?_, rfl, ?_⟩
    · exact .fresh (css := [[.slice none 0 0]]) (.cons ⟨rfl, _, _, _, rfl⟩ .nil) rfl (by decide) ((bump_lt lrb).trans (bump_ge hrb)) hgb2 rfl
    · intro i l v h1 h2
      cases i with
      | zero => simp at h1 h2; subst h1; subst h2; exact .nil _ _ _
      | succ i => simp at h1
  have hf2 : FoAt (bump (bump own k0 4) k1 5) k2 id [.nil] := (hf.quiet q1 4).quiet q2 5
  have hd2 : IsSl rAct (tg (bump (bump own k0 4) k1 5) 0) k2 xs _ := (hd0.mono (quiet_other (t := 4) q1)).mono (quiet_other (t := 5) q2)
  have hz2 : bump (bump own k0 4) k1 5 h.next = 0 := (bump_lt (by have := q1.1; omega)).trans ((bump_lt lL0).trans hz0)
  have gL2 := (Q2.2 h.next lL0).trans gL0
  have lL2 : h.next < k2.next := by have := Q2.1; omega
  generalize bump (bump own k0 4) k1 5 = own at hrf hf2 hd2 hz2
  generalize k1.next = rid at hrf
  clear hf hd0 hz0 gL0 lL0 g2 n2
  refine cl_spec (alive_ok k2) (fun _ _ _ hc => absurd hc (by decide +kernel)) ?_
  rintro u k ⟨rfl, hk⟩
  obtain rfl : k2 = k := hk.symm
  simp only [go_sem, simprocAttr]
  refine cl_spec (short_ok hd2) (fun _ _ _ hc => absurd hc (by decide +kernel)) ?_
  rintro u k ⟨hs, hk⟩
  obtain rfl : k2 = k := hk.symm
  obtain ⟨A2, c2, rfl⟩ := hs.shape
  have hlen := hs.len
  generalize hys : xs.take (min xs.length 300) = ys at hs hlen
  have hy3 : ys.length ≤ 300 := by rw [← hys, List.length_take]; omega
  simp only [go_sem, simprocAttr]
  refine go_loop (fun z ρ k => ∃ (i : Nat) (own : Nat → Nat) (ts : List T), i ≤ ys.length ∧ z = ys.length - i ∧ GF ts ∧ ts.length ≤ i + 1 ∧ FoAt own k id ts ∧ RfAt own k rid (ts.map T.list) ∧ IsSl rAct (tg own 0) k ys (.slice A2 ys.length c2) ∧ own h.next = 0 ∧ h.next < k.next ∧ k.get h.next = .cells [.int .u8 (lk.kind : Nat), .int .i64 lk.root, .int .i64 lk.x.off, .int .i64 lk.x.len, .int .i64 lk.x.phys, .int .i64 lk.x.birth] .rw ∧
    ρ 3 = .pointer (some ⟨h.next, 0, none⟩) ∧ ρ 5 = .pointer (some ⟨id, 0, none⟩) ∧ ρ 6 = .pointer (some ⟨rid, 0, none⟩) ∧ ρ 40 = .slice A2 ys.length c2 ∧ ρ 41 = .int .i64 ys.length ∧ ρ 42 = .int .i64 i) ys.length
    ⟨0, own, [.nil], by omega, by omega, GF.new, by simp, hf2, hrf, hs, hz2, lL2, gL2, by simp only [go_sem, simprocAttr]⟩ ?_
  clear hf2 hrf hs hz2 lL2 gL2 hd2 own
  rintro z ρ k ⟨i, own, ts, hi, rfl, g, hl, hf, hr, hs, hz, lL, gL, r3, r5, r6, r40, r41, r42⟩
  simp only [go_sem, simprocAttr, r3, r5, r6, r40, r41, r42]
  refine cnd_decide (fun hx => ?_) (fun hx => ?_)
  · have h1 : i < ys.length := by omega
    have e9 : IntKind.i64.wrap ((i : Int) + 1) = ((i + 1 : Nat) : Int) := by rw [wi64] <;> omega
    obtain ⟨b, off, sp, cc, md, cs, a, hA, hbo, hg, hai, hR, hle, hdt⟩ := hs.at 6 rfl h1
    obtain ⟨rfl, ha0, ha1, ha2⟩ := rAct_iff.1 hR
    have r40' : ρ 40 = .slice (some ⟨b, off, sp⟩) ys.length c2 := by rw [r40, hA]
    unfold Act.cs at hdt
    simp only [go_sem, simprocAttr, r3, r5, r6, r40', r41, r42, h1, hg, hle, hdt]
    refine cl_gen fun k2 e2 => ?_
    have q2 : k.quiet k2 := by rw [e2]; simp only [go_sem, simprocAttr]
    have gA2 : k2.get k.next = .cells a.cs .rw := by rw [e2]; simp only [go_sem, simprocAttr, Act.cs]
    have n2 : k2.next = k.next + 1 := by rw [e2]; simp
    clear e2
    unfold Act.cs at gA2
    have hzA : bump own k 0 k.next = 0 := bump_ge (Nat.le_refl _)
    have hz2 : bump own k 0 h.next = 0 := (bump_lt lL).trans hz
    have hf2 := hf.quiet q2 0
    have hr2 := hr.quiet q2 0
    have hs2 : IsSl rAct (tg (bump own k 0) 0) k2 ys _ := hs.mono (quiet_other q2)
    have gL2 := (q2.2 _ lL).trans gL
    generalize bump own k 0 = own2 at hzA hz2 hf2 hr2 hs2
    have hd := does_ok hf2 g (by omega) (by rw [u8_max] at ha0; omega) ha1 ha2
    unfold Act.cs at hd
    refine cl_spec hd (fun _ _ _ hc => absurd hc (by decide +kernel)) ?_
    rintro u k3 ⟨rfl, own3, hf3, kp3⟩
    have hs3 := kp3.sl (s := 0) (by decide) hs2
    have hr3 := hr2.kp kp3
    have gA3 := ((kp3.2 k.next (by omega)).2 (by omega)).trans gA2
    have hzA3 := ((kp3.2 k.next (by omega)).1).trans hzA
    have gL3 := ((kp3.2 h.next (by omega)).2 (by omega)).trans gL2
    have hz3 := ((kp3.2 h.next (by omega)).1).trans hz2
    simp only [go_sem, simprocAttr, r5, r6, gA3]
    have hw := would_ok hr3 g (by omega) (a := a) ha2
    unfold Act.cs at hw
    refine cl_spec hw (fun _ _ _ hc => absurd hc (by decide +kernel)) ?_
    rintro u k4 ⟨rfl, own4, hr4, kq4⟩
    have hf4 := hf3.kq kq4
    have n3 := kp3.1
    have gg := F.does_gf g a
    have hs4 := hs3.mono (kq4.other (s := 0) (by decide))
    have gL4 := ((kq4.2 h.next (by omega)).2 (by omega)).trans gL3
    have hz4 := ((kq4.2 h.next (by omega)).1).trans hz3
    have hlr4 := hr4
    obtain ⟨_, lv, vs, hgr, hv, hvn, _⟩ := hlr4
    obtain ⟨av, cv, rfl⟩ := hv.shape
    rw [List.length_map] at hvn
    generalize hR1 : (F.does ts a).1.1 = R1
    generalize hR2 : (F.does ts a).1.2 = R2
    simp only [go_sem, simprocAttr, r5]
    refine cl_spec (treesF_ok hf4 gg.1.1) (fun u h' hp _ => hp.2 ▸ .refl _) ?_
    rintro u k5 ⟨rfl, hk⟩
    obtain rfl : k4 = k5 := hk.symm
    have hcc : (((F.does ts a).2.length : Int) = vs.length) = True := eq_true (by omega)
    simp only [go_sem, simprocAttr, r6, hgr, hcc, r42, e9]
    exact Hold.mk ⟨ys.length - (i + 1), by omega, i + 1, own4, _, by omega, rfl, gg.1, by omega, hf4, hr4, hs4, hz4, by have := kq4.1; omega, gL4, by simp only [go_sem, simprocAttr, r3, r5, r6, r40, r41]⟩
  · have hr0 := hr
    obtain ⟨h5, lv, vs, hgr, hv, hvn, hle⟩ := hr0
    obtain ⟨av, cv, rfl⟩ := hv.shape
    have hvl := hv.len
    rw [List.length_map] at hvn
    clear hs
    simp only [go_sem, simprocAttr, r6, hgr]
    refine go_loop (fun z ρ K => ∃ (j : Nat), j ≤ vs.length ∧ z = vs.length - j ∧ k.quiet K ∧
        ρ 3 = .pointer (some ⟨h.next, 0, none⟩) ∧ ρ 5 = .pointer (some ⟨id, 0, none⟩) ∧ ρ 6 = .pointer (some ⟨rid, 0, none⟩) ∧ ρ 75 = .slice av vs.length cv ∧ ρ 76 = .int .i64 vs.length ∧ ρ 77 = .int .i64 j) vs.length
        ⟨0, by omega, by omega, .refl _, by simp only [go_sem, simprocAttr, r3, r5, r6]⟩ ?_
    clear r3 r5 r6 r40 r41 r42
    rintro z ρ K ⟨j, hj, rfl, qK, r3, r5, r6, r75, r76, r77⟩
    simp only [go_sem, simprocAttr, r3, r5, r6, r75, r76, r77]
    have gLK := (qK.2 h.next lL).trans gL
    refine cnd_decide (fun hy => ?_) (fun hy => ?_)
    · have hjv : j < vs.length := by omega
      have hjl : j < ts.length := by omega
      have e8 : IntKind.i64.wrap ((j : Int) + 1) = ((j + 1 : Nat) : Int) := by rw [wi64] <;> omega
      have htj : ts[j]? = some ts[j] := List.getElem?_eq_getElem hjl
      have gt := g.2 _ (List.mem_of_getElem? htj)
      obtain ⟨b8, off8, sp8, cc8, md8, w8, x8, hA8, _, hg8, hx8, ⟨hR8, _⟩, hcc8⟩ := hv.at1 rfl hjv
      obtain rfl : w8 = x8 := by simpa using hR8
      have hb8 : b8 < k.next := AHeap.lt_of_alive k (by rw [hg8]; simp)
      have hg8K := (qK.2 b8 hb8).trans hg8
      have hsl := hle j ts[j].list w8 (by rw [List.getElem?_map, htj]; rfl) hx8
      obtain ⟨a9, c9, rfl⟩ := hsl.shape
      simp only [go_sem, simprocAttr, r3, r5, r6, r75, r76, r77, hA8, hg8K, hcc8, hjv]
      have r75' : ρ 75 = .slice (some ⟨b8, off8, sp8⟩) vs.length cv := by rw [r75, hA8]
      refine cl_spec (again_ok (hf.quiet qK 0) g htj) (fun _ _ _ hc => absurd hc (by decide +kernel)) ?_
      rintro u K1 ⟨v1, rfl, o1, q1⟩
      have Q1 := qK.trans q1
      have gL1 := (Q1.2 h.next lL).trans gL
      obtain ⟨a11, c11, rfl⟩ := o1.sl.shape
      simp only [go_sem, simprocAttr, r3, r5, gL1]
      have ep : F.part ts (j : Int) lk.x.off lk.x.len = if Blks lk.x.off lk.x.len then (partL lk.x.off (lk.x.off + lk.x.len) ts[j].list, 0) else ([], 1) := by
        unfold F.part
        rw [if_pos ⟨by omega, by omega⟩, Int.toNat_natCast, List.getD, htj]
        split
        · show (ts[j].parts lk.x.off (lk.x.off + lk.x.len), 0) = _
          rw [T.parts_eq _ _ gt.1]
        · rfl
      have hp := partF_ok (hf.quiet Q1 0) g.1 g.ok (root := (j : Int)) hlx.1 hlx.2.1
      rw [ep] at hp
      refine cl_spec hp (fun _ _ _ hc => absurd hc (by decide +kernel)) ?_
      rintro u K2 ⟨v2, rfl, o2, q2⟩
      have Q2 := Q1.trans q2
      have gL2 := (Q2.2 h.next lL).trans gL
      obtain ⟨a12, c12, rfl⟩ := o2.sl.shape
      simp only [go_sem, simprocAttr, r3, r5, gL2]
      refine cl_spec (rPart_ok (hsl.quiet Q2) gt.1 hlx.1 hlx.2.1) (fun _ _ _ hc => absurd hc (by decide +kernel)) ?_
      rintro u K3 ⟨v3, rfl, o3, q3⟩
      have Q3 := Q2.trans q3
      have gL3 := (Q3.2 h.next lL).trans gL
      obtain ⟨a13, c13, rfl⟩ := o3.sl.shape
      simp only [go_sem, simprocAttr, r3, r5, gL3]
      refine cl_spec (atF_ok (hf.quiet Q3 0) g htj hlx.1) (fun _ _ _ hc => absurd hc (by decide +kernel)) ?_
      rintro u K4 ⟨rfl, q4⟩
      have Q4 := Q3.trans q4
      have gL4 := (Q4.2 h.next lL).trans gL
      simp only [go_sem, simprocAttr, r3, r5, gL4]
      refine cl_spec (rAt_ok (hsl.quiet Q4) gt.1 hlx.1) (fun _ _ _ hc => absurd hc (by decide +kernel)) ?_
      rintro u K5 ⟨rfl, q5⟩
      have Q5 := Q4.trans q5
      simp only [go_sem, simprocAttr]
      refine cl_spec (same_ok (o1.sl.quiet (q2.trans (q3.trans (q4.trans q5)))) (hsl.quiet Q5)) (fun _ _ _ hc => absurd hc (by decide +kernel)) ?_
      rintro u K6 ⟨rfl, hk⟩
      obtain rfl : K5 = K6 := hk.symm
      have e12 : (if Blks lk.x.off lk.x.len then (partL lk.x.off (lk.x.off + lk.x.len) ts[j].list, (0 : Int)) else ([], 1)).1 = (if Blks lk.x.off lk.x.len then partL lk.x.off (lk.x.off + lk.x.len) ts[j].list else []) := by split <;> rfl
      have e13 : (if Blks lk.x.off lk.x.len then (partL lk.x.off (lk.x.off + lk.x.len) ts[j].list, (0 : Int)) else ([], 1)).2 = (if Blks lk.x.off lk.x.len then 0 else 1) := by split <;> rfl
      have d1 : decide (ts[j].list = ts[j].list) = true := decide_eq_true rfl
      simp only [go_sem, simprocAttr, d1]
      refine cl_spec (same_ok (o2.sl.quiet (q3.trans (q4.trans q5))) (o3.sl.quiet (q4.trans q5))) (fun _ _ _ hc => absurd hc (by decide +kernel)) ?_
      rintro u K6 ⟨rfl, hk⟩
      obtain rfl : K5 = K6 := hk.symm
      have d2 := decide_eq_true e12
      simp only [go_sem, simprocAttr, d2, e13, r5]
      refine cl_spec (sizeF_ok (hf.quiet Q5 0) g.1) (fun _ _ _ hc => absurd hc (by decide +kernel)) ?_
      rintro u K6 ⟨q6, ⟨t', _, h2, rfl⟩ | ⟨h1, _⟩⟩
      · rw [Int.toNat_natCast, htj] at h2
        obtain rfl : ts[j] = t' := Option.some.inj h2
        have hsz : (((ts[j].size : Nat) : Int) = ts[j].list.length) = True := eq_true (by rw [T.size_list])
        simp only [go_sem, simprocAttr, hsz, r77, e8]
        exact Hold.mk ⟨vs.length - (j + 1), by omega, j + 1, by omega, rfl, Q5.trans q6, by simp only [go_sem, simprocAttr, r3, r5, r6, r75, hA8, r76]⟩
      · exact absurd ⟨by omega, by omega⟩ h1
    · simp only [go_sem, simprocAttr, r3, r5, gLK]
      refine cl_spec (listF_ok (hf.quiet qK 0) g (root := lk.root)) (fun _ _ _ hc => absurd hc (by decide +kernel)) ?_
      rintro u K1 ⟨v1, rfl, o1, q1⟩
      have Q1 := qK.trans q1
      have gL1 := (Q1.2 h.next lL).trans gL
      simp only [go_sem, simprocAttr, r3, r5, gL1]
      refine cl_spec (partF_ok (hf.quiet Q1 0) g.1 g.ok (root := lk.root) (o := 0) (n := 1) ⟨by decide, by decide⟩ ⟨by decide, by decide⟩) (fun _ _ _ hc => absurd hc (by decide +kernel)) ?_
      rintro u K2 ⟨v2, rfl, o2, q2⟩
      have Q2 := Q1.trans q2
      have gL2 := (Q2.2 h.next lL).trans gL
      have hr2 := hr.quiet Q2 0
      by_cases hh : Has ts lk.root
      · have hh2 : HasL (ts.map T.list) lk.root := hasL_iff.2 hh
        have f1 : (F.list ts lk.root).2 = 0 := by unfold F.list; rw [if_pos hh]
        have f2 : (F.part ts lk.root 0 1).2 = 0 := by unfold F.part; rw [if_pos hh, if_pos (by decide)]
        simp only [go_sem, simprocAttr, r3, r5, r6, gL2, f1, f2]
        refine cl_spec (rHas_ok hr2) (fun _ _ _ hc => absurd hc (by decide +kernel)) ?_
        rintro u K3 ⟨rfl, hk⟩
        obtain rfl : K2 = K3 := hk.symm
        simp only [go_sem, simprocAttr, decide_eq_true hh2, decide_true, r3, r6, gL2, f2]
        refine cl_spec (rHas_ok hr2) (fun _ _ _ hc => absurd hc (by decide +kernel)) ?_
        rintro u K3 ⟨rfl, hk⟩
        obtain rfl : K2 = K3 := hk.symm
        simp only [go_sem, simprocAttr, decide_eq_true hh2, decide_true, r3, r6, gL2, f2]
        refine cl_spec (rHas_ok hr2) (fun _ _ _ hc => absurd hc (by decide +kernel)) ?_
        rintro u K3 ⟨rfl, hk⟩
        obtain rfl : K2 = K3 := hk.symm
        simp only [go_sem, simprocAttr, decide_eq_true hh2]
      · have hh2 : ¬ HasL (ts.map T.list) lk.root := fun e => hh (hasL_iff.1 e)
        have f1 : (F.list ts lk.root).2 = 9 := by unfold F.list; rw [if_neg hh]
        have f2 : (F.part ts lk.root 0 1).2 = 9 := by unfold F.part; rw [if_neg hh]
        simp only [go_sem, simprocAttr, r3, r5, r6, gL2, f1, f2]
        refine cl_spec (rHas_ok hr2) (fun _ _ _ hc => absurd hc (by decide +kernel)) ?_
        rintro u K3 ⟨rfl, hk⟩
        obtain rfl : K2 = K3 := hk.symm
        simp only [go_sem, simprocAttr, decide_eq_false hh2, decide_true, r3, r6, gL2, f2]
        refine cl_spec (rHas_ok hr2) (fun _ _ _ hc => absurd hc (by decide +kernel)) ?_
        rintro u K3 ⟨rfl, hk⟩
        obtain rfl : K2 = K3 := hk.symm
        simp only [go_sem, simprocAttr, decide_eq_false hh2, decide_true, r3, r6, gL2, f1, f2]
        refine cl_spec (rHas_ok hr2) (fun _ _ _ hc => absurd hc (by decide +kernel)) ?_
        rintro u K3 ⟨rfl, hk⟩
        obtain rfl : K2 = K3 := hk.symm
        simp only [go_sem, simprocAttr, decide_eq_false hh2, f1, f2]
end
end Go.Proofs.Ytfdbadpiklmbaaa
