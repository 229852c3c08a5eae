/- barrier: the law BarrierEnds: what its call comes to. -/
import Derived.Test.YtbcgipcgcjkfcaaBaX
set_option linter.unusedSimpArgs false
set_option linter.unusedVariables false
set_option linter.unnecessarySimpa false
set_option maxRecDepth 100000
namespace Go.Proofs.Ytbcgipcgcjkfcaa
open Go.AM

section
variable {own own' own'' : Nat → Nat} {h h' h'' : AHeap} {pc id : Nat} {ps : List Nat} {vg vo vn vi : Value} {w : Wd} {Z : Nat → Prop}
theorem Bnd.dl {n : Nat} {W : Wd} (b : Bnd n W) (o : Int × Int × Int) : Bnd (n + 1) (W.dl o) := by
  have up1 : Bnd (n + 1) W := ⟨fun a ha => Nat.le_succ_of_le (b.a a ha), b.o, b.q, Nat.le_succ_of_le b.i⟩
  unfold Wd.dl
  split
  · exact up1
  rename_i a hi
  refine ⟨fun a' ha => ?_, b.o, b.q, Nat.le_succ_of_le b.i⟩
  rcases List.mem_or_eq_of_mem_set ha with h1 | rfl
  · exact up1.a a' h1
  · exact Nat.le_trans (com_le _ _ _) (Nat.succ_le_succ (b.a a (List.mem_of_getElem? hi)))

theorem ends_ok {xs : List Dd} {v : Value} {kk : Nat} (hd : IsSl rDd (· < h.next) h xs v) (hkk : kk ≤ 255) :
    Does Try.prog 7 #[.int .u8 (kk : Nat), v] h (fun u _ => u = .bool true) := by
  obtain ⟨A, c, rfl⟩ := hd.shape
  have hlen := hd.len
  refine spec_go mixed Try.func7 rfl Try.results7 (n := Try.f7.ntmps) (by kernel_rfl) (by simp) ?_
  simp only [go_sem, simprocAttr]
  refine cl_spec (begin_ok hkk) (fun _ _ _ hc => absurd hc (by decide +kernel)) ?_
  rintro u k0 ⟨id, own, rfl, hw, q0, hz⟩
  simp only [go_sem, simprocAttr]
  refine cl_spec (alive_ok k0) (fun _ _ _ hc => absurd hc (by decide +kernel)) ?_
  rintro u k ⟨rfl, hk⟩
  obtain rfl : k0 = k := hk.symm
  have hmin : min (xs.length : Int) 400 = ((min xs.length 400 : Nat) : Int) := by omega
  obtain ⟨a1, c1, s1, i1⟩ := hd.slice 3 rfl (Nat.zero_le (min xs.length 400)) (Nat.min_le_left _ _)
  simp only [Nat.sub_zero, List.drop_zero] at s1 i1
  replace s1 : slI 3 A xs.length c (some 0) (some ((min xs.length 400 : Nat) : Int)) = some (.slice a1 (min xs.length 400) c1) := s1
  have hlm := i1.len
  simp only [go_sem, simprocAttr, hmin, s1]
  generalize hys : xs.take (min xs.length 400) = ys at i1 hlm
  have hm : min xs.length 400 = ys.length := hlm.1
  have hm4 : ys.length ≤ 400 := by omega
  rw [hm] at i1
  rw [hm]
  have i1 : IsSl rDd (tg own 0) k0 ys (.slice a1 ys.length c1) := i1.mono fun j hj hl => ⟨hz j hj, q0.2 j hj⟩
  refine go_loop (fun z ρ k => ∃ (i : Nat) (own : Nat → Nat) (W : Wd), i ≤ ys.length ∧ z = ys.length - i ∧ Good W ∧ Bnd i W ∧ WdAt own k id W ∧ IsSl rDd (tg own 0) k ys (.slice a1 ys.length c1) ∧
    ρ 5 = .pointer (some ⟨id, 0, none⟩) ∧ ρ 32 = .slice a1 ys.length c1 ∧ ρ 33 = .int .i64 ys.length ∧ ρ 34 = .int .i64 i) ys.length
    ⟨0, own, _, by omega, by omega, Good.new (by omega), ⟨fun a ha => ?_, by simp [Wd.new], by simp [Wd.new], by simp [Wd.new]⟩, hw, i1, by simp only [go_sem, simprocAttr]⟩ ?_
  · rw [List.eq_of_mem_replicate ha]; exact Nat.le_refl _
  rintro z ρ k ⟨i, own, W, hi, rfl, hG, hB, hW, hs, r5, r32, r33, r34⟩
  simp only [go_sem, simprocAttr, r5, r32, r33, r34]
  refine cnd_decide (fun hx => ?_) (fun hx => ?_)
  · have h1 : i < ys.length := by omega
    have e9 : IntKind.i64.wrap ((i : Int) + 1) = ((i + 1 : Nat) : Int) := by rw [wi64] <;> omega
    obtain ⟨b, off, sp, cc, md, cs, x, hAe, hbo, hg, hxi, hxR, hle, hdt⟩ := hs.at 3 rfl h1
    obtain ⟨rfl, hx0, hx1, hx2⟩ := rDd_iff.1 hxR
    have r32' : ρ 32 = .slice (some ⟨b, off, sp⟩) ys.length c1 := by rw [r32, hAe]
    simp only [go_sem, simprocAttr, r5, r32', r33, r34, h1, hg, hle, hdt]
    refine cl_gen fun k2 e2 => ?_
    have q2 : k.quiet k2 := by rw [e2]; simp only [go_sem, simprocAttr]
    have g2 : k2.get k.next = .cells [.int .u8 (x.kind : Nat), .int .i64 x.id, .int .i64 x.i] .rw := by rw [e2]; simp only [go_sem, simprocAttr]
    clear e2
    refine cl_spec (do_ok (by omega) (hW.quiet q2 0) hB (by rw [u8_max] at hx0; omega) ⟨hx1, hx2⟩) (fun _ _ _ hc => absurd hc (by decide +kernel)) ?_
    rintro u k3 ⟨rfl, own3, hW3, kp3⟩
    have hG3 := hG.do x
    have hB3 := hB.do hW.step x
    have hs3 := kp3.sl (hs.mono (quiet_other q2))
    simp only [go_sem, simprocAttr, r34, e9]
    exact Hold.mk ⟨ys.length - (i + 1), by omega, i + 1, own3, _, by omega, rfl, hG3, hB3, hW3, hs3, by simp only [go_sem, simprocAttr, r5, r32, r33]⟩
  · have hii : i = ys.length := by omega
    have hB : Bnd 400 W := ⟨fun a ha => Nat.le_trans (hB.a a ha) (by omega), hB.o, hB.q, Nat.le_trans hB.i (by omega)⟩
    clear hs hx hii i1 s1 hmin
    obtain ⟨h6, pc, ps, vg, vo, vn, vi, hgw, cw⟩ := hW
    have hlt : id < k.next := AHeap.lt_of_alive k (by rw [hgw]; simp)
    have gs := fun o => AHeap.get_set_self k o hlt
    simp only [go_sem, simprocAttr, r5, hgw, wdV, gs, AHeap.set_set]
    refine go_gen fun k1 e1 => ?_
    have hW1 : WdAt own k1 id { W with ords := [], anss := [] } := by
      rw [e1]
      have cz : WdC own k pc ps vg (.slice none 0 0) (.slice none 0 0) vi { W with ords := [], anss := [] } := ⟨cw.co, cw.pl, cw.ln, cw.ag, .nil _ _ _, .nil _ _ _, cw.is⟩
      exact ⟨h6, _, _, _, _, _, _, gs _, cz.cell h6 _⟩
    have hG1 : Good { W with ords := [], anss := [] } := hG.less (by simp) (by simp)
    have hB1 : Bnd 400 { W with ords := [], anss := [] } := ⟨hB.a, by simp, by simp, hB.i⟩
    clear e1 cw hgw h6 gs hG hB
    generalize ({ W with ords := [], anss := [] } : Wd) = V at hW1 hG1 hB1
    refine go_loop (fun z ρ K => ∃ (r : Nat) (own : Nat → Nat) (V : Wd), r ≤ 12 ∧ z = 12 - r ∧ Good V ∧ ms V.co.ph ≤ 3 - r ∧ Bnd (400 + 16 * r) V ∧ WdAt own K id V ∧ ρ 5 = .pointer (some ⟨id, 0, none⟩) ∧ ρ 48 = .int .i64 r) 12
      ⟨0, own, V, by omega, by omega, hG1, ms3 _, hB1, hW1, by simp only [go_sem, simprocAttr, r5]⟩ ?_
    clear hW1 hG1 hB1 V r5 r32 r33 r34 own
    rintro z ρ K ⟨r, own, V, hr, rfl, hG, hms, hB, hW, r5, r48⟩
    simp only [go_sem, simprocAttr, r5, r48]
    refine cnd_decide (fun hx => ?_) (fun hx => ?_)
    · have e9 : IntKind.i64.wrap ((r : Int) + 1) = ((r + 1 : Nat) : Int) := by rw [wi64] <;> omega
      have hW' := hW
      obtain ⟨h6, pc, ps, vg, vo, vn, vi, hgw, cw⟩ := hW'
      simp only [go_sem, simprocAttr, r5, hgw, wdV]
      refine cl_spec (cStep_ok cw.co) (fun _ _ _ hc => absurd hc (by decide +kernel)) ?_
      rintro u K1 ⟨o1, q1⟩
      have hst := hW.step
      have hW1 := hW.quiet q1 0
      have o1' : IsSl rOrd (tg (bump own K 0) 0) K1 V.co.step u := o1.slz.mono fun j hj _ => ⟨bump_ge hj, rfl⟩
      obtain ⟨as_, cs_, rfl⟩ := o1.sl.shape
      obtain ⟨hGr, hmr⟩ := hG.round
      have hin : ∀ (j : Nat) o, V.co.step[j]? = some o → 0 ≤ o.1 ∧ o.1.toNat < V.ags.length := by
        intro j o ho
        have := List.mem_of_getElem? ho
        unfold Co.step at this
        split at this
        · cases this
        · obtain ⟨y, hy, rfl⟩ := List.mem_map.1 this
          have := hG.c.op y hy
          have := hG.c.nn
          dsimp only; omega
      have hlen : ∀ l : List (Int × Int × Int), (l.foldl Wd.dl V).ags.length = V.ags.length := by
        intro l
        generalize V = V'
        induction l generalizing V' with
        | nil => rfl
        | cons o l ih => exact (ih _).trans (Wd.dl_len _ _)
      have hrnd : V.round = V.co.step.foldl Wd.dl V := rfl
      generalize V.co.step = st at *
      simp only [go_sem, simprocAttr]
      refine go_loop (fun z ρ K => ∃ (j : Nat) (own : Nat → Nat), j ≤ st.length ∧ z = st.length - j ∧ Bnd (400 + 16 * r + j) ((st.take j).foldl Wd.dl V) ∧ WdAt own K id ((st.take j).foldl Wd.dl V) ∧ IsSl rOrd (tg own 0) K st (.slice as_ st.length cs_) ∧
        ρ 5 = .pointer (some ⟨id, 0, none⟩) ∧ ρ 48 = .int .i64 r ∧ ρ 54 = .slice as_ st.length cs_ ∧ ρ 55 = .int .i64 st.length ∧ ρ 56 = .int .i64 j) st.length
        ⟨0, _, by omega, by omega, hB, hW1, o1', by simp only [go_sem, simprocAttr, r5, r48]⟩ ?_
      clear hW1 o1' o1 cw hgw h6 hB
      rintro z ρ K2 ⟨j, own2, hj, rfl, hB, hW, hs, r5, r48, r54, r55, r56⟩
      simp only [go_sem, simprocAttr, r5, r48, r54, r55, r56]
      refine cnd_decide (fun hy => ?_) (fun hy => ?_)
      · have h2 : j < st.length := by omega
        have e8 : IntKind.i64.wrap ((j : Int) + 1) = ((j + 1 : Nat) : Int) := by rw [wi64] <;> omega
        obtain ⟨b, off, sp, cc, md, cs, o, hAe, hbo, hg, hoi, hoR, hle, hdt⟩ := hs.at 3 rfl h2
        obtain ⟨rfl, ho⟩ := rOrd_iff.1 hoR
        have et : (st.take (j + 1)).foldl Wd.dl V = ((st.take j).foldl Wd.dl V).dl o := by rw [List.take_add_one, hoi, List.foldl_append]; rfl
        obtain ⟨in0, in1⟩ := hin j o hoi
        rw [← hlen (st.take j)] at in1
        generalize (st.take j).foldl Wd.dl V = X at hB hW et in1
        obtain ⟨y1, y2, y3⟩ := o
        dsimp only at ho in0 in1 et hoi hdt
        obtain ⟨t, rfl⟩ := Int.eq_ofNat_of_zero_le in0
        rw [Int.toNat_natCast] at in1
        obtain ⟨h6, pc, ps, vg, vo, vn, vi, hgw, cw⟩ := hW
        have hlt : id < K2.next := AHeap.lt_of_alive K2 (by rw [hgw]; simp)
        have htp : t < ps.length := by rw [cw.ln]; exact in1
        have r54' : ρ 54 = .slice (some ⟨b, off, sp⟩) st.length cs_ := by rw [r54, hAe]
        obtain ⟨ag, cg, rfl⟩ := cw.pl.shape
        have hlg := cw.pl.len
        obtain ⟨b3, off3, sp3, cc3, md3, v, p, hA3, _, hg3, hpi, hR, hcc3⟩ := cw.pl.at1 rfl htp
        obtain rfl : v = _ := by simpa using rP_iff.1 hR
        obtain ⟨a, hai, hag⟩ := cw.lt hpi
        have hb3 : b3 < K2.next := AHeap.lt_of_alive K2 (by rw [hg3]; simp)
        have gp : ∀ oo, (K2.push oo).get id = _ := fun oo => (AHeap.get_push_lt _ _ hlt).trans hgw
        have gp3 : ∀ oo, (K2.push oo).get b3 = _ := fun oo => (AHeap.get_push_lt _ _ hb3).trans hg3
        simp only [go_sem, simprocAttr, r5, r54', r55, r56, h2, hg, hle, hdt, gp, wdV, hA3, gp3, hcc3, htp]
        refine cl_gen fun k2 e2 => ?_
        have q2 : K2.quiet k2 := by rw [e2]; exact .push _ _
        have g2 : k2.get K2.next = .cells [.int .i64 (t : Nat), .int .i64 y2, .int .i64 y3] .rw := by rw [e2]; exact AHeap.get_push_self _ _
        have n2 : k2.next = K2.next + 1 := by rw [e2]; simp
        clear e2
        have c2 := cw.quiet q2 0
        have hgw2 := (q2.2 id hlt).trans hgw
        have h62 : bump own2 K2 0 id = 6 := (bump_lt hlt).trans h6
        have hs2 : IsSl rOrd (tg (bump own2 K2 0) 0) k2 st _ := hs.mono (quiet_other q2)
        have hb2 : bump own2 K2 0 K2.next = 0 := bump_ge (Nat.le_refl _)
        have hlt2 : id < k2.next := by omega
        generalize bump own2 K2 0 = ow at c2 h62 hs2 hb2
        obtain ⟨a_, hai_, hag2⟩ := c2.lt hpi
        rw [hai] at hai_
        obtain rfl : a = a_ := Option.some.inj hai_
        have hcl := hB.a a (List.mem_of_getElem? hai)
        refine cl_hard [5, 10] (by decide +kernel) (Order_ok hag2 ho.2.2 (by omega)) (fun v h' hp t' ht' y hy => ?_) ?_
        · have ht2 : t' = 5 ∨ t' = 10 := by simpa using ht'
          rcases ht2 with rfl | rfl
          · replace hy : vblk (.pointer (some ⟨id, 0, none⟩)) = some y := by rw [← hy]; simp only [go_sem, simprocAttr, r5]
            cases hy
            exact hp.2.2.2 id hlt2 (fun e => by have : ow id = 10 + t := e; omega)
          · replace hy : vblk (.pointer (some ⟨K2.next, 0, none⟩)) = some y := by rw [← hy]; simp only [go_sem, simprocAttr]
            cases hy
            exact hp.2.2.2 K2.next (by omega) (fun e => by have : ow K2.next = 10 + t := e; omega)
        rintro u k3 ⟨rfl, hag3, f3⟩
        have c3 := c2.setAg hpi f3 hag3
        have hgw3 := (f3.2 id hlt2 (fun e => by have : ow id = 10 + t := e; omega)).trans hgw2
        have gb3 := (f3.2 K2.next (by omega) (fun e => by have : ow K2.next = 10 + t := e; omega)).trans g2
        have h63 : bump ow k2 (10 + t) id = 6 := (bump_lt hlt2).trans h62
        have hs3 : IsSl rOrd (tg (bump ow k2 (10 + t)) 0) k3 st _ := hs2.mono (f3.other (by omega))
        have hlt3 : id < k3.next := by have := f3.1; omega
        generalize bump ow k2 (10 + t) = ow3 at c3 h63 hs3
        simp only [go_sem, simprocAttr, gb3]
        refine cl_spec (cHear_ok c3.co) (fun _ _ _ hc => absurd hc (by decide +kernel)) ?_
        rintro u k4 ⟨rfl, hc4, f4⟩
        have c4 := c3.setCo f4 hc4
        have hgw4 := (f4.2 id hlt3 (fun e => by have : ow3 id = 1 := e; omega)).trans hgw3
        simp only [go_sem, simprocAttr, r56, e8]
        have ex : X.dl ((t : Nat), y2, y3) = { X with ags := X.ags.set t (a.order y2 y3).2, co := (X.co.hear (t : Nat) (a.order y2 y3).1 y3).2 } := by
          unfold Wd.dl
          show (match X.ags[((t : Nat) : Int).toNat]? with | none => X | some a => _ : Wd) = _
          rw [Int.toNat_natCast, hai]
        refine Hold.mk ⟨st.length - (j + 1), by omega, j + 1, bump ow3 k3 1, by omega, rfl, ?_, ?_, hs3.mono (f4.other (by decide)), by simp only [go_sem, simprocAttr, r5, r48, r54, r55, hAe]⟩
        · rw [et]; exact hB.dl _
        · rw [et, ex]
          exact ⟨(bump_lt hlt3).trans h63, _, _, _, _, _, _, hgw4, c4⟩
      · have hjj : j = st.length := by omega
        rw [hjj, List.take_length, ← hrnd] at hB hW
        simp only [go_sem, simprocAttr, r48, e9]
        exact Hold.mk ⟨12 - (r + 1), by omega, r + 1, own2, _, by omega, rfl, hGr, by omega, ⟨fun a ha => Nat.le_trans (hB.a a ha) (by omega), hB.o, hB.q, Nat.le_trans hB.i (by omega)⟩, hW, by simp only [go_sem, simprocAttr, r5]⟩
    · have hr12 : r = 12 := by omega
      subst hr12
      have hph : V.co.ph = 0 := ms0 (by omega)
      have hid0 := hG.c.p0 hph
      have hW' := hW
      obtain ⟨h6, pc, ps, vg, vo, vn, vi, hgw, cw⟩ := hW'
      obtain ⟨ag, cg, rfl⟩ := cw.pl.shape
      have hlg := cw.pl.len
      obtain ⟨ai, ci, rfl⟩ := cw.is.sl.shape
      have hli := cw.is.sl.len
      simp only [go_sem, simprocAttr, r5, hgw, wdV]
      refine cl_spec (cPhase_ok cw.co) (fun _ _ _ hc => absurd hc (by decide +kernel)) ?_
      rintro u k2 ⟨rfl, hk⟩
      obtain rfl : K = k2 := hk.symm
      simp only [go_sem, simprocAttr, r5, hgw, wdV, hph, hid0]
      refine go_loop (fun z ρ K' => ∃ j : Nat, j ≤ ps.length ∧ z = ps.length - j ∧ K = K' ∧ ρ 5 = .pointer (some ⟨id, 0, none⟩) ∧ ρ 101 = .slice ag ps.length cg ∧ ρ 102 = .int .i64 ps.length ∧ ρ 103 = .int .i64 j) ps.length ⟨0, by omega, by omega, rfl, by simp only [go_sem, simprocAttr, r5]⟩ ?_
      clear r5
      rintro z ρ K' ⟨j, hj, rfl, rfl, r5, r101, r102, r103⟩
      simp only [go_sem, simprocAttr, r5, r101, r102, r103]
      refine cnd_decide (fun hy => ?_) (fun hy => ?_)
      · have h2 : j < ps.length := by omega
        have e8 : IntKind.i64.wrap ((j : Int) + 1) = ((j + 1 : Nat) : Int) := by rw [wi64] <;> omega
        obtain ⟨b3, off3, sp3, cc3, md3, v, p, hA3, _, hg3, hpi, hR, hcc3⟩ := cw.pl.at1 rfl h2
        obtain rfl : v = _ := by simpa using rP_iff.1 hR
        obtain ⟨a, hai, hag⟩ := cw.lt hpi
        have hen := fun x => hG.ended hph j a x hai
        simp only [go_sem, simprocAttr, r5, r101, r102, r103, hA3, hg3, hcc3, h2, hgw, wdV]
        refine go_loop (fun z ρ K' => ∃ t : Nat, t ≤ V.ids.length ∧ z = V.ids.length - t ∧ K = K' ∧ ρ 5 = .pointer (some ⟨id, 0, none⟩) ∧ ρ 101 = .slice ag ps.length cg ∧ ρ 102 = .int .i64 ps.length ∧ ρ 103 = .int .i64 j ∧
          ρ 14 = .pointer (some ⟨p, 0, none⟩) ∧ ρ 110 = .slice ai V.ids.length ci ∧ ρ 111 = .int .i64 V.ids.length ∧ ρ 112 = .int .i64 t) V.ids.length ⟨0, by omega, by omega, rfl, by simp only [go_sem, simprocAttr, r5, r101, r102, r103, hA3]⟩ ?_
        clear r5 r101 r102 r103
        rintro z ρ K' ⟨t, ht, rfl, rfl, r5, r101, r102, r103, r14, r110, r111, r112⟩
        simp only [go_sem, simprocAttr, r5, r101, r102, r103, r14, r110, r111, r112]
        refine cnd_decide (fun hz => ?_) (fun hz => ?_)
        · have h3 : t < V.ids.length := by omega
          have e7 : IntKind.i64.wrap ((t : Int) + 1) = ((t + 1 : Nat) : Int) := by rw [wi64] <;> omega
          obtain ⟨b4, off4, sp4, cc4, md4, y, hA4, _, hg4, hyi, hyy, hcc4⟩ := cw.is.sl.atI h3
          have r110' : ρ 110 = .slice (some ⟨b4, off4, sp4⟩) V.ids.length ci := by rw [r110, hA4]
          simp only [go_sem, simprocAttr, r5, r14, r110', r111, r112, hg4, hcc4, h3, hgw, wdV]
          refine cl_spec (aCommitted_ok hag) (fun u h' hp _ => hp.2 ▸ .refl _) ?_
          rintro u K2 ⟨rfl, hk⟩
          obtain rfl : K = K2 := hk.symm
          simp only [go_sem, simprocAttr, r5, r14, hgw, wdV]
          refine cl_spec (cState_ok cw.co) (fun _ _ _ hc => absurd hc (by decide +kernel)) ?_
          rintro u K2 ⟨rfl, hk⟩
          obtain rfl : K = K2 := hk.symm
          have heq : decide (y ∈ a.com) = decide (V.co.state y = 2) := decide_eq_decide.2 (hen y)
          simp only [go_sem, simprocAttr, heq, r112, e7]
          exact Hold.mk ⟨V.ids.length - (t + 1), by omega, t + 1, by omega, rfl, rfl, by simp only [go_sem, simprocAttr, r5, r101, r102, r103, r14, r110, r111, hA4]⟩
        · simp only [go_sem, simprocAttr, r103, e8]
          exact Hold.mk ⟨ps.length - (j + 1), by omega, j + 1, by omega, rfl, rfl, by simp only [go_sem, simprocAttr, r5, r101, r102, hA3]⟩
      · simp only [go_sem, simprocAttr, r5]
        refine cl_spec (right_ok hW hG.right) (fun _ _ _ hc => absurd hc (by decide +kernel)) ?_
        rintro u K2 ⟨rfl, hk⟩
        simp only [go_sem, simprocAttr]
end
end Go.Proofs.Ytbcgipcgcjkfcaa
