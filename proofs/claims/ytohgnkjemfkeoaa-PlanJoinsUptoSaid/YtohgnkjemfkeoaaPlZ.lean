/- plan: maps and ops are not turned, and what was answered may be written over. -/
import Derived.Test.YtohgnkjemfkeoaaPlX
set_option linter.unusedSimpArgs false
set_option linter.unusedVariables false
set_option linter.unnecessarySimpa false
set_option maxRecDepth 100000
namespace Go.Proofs.Ytohgnkjemfkeoaa
open Go.AM

section
variable {h : AHeap} {S : Nat → Prop}
theorem Piece.ext' {x y : Piece} (h1 : x.frm = y.frm) (h2 : x.to = y.to) (h3 : x.node = y.node) : x = y := by cases x; cases y; simp_all

theorem rPieces_ok {xs ys : List Piece} {v w : Value} (hx : IsSl rPiece S h xs v) (hy : IsSl rPiece S h ys w) : Does Try.prog 19 #[v, w] h (fun u h' => u = .bool (decide (xs = ys)) ∧ h' = h) := by
  obtain ⟨a, c, rfl⟩ := hx.shape
  obtain ⟨a2, c2, rfl⟩ := hy.shape
  have l1 := hx.len
  refine spec_go mixed Try.func19 rfl Try.results19 (n := Try.f19.ntmps) (by kernel_rfl) (by simp) ?_
  simp only [go_sem, simprocAttr]
  by_cases hl : xs.length = ys.length
  · have hl' : ((xs.length : Nat) : Int) = ys.length := by omega
    simp only [go_sem, simprocAttr, hl', decide_true]
    refine go_loop (fun z ρ k => ∃ i : Nat, i ≤ xs.length ∧ z = xs.length - i ∧ k = h ∧ xs.take i = ys.take i ∧ ρ 0 = .slice a xs.length c ∧ ρ 1 = .slice a2 ys.length c2 ∧ ρ 5 = .int .i64 i) xs.length ⟨0, by omega, by omega, rfl, rfl, by simp only [go_sem, simprocAttr]⟩ ?_
    rintro z ρ k ⟨i, hi, rfl, rfl, ht, r0, r1, r5⟩
    simp only [go_sem, simprocAttr, r0, r1, r5]
    refine cnd_decide (fun hx' => ?_) (fun hx' => ?_)
    · have h1 : i < xs.length := by omega
      have h2 : i < ys.length := by omega
      obtain ⟨b, off, sp, cc, md, x, rfl, _, hg, hxi, hmx, hle, hdt, _⟩ := hx.atPiece h1
      obtain ⟨b2, off2, sp2, cc2, md2, y, rfl, _, hg2, hyi, hmy, hle2, hdt2, _⟩ := hy.atPiece h2
      have e9 : IntKind.i64.wrap ((i : Int) + 1) = ((i + 1 : Nat) : Int) := by rw [wi64] <;> omega
      obtain ⟨s1, s2⟩ := take_eq_step ht hxi hyi
      by_cases e : x = y
      · subst e
        simp only [go_sem, simprocAttr, r0, r1, r5, h1, h2, hg, hle, hdt, hg2, hle2, hdt2, e9, decide_true]
        exact Hold.mk ⟨xs.length - (i + 1), by omega, i + 1, by omega, rfl, rfl, s1 rfl, by simp only [go_sem, simprocAttr, r0, r1]⟩
      · have ef : (decide (x.frm = y.frm) && (decide (x.to = y.to) && decide (x.node = y.node))) = false := by
          by_cases e1 : x.frm = y.frm <;> by_cases e2 : x.to = y.to <;> by_cases e3 : x.node = y.node <;> simp [e1, e2, e3]
          exact e (Piece.ext' e1 e2 e3)
        simp only [go_sem, simprocAttr, r0, r1, r5, h1, h2, hg, hle, hdt, hg2, hle2, hdt2, e9, ef]
        exact congrArg Value.bool (decide_eq_false (s2 e)).symm
    · have : i = xs.length := by omega
      subst this
      rw [List.take_length, hl, List.take_length] at ht
      simp only [go_sem, simprocAttr]
      exact congrArg Value.bool (decide_eq_true ht).symm
  · have hl' : ¬ ((xs.length : Nat) : Int) = ys.length := by omega
    simp only [go_sem, simprocAttr, hl', decide_false]
    exact congrArg Value.bool (decide_eq_false (fun e => hl (by rw [e]))).symm

/-! What is written over: numbers of which nothing is known but how many. -/
theorem map_inj {k : IntKind} {xs ys : List Nat} (h : (xs.map fun n => Value.int k (n : Nat)) = ys.map fun n => .int k (n : Nat)) : xs = ys := by
  have : Function.Injective fun n : Nat => Value.int k (n : Nat) := fun a b e => by simp at e; omega
  exact (List.map_inj_right (fun a b e => this e)).1 h
theorem _root_.Go.AM.OwnSl.write {k : IntKind} {xs zs : List Nat} {v : Value} {ob i y : Nat} (ho : OwnSl k S h xs v) (hg : h.get ob = .cells (zs.map fun n => .int k (n : Nat)) (.tail 1)) (hy : (y : Int) ≤ k.max) :
    ∃ xs', xs'.length = xs.length ∧ OwnSl k S (h.set ob (.cells ((zs.map fun n => .int k (n : Nat)).set i (.int k (y : Nat))) (.tail 1))) xs' v := by
  obtain ⟨a, rfl, h1, h2, ⟨rfl, h3⟩ | ⟨b, rfl, h3, h4⟩⟩ := ho
  · exact ⟨[], rfl, a, rfl, h1, by simp, .inl ⟨rfl, h3⟩⟩
  · have hlt : b < h.next := AHeap.lt_of_alive h (by rw [h4]; simp)
    by_cases e : ob = b
    · subst e
      rw [h4] at hg
      injection hg with hg _
      have := map_inj hg
      subst this
      refine ⟨xs.set i y, by simp, _, by rw [List.length_set], by simpa using h1, ?_, .inr ⟨ob, rfl, h3, ?_⟩⟩
      · intro x hx
        rcases List.mem_or_eq_of_mem_set hx with hx | rfl
        · exact h2 x hx
        · exact hy
      · rw [AHeap.get_set_self _ _ hlt, List.map_set]
    · exact ⟨xs, rfl, _, rfl, h1, h2, .inr ⟨b, rfl, h3, by rw [AHeap.get_set_ne _ _ e]; exact h4⟩⟩
end
/-- A part of which nothing is known but how many numbers it has. -/
def rAny : Rep Nat where
  sz := 6
  R S h n c := ∃ x1 x2 x3 x4 x5 xs d, xs.length = n ∧ c = [.int .i64 x1, .int .i64 x2, .int .i64 x3, .int .i64 x4, .int .i64 x5, d] ∧ OwnSl .u64 S h xs d
  pos := by decide
  len := by rintro S h n c ⟨x1, x2, x3, x4, x5, xs, d, _, rfl, _⟩; rfl
  one := by rintro S h n c ⟨x1, x2, x3, x4, x5, xs, d, _, rfl, a, rfl, _⟩; rfl
  mono := by rintro S S' h h' n c ⟨x1, x2, x3, x4, x5, xs, d, h1, h2, h3⟩ hm; exact ⟨x1, x2, x3, x4, x5, xs, d, h1, h2, h3.mono hm⟩

theorem _root_.Go.AM.Lst.any {lo : Nat} {T : Nat → Prop} {h : AHeap} {ps : List Part} {v : Value} (hl : Lst rPartO lo T h ps v) : Lst rAny lo T h (ps.map fun p => p.op.data.length) v := by
  obtain ⟨css, ha, h0, hv⟩ := hl
  refine ⟨css, ?_, by simpa using h0, ?_⟩
  · refine ⟨by simpa using ha.1, fun i x y hx hy => ?_⟩
    rw [List.getElem?_map, Option.map_eq_some_iff] at hx
    obtain ⟨p, hp, rfl⟩ := hx
    obtain ⟨d, rfl, _, _, _, h5⟩ := rPartO_iff.1 (ha.2 i p y hp hy)
    exact ⟨_, _, _, _, _, _, d, rfl, rfl, h5⟩
  · rcases hv with ⟨a, k1, k2, k3⟩ | ⟨ob, k1, k2, k3⟩
    · exact .inl ⟨a, k1, by rw [k2]; rfl, k3⟩
    · exact .inr ⟨ob, by rw [k1]; simp; rfl, k2, k3⟩
theorem _root_.Go.AM.Lst.write {lo : Nat} {T : Nat → Prop} {h : AHeap} {ns zs : List Nat} {v : Value} {ob i y : Nat} (hl : Lst rAny lo T h ns v) (hob : blk v ≠ some ob) (hg : h.get ob = .cells (zs.map fun n => .int .u64 (n : Nat)) (.tail 1)) (hy : (y : Int) ≤ IntKind.u64.max) :
    Lst rAny lo T (h.set ob (.cells ((zs.map fun n => .int .u64 (n : Nat)).set i (.int .u64 (y : Nat))) (.tail 1))) ns v := by
  obtain ⟨css, ha, h0, hv⟩ := hl
  refine ⟨css, ha.mono fun x c _ _ hr => ?_, h0, ?_⟩
  · obtain ⟨x1, x2, x3, x4, x5, xs, d, e1, e2, e3⟩ := hr
    obtain ⟨xs', k1, k2⟩ := e3.write hg hy
    exact ⟨x1, x2, x3, x4, x5, xs', d, by rw [k1, e1], e2, k2⟩
  · rcases hv with ⟨a, k1, k2, k3⟩ | ⟨b, k1, k2, k3⟩
    · exact .inl ⟨a, k1, k2, fun ad e => by simpa using k3 ad e⟩
    · refine .inr ⟨b, k1, k2, ?_⟩
      rw [AHeap.get_set_ne _ _ (by rintro rfl; rw [k1] at hob; exact hob rfl)]; exact k3

theorem u64_ex (z : Int) : ∃ y : Nat, IntKind.u64.wrap z = (y : Nat) ∧ (y : Int) ≤ IntKind.u64.max := ⟨(z % 18446744073709551616).toNat, by rw [wrap_u64]; omega, by rw [u64_max]; omega⟩

theorem own_ok {h : AHeap} {m : SMap} {o : Op} {v d : Value} (hd : IsSl rPiece (· < h.next) h m.ps v) (hod : Words (· < h.next) h o.data d) (hb : m.ps.length ≤ 1073741824 ∧ o.data.length ≤ 1073741824) : Does Try.prog 5 #[mapV m v, opV o d] h (fun u _ => u = .bool true) := by
  obtain ⟨a, c, rfl⟩ := hd.shape
  obtain ⟨a2, c2, rfl⟩ := hod.shape
  refine spec_go mixed Try.func5 rfl Try.results5 (n := Try.f5.ntmps) (by kernel_rfl) (by simp) ?_
  generalize eH : (h.push (.cells [.int .i64 m.ver, .int .i64 m.n, .slice a m.ps.length c] .rw)).push (.cells [.int .i64 o.kind, .int .i64 o.off, .int .i64 o.len, .slice a2 o.data.length c2] .rw) = H
  have qH : h.quiet H := by rw [← eH]; simp only [go_sem, simprocAttr]
  have nH : H.next = h.next + 1 + 1 := by rw [← eH]; simp
  have g1 : H.get h.next = .cells [.int .i64 m.ver, .int .i64 m.n, .slice a m.ps.length c] .rw := by rw [← eH]; simp only [go_sem, simprocAttr]
  have g2 : H.get (h.next + 1) = .cells [.int .i64 o.kind, .int .i64 o.off, .int .i64 o.len, .slice a2 o.data.length c2] .rw := by rw [← eH]; simp only [go_sem, simprocAttr]
  obtain ⟨css, ec, hac⟩ := (hd.quiet qH).acells 3 rfl
  obtain ⟨u1, k1, e1, hl1, hf1, _⟩ := (Lst.nil rPiece H.next (fun _ => False) H).app (ys := m.ps) (css' := css) (n := m.ps.length) 3 rfl (bytes := 24) (hac.mono fun x y _ _ hr => rPiece_iff.2 (rPiece_iff.1 hr)) rfl (by simp; omega) (by simp; omega) (Nat.le_refl _)
  have q1 : H.quiet k1 := hf1.quiet (fun j _ e => by cases e)
  have Q1 := qH.trans q1
  obtain ⟨u2, k2, e2, hl2, hf2, _⟩ := (Lst.nil rW k1.next (fun _ => False) k1).app (ys := o.data) 1 rfl (bytes := 8) (n := o.data.length) (nat_all2 (fun n hn => by have := hod.vals rfl n hn; exact this)) rfl (by simp; omega) (by simp; omega) (Nat.le_refl _)
  rw [nat_flat] at e2
  have q2 : k1.quiet k2 := hf2.quiet (fun j _ e => by cases e)
  have Q2 := Q1.trans q2
  have l1 : h.next < k2.next := by have := q1.1; have := q2.1; omega
  have l2 : h.next + 1 < k2.next := by have := q1.1; have := q2.1; omega
  have G1 := ((q1.trans q2).2 _ (by omega)).trans g1
  have G2 := ((q1.trans q2).2 _ (by omega)).trans g2
  simp only [List.nil_append] at hl1 hl2
  have P1 : IsSl rPiece (· < k2.next) k2 m.ps u1 := (((hl1.isSl (S := fun _ => True) (fun _ _ _ => trivial) (fun _ _ => trivial)).bound).weaken (fun j hj => hj.2)).mono fun j hj _ => ⟨by have := q2.1; omega, q2.2 j hj⟩
  have P2 : Words (· < k2.next) k2 o.data u2 := ((hl2.isSl (S := fun _ => True) (fun _ _ _ => trivial) (fun _ _ => trivial)).bound).weaken (fun j hj => hj.2)
  have P3 : IsSl rPiece (· < k2.next) k2 m.ps (.slice a m.ps.length c) := ((hd.quiet Q2).bound).weaken (fun j hj => hj.2)
  have P4 : Words (· < k2.next) k2 o.data (.slice a2 o.data.length c2) := ((hod.quiet Q2).bound).weaken (fun j hj => hj.2)
  have done : ∀ K, Fw (k2.next ≤ ·) k2 K → K.get h.next = .cells [.int .i64 m.ver, .int .i64 m.n, .slice a m.ps.length c] .rw ∧ K.get (h.next + 1) = .cells [.int .i64 o.kind, .int .i64 o.off, .int .i64 o.len, .slice a2 o.data.length c2] .rw := fun K f =>
    ⟨(f.2 _ l1 (by omega)).trans G1, (f.2 _ l2 (by omega)).trans G2⟩
  have hones := hac.ones
  clear hl1 hl2 hac
  simp only [go_sem, simprocAttr, eH, ec, hones, e1, e2, g1, g2, (q1.2 _ (show h.next + 1 < H.next by omega)).trans g2, ((hod.quiet Q1)).acellsN, G1]
  refine cl_spec (theirs_ok (hd.quiet Q2)) (fun u h' hp _ => hp.2) ?_
  rintro u k3 ⟨rfl, q3⟩
  have F3 : Fw (k2.next ≤ ·) k2 k3 := .of_quiet q3
  simp only [go_sem, simprocAttr, (done _ F3).2]
  refine cl_spec (ops_ok (hd.quiet (Q2.trans q3)) (hod.quiet (Q2.trans q3))) (fun _ _ _ hc => absurd hc (by decide +kernel)) ?_
  rintro u k4 ⟨q4, w, rfl, hp⟩
  have Q4 := q3.trans q4
  obtain ⟨aw, cw, rfl, _⟩ := hp.len
  simp only [go_sem, simprocAttr]
  refine cl_spec (Whole_ok hp.sl) (fun _ _ _ hc => absurd hc (by decide +kernel)) ?_
  rintro u k5 ⟨q5, dw, rfl, hown⟩
  have Q5 := Q4.trans q5
  obtain ⟨ad, rfl⟩ := hown.shape
  have LA : Lst rAny k2.next (k2.next ≤ ·) k5 ((m.ops o).map fun p => p.op.data.length) (.slice aw (m.ops o).length cw) :=
    (hp.any.mono q3.1 (Nat.le_refl _) (fun j hj _ _ => ⟨Nat.le_trans q3.1 hj, rfl⟩) (fun _ _ _ => rfl)).quiet q5
  have hbw : ∀ j, blk (.slice aw (m.ops o).length cw) = some j → j < k4.next := fun j hj => (hp.blk_ge hj).2
  generalize (whole (m.ops o)).1 = wo at *
  generalize (whole (m.ops o)).2 = we at *
  have hwl : wo.data.length ≤ 281474976710656 := by obtain ⟨_, _, e, _⟩ := hown; exact e
  have hlen := ops_len m o
  simp only [go_sem, simprocAttr]
  refine go_gen fun H6 e6 => ?_
  obtain ⟨g6, lg6, q6⟩ := AHeap.quiet.box (h := k5) (k := H6) (by rw [e6]; exact .refl _)
  clear e6
  have Q6 := Q5.trans q6
  have own6 : OwnSl .u64 (k4.next ≤ ·) H6 wo.data (.slice ad wo.data.length wo.data.length) := hown.mono fun j hj hl => ⟨hj, q6.2 j hl⟩
  have LA6 := LA.quiet q6
  have hk5 : k2.next ≤ k5.next := Q5.1
  refine go_cutb (fun ρ K => Fw (k2.next ≤ ·) k2 K ∧ Lst rAny k2.next (k2.next ≤ ·) K ((m.ops o).map fun p => p.op.data.length) (.slice aw (m.ops o).length cw) ∧
    ρ 2 = .pointer (some ⟨h.next, 0, none⟩) ∧ ρ 3 = .pointer (some ⟨h.next + 1, 0, none⟩) ∧ ρ 5 = u1 ∧ ρ 6 = u2 ∧ ρ 7 = .slice aw (m.ops o).length cw) ?_ ?_
  · refine go_loop (fun z ρ K => ∃ (i : Nat) (xs : List Nat), i ≤ wo.data.length ∧ z = wo.data.length - i ∧ xs.length = wo.data.length ∧ Fw (k2.next ≤ ·) k2 K ∧ Lst rAny k2.next (k2.next ≤ ·) K ((m.ops o).map fun p => p.op.data.length) (.slice aw (m.ops o).length cw) ∧
      OwnSl .u64 (k4.next ≤ ·) K xs (.slice ad wo.data.length wo.data.length) ∧ K.get k5.next = .cells [.int .i64 wo.kind, .int .i64 wo.off, .int .i64 wo.len, .slice ad wo.data.length wo.data.length] .rw ∧
      ρ 2 = .pointer (some ⟨h.next, 0, none⟩) ∧ ρ 3 = .pointer (some ⟨h.next + 1, 0, none⟩) ∧ ρ 5 = u1 ∧ ρ 6 = u2 ∧ ρ 7 = .slice aw (m.ops o).length cw ∧ ρ 9 = .pointer (some ⟨k5.next, 0, none⟩) ∧ ρ 34 = .int .i64 wo.data.length ∧ ρ 35 = .int .i64 i) wo.data.length
      ⟨0, wo.data, by omega, by omega, rfl, .of_quiet Q6, LA6, own6, g6, by simp only [go_sem, simprocAttr]⟩ ?_
    rintro z ρ K ⟨i, xs, hi, rfl, hxs, fK, lK, oK, gK, r2, r3, r5, r6, r7, r9, r34, r35⟩
    simp only [go_sem, simprocAttr, r2, r3, r5, r6, r7, r9, r34, r35]
    refine cnd_decide (fun hx => ?_) (fun hx => ?_)
    · have h1 : i < wo.data.length := by omega
      have h2 : i + 1 ≤ wo.data.length := by omega
      have e9 : IntKind.i64.wrap ((i : Int) + 1) = ((i + 1 : Nat) : Int) := by rw [wi64] <;> omega
      have oK2 := oK
      obtain ⟨a', ea, h3, h4, ⟨h5, _⟩ | ⟨ob, rfl, h5, h6⟩⟩ := oK
      · rw [h5] at hxs; simp at hxs; omega
      · injection ea with ea1 _ _
        subst ea1
        have hxi : (xs.map fun n => Value.int .u64 (n : Nat))[i]? = some (.int .u64 (xs.getD i 0 : Nat)) := by
          rw [List.getElem?_map, List.getD_eq_getElem?_getD, List.getElem?_eq_getElem (by omega)]; rfl
        obtain ⟨y, ey, hy⟩ := u64_ex ((xs.getD i 0 : Nat) + 1)
        have hne : ob ≠ k5.next := by rintro rfl; rw [gK] at h6; simp at h6
        have hml : (xs.map fun n => Value.int .u64 (n : Nat)).length = wo.data.length := by simpa using hxs
        simp only [go_sem, simprocAttr, r2, r3, r5, r6, r7, r9, r34, r35, gK, h1, h2, h6, hxi, ey, hml, e9]
        obtain ⟨xs', k1', k2'⟩ := oK2.write (i := i) h6 hy
        refine Hold.mk ⟨wo.data.length - (i + 1), by omega, i + 1, xs', by omega, rfl, by omega, fK.trans (.set _) (fun _ _ e => e) (fun j hj e => by subst e; have := q3.1; have := q4.1; omega), lK.write (fun e => by have := hbw _ e; omega) h6 hy, k2', (AHeap.get_set_ne _ _ hne).trans gK, by simp only [go_sem, simprocAttr, r2, r3, r5, r6, r7, r9, r34]⟩
    · simp only [go_sem, simprocAttr, r2, r3, r5, r6, r7]
      exact Hold.mk ⟨fK, lK, r2, r3, r5, r6, r7⟩
  · rintro ρ K ⟨fK, lK, r2, r3, r5, r6, r7⟩
    simp only [go_sem, simprocAttr, r2, r3, r5, r6, r7]
    generalize hns : ((m.ops o).map fun p => p.op.data.length) = ns at *
    have hnl : (m.ops o).length = ns.length := by rw [← hns]; simp
    rw [hnl] at lK r7 hbw hlen ⊢
    refine go_loop (fun z ρ K => ∃ i : Nat, i ≤ ns.length ∧ z = ns.length - i ∧ Fw (k2.next ≤ ·) k2 K ∧ Lst rAny k2.next (k2.next ≤ ·) K ns (.slice aw ns.length cw) ∧
      ρ 2 = .pointer (some ⟨h.next, 0, none⟩) ∧ ρ 3 = .pointer (some ⟨h.next + 1, 0, none⟩) ∧ ρ 5 = u1 ∧ ρ 6 = u2 ∧ ρ 7 = .slice aw ns.length cw ∧ ρ 47 = .int .i64 ns.length ∧ ρ 48 = .int .i64 i) ns.length
      ⟨0, by omega, by omega, fK, lK, by simp only [go_sem, simprocAttr, r2, r3, r5, r6, r7]⟩ ?_
    rintro z ρ K ⟨i, hi, rfl, fK, lK, r2, r3, r5, r6, r7, r47, r48⟩
    simp only [go_sem, simprocAttr, r2, r3, r5, r6, r7, r47, r48]
    refine cnd_decide (fun hx => ?_) (fun hx => ?_)
    · have h1 : i < ns.length := by omega
      have e9 : IntKind.i64.wrap ((i : Int) + 1) = ((i + 1 : Nat) : Int) := by rw [wi64] <;> omega
      obtain ⟨ob, css, cs, n, rfl, hob, hg, hsz, hci, hni, hR, _, hcl, _⟩ := lK.put 6 rfl h1
      obtain ⟨x1, x2, x3, x4, x5, xs, dd, hxn, rfl, own⟩ := hR
      have hflen : css.flatten.length = ns.length * 6 := by rw [flat_length hsz, hcl]
      have hseg := flat_at hsz hci
      have f5 := seg_get hseg (k := 5) (by omega)
      simp only [List.getElem?_cons_succ, List.getElem?_cons_zero] at f5
      obtain ⟨ad', rfl⟩ := own.shape
      have hxl : xs.length ≤ 281474976710656 := by obtain ⟨_, _, e, _⟩ := own; exact e
      simp only [go_sem, simprocAttr, r2, r3, r5, r6, r7, r47, r48, h1, hg, f5]
      refine go_loop (fun z ρ K => ∃ j : Nat, j ≤ xs.length ∧ z = xs.length - j ∧ Fw (k2.next ≤ ·) k2 K ∧ Lst rAny k2.next (k2.next ≤ ·) K ns (.slice (some ⟨ob, 0, some 6⟩) ns.length cw) ∧ K.get ob = .cells css.flatten (.tail 6) ∧
        ρ 2 = .pointer (some ⟨h.next, 0, none⟩) ∧ ρ 3 = .pointer (some ⟨h.next + 1, 0, none⟩) ∧ ρ 5 = u1 ∧ ρ 6 = u2 ∧ ρ 7 = .slice (some ⟨ob, 0, some 6⟩) ns.length cw ∧ ρ 12 = .int .i64 i ∧ ρ 47 = .int .i64 ns.length ∧ ρ 48 = .int .i64 i ∧ ρ 57 = .int .i64 xs.length ∧ ρ 58 = .int .i64 j) xs.length
        ⟨0, by omega, by omega, fK, lK, hg, by simp only [go_sem, simprocAttr, r2, r3, r5, r6, r7, r47, r48]⟩ ?_
      rintro z ρ K ⟨j, hj, rfl, fK, lK, hg, r2, r3, r5, r6, r7, r12, r47, r48, r57, r58⟩
      simp only [go_sem, simprocAttr, r2, r3, r5, r6, r7, r12, r47, r48, r57, r58]
      refine cnd_decide (fun hy => ?_) (fun hy => ?_)
      · have h3 : j < xs.length := by omega
        have h4 : j + 1 ≤ xs.length := by omega
        have e8 : IntKind.i64.wrap ((j : Int) + 1) = ((j + 1 : Nat) : Int) := by rw [wi64] <;> omega
        -- what stands there now
        obtain ⟨ob', css', cs', n', e', _, hg', hsz', hci', _, hR', _, _, _⟩ := lK.put 6 rfl h1
        cases e'
        rw [hg] at hg'
        injection hg' with hg' _
        have hseg' := flat_at hsz' hci'
        rw [← hg', hseg] at hseg'
        obtain ⟨y1, y2, y3, y4, y5, ys, dd', hyn, ecs, own'⟩ := hR'
        rw [ecs] at hseg'
        simp only [List.cons.injEq, Value.int.injEq, true_and, and_true] at hseg'
        obtain ⟨_, _, _, _, _, rfl⟩ := hseg'
        have own2 := own'
        obtain ⟨a', ea, h5, h6, ⟨h7, _⟩ | ⟨oc, rfl, h7, h8⟩⟩ := own'
        · injection ea with _ e2 _; rw [h7] at e2; simp only [List.length_nil] at e2; omega
        · injection ea with ea1 ea2 _
          subst ea1
          have hyl : ys.length = xs.length := ea2.symm
          have hxi : (ys.map fun n => Value.int .u64 (n : Nat))[j]? = some (.int .u64 (ys.getD j 0 : Nat)) := by
            rw [List.getElem?_map, List.getD_eq_getElem?_getD, List.getElem?_eq_getElem (by omega)]; rfl
          obtain ⟨y, ey, hy'⟩ := u64_ex ((ys.getD j 0 : Nat) + 1)
          have hml : (ys.map fun n => Value.int .u64 (n : Nat)).length = xs.length := by simpa using hyl
          have hne : oc ≠ ob := fun e => h7.2 (by rw [e])
          simp only [go_sem, simprocAttr, r2, r3, r5, r6, r7, r12, r47, r48, r57, r58, h1, hg, f5, h3, h4, h8, hxi, ey, hml, e8]
          refine Hold.mk ⟨xs.length - (j + 1), by omega, j + 1, by omega, rfl, fK.trans (.set _) (fun _ _ e => e) (fun z hz e => by subst e; exact h7.1), lK.write (fun e => by simp at e; omega) h8 hy', (AHeap.get_set_ne _ _ hne).trans hg, by simp only [go_sem, simprocAttr, r2, r3, r5, r6, r7, r12, r47, r48, r57]⟩
      · simp only [go_sem, simprocAttr, r2, r3, r5, r6, r7, r12, r47, r48, e9]
        exact Hold.mk ⟨ns.length - (i + 1), by omega, i + 1, by omega, rfl, fK, lK, by simp only [go_sem, simprocAttr, r2, r3, r5, r6, r7, r47]⟩
    · obtain ⟨d1, d2⟩ := done K fK
      have T1 := P3.fr fK (fun j hj _ e => by omega)
      have T2 := P1.fr fK (fun j hj _ e => by omega)
      have T3 := P4.fr fK (fun j hj _ e => by omega)
      have T4 := P2.fr fK (fun j hj _ e => by omega)
      simp only [go_sem, simprocAttr, r2, r3, r5, r6, d1]
      refine cl_spec (rPieces_ok T1 T2) (fun _ _ _ hc => absurd hc (by decide +kernel)) ?_
      rintro u k7 ⟨rfl, rfl⟩
      simp only [go_sem, simprocAttr, decide_true, r2, r3, r5, r6, d2]
      refine cl_spec (Words_ok T3 T4) (fun _ _ _ hc => absurd hc (by decide +kernel)) ?_
      rintro u k8 ⟨rfl, rfl⟩
      simp only [go_sem, simprocAttr, decide_true]
      refine cl_spec (alive_ok _) (fun _ _ _ hc => absurd hc (by decide +kernel)) ?_
      rintro u k14 ⟨rfl, rfl⟩
      simp only [go_sem, simprocAttr]
end Go.Proofs.Ytohgnkjemfkeoaa
