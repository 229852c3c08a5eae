/- cow: the document's lists' calls, and its forest. -/
import Derived.Test.YtfdbadpiklmbaaaCoPA
set_option linter.unusedSimpArgs false
set_option linter.unusedVariables false
set_option linter.unnecessarySimpa false
set_option maxRecDepth 100000
namespace Go.Proofs.Ytfdbadpiklmbaaa
open Go.AM

/-- More behind a list. -/
theorem OwnL.appL {Z : Nat → Prop} {h : AHeap} {xs ys : List Ext} {v : Value} {css : List (List Value)} {n : Nat} (ho : OwnL rExt Z h xs v) (hy : All2 (rExt.R (fun _ => True) h) ys css) (hn : ys.length = n) (hb : xs.length + n ≤ 1099511627776) :
    ∃ v' h', aappend h 4 32 v n css.flatten = some (v', h') ∧ OwnL rExt (up Z h) h' (xs ++ ys) v' ∧ Fw (fun j => blk v = some j) h h' ∧ ∃ a m c, v' = .slice a m c := by
  obtain ⟨v', h', e, hl, hf, hnn⟩ := ho.1.app (ys := ys) (css' := css) 4 rfl (bytes := 32) (n := n) (hy.mono fun _ _ _ _ e => rExt_iff.2 (rExt_iff.1 e)) hn (by omega) (by omega) (Nat.zero_le _)
  obtain ⟨a, c, rfl, _⟩ := hl.len
  refine ⟨_, h', e, ⟨hl, fun j hj => ?_⟩, hf, _, _, _, rfl⟩
  rcases hnn with hn | ⟨ob, hn, hge⟩
  · exact .inl (ho.2 j (hn ▸ hj))
  · rw [hn] at hj; cases hj; exact .inr hge
theorem partL_len (f t : Int) : ∀ l : List Ext, (partL f t l).length ≤ l.length
  | [] => Nat.le_refl _
  | y :: l => by
    have := partL_len f t l
    rw [partL_cons, List.length_append, List.length_cons]
    have := ite_len (p := y.lies f t) (l := [y.clip f t]) (n := 1) (Nat.le_refl 1)
    omega
def atL (l : List Ext) : Int × Int × Bool := match l with | y :: _ => (y.phys, y.birth, true) | [] => (0, 0, false)
theorem one_len {l : List Ext} (g : GoodL l) (o : Int) : (partL o (o + 1) l).length ≤ 1 := by
  have gp := g.part o (o + 1)
  have hoff : ∀ y ∈ partL o (o + 1) l, y.off = o ∧ 1 ≤ y.len := fun y hy => by
    have hk := gp.1 y hy
    obtain ⟨z, hz, hlz, rfl⟩ := partL_mem.1 hy
    unfold Ext.ok at hk
    unfold Ext.clip Ext.lies at *
    dsimp only at *
    omega
  match hm : partL o (o + 1) l with
  | [] => simp
  | [_] => simp
  | a :: b :: r =>
    rw [hm] at gp hoff
    have h1 := (List.pairwise_cons.1 gp.2).1 b (by simp)
    have h2 := hoff a (by simp); have h3 := hoff b (by simp)
    unfold Rx at h1; omega

section
variable {own own' own'' : Nat → Nat} {h h' h'' h0 : AHeap} {S S' Z : Nat → Prop} {id : Nat} {ts : List T} {v lv : Value} {vs : List Value}
theorem rPut_ok {xs : List Ext} {x : Ext} (hx : IsSl rExt S h xs v) (g : GoodL xs) (hxi : x.inI) : Does Try.prog 59 #[v, x.ag] h
    (fun u h' => ∃ w, u = .tuple #[w, .int .i64 (if x.ok then 0 else 1)] ∧ (x.ok → OwnL rExt (h.next ≤ ·) h' (putL xs x) w) ∧ (¬ x.ok → w = .slice none 0 0) ∧ h.quiet h') := by
  obtain ⟨a, c, rfl⟩ := hx.shape
  have hgl := g.len
  refine spec_go mixed Try.func59 rfl Try.results59 (n := Try.f59.ntmps) (by kernel_rfl) (by simp) ?_
  simp only [go_sem, simprocAttr, Ext.ag]
  refine cl_gen fun k1 e1 => ?_
  have q1 : h.quiet k1 := by rw [e1]; simp only [go_sem, simprocAttr]
  have g1 : k1.get h.next = .cells x.cs .rw := by rw [e1]; simp only [go_sem, simprocAttr, Ext.cs]
  have n1 : k1.next = h.next + 1 := by rw [e1]; simp
  clear e1
  refine cl_spec (rRight_ok (hx.quiet q1)) (fun _ _ _ hc => absurd hc (by decide +kernel)) ?_
  rintro u k2 ⟨⟨bb, rfl, hbb⟩, q2⟩
  obtain rfl : bb = true := hbb.2 (right_iff.2 g)
  have g2 := (q2.2 _ (by omega)).trans g1
  unfold Ext.cs at g2
  simp only [go_sem, simprocAttr, g2]
  have hm := rmay_ok (h := k2) hxi
  unfold Ext.ag at hm
  refine cl_spec hm (fun _ _ _ hc => absurd hc (by decide +kernel)) ?_
  rintro u k3 ⟨rfl, q3⟩
  have g3 := (q3.2 h.next (by have := q2.1; omega)).trans g2
  by_cases hox : x.ok
  · rw [if_pos hox]
    have hox' := hox
    unfold Ext.ok at hox'
    have e1 : IntKind.i64.wrap (x.off + x.len) = x.off + x.len := by rw [wi64] <;> omega
    simp only [go_sem, simprocAttr, decide_eq_true hox, g3]
    have Q3 := q1.trans (q2.trans q3)
    refine cl_spec (rpart_ok (f := 0) (t := x.off) (hx.quiet Q3) g.1 (by omega) (by omega) (by omega)) (fun u h' hp _ => hp.2) ?_
    rintro u k4 ⟨o4, q4⟩
    have g4 := (q4.2 h.next (by have := q2.1; have := q3.1; omega)).trans g3
    obtain ⟨a4, c4, rfl⟩ := o4.sl.shape
    have hl4 := partL_len 0 x.off xs
    obtain ⟨w5, k5, e5, o5, f5, _, a5, n5, c5, rfl⟩ := o4.app2 (bytes := 32) (y := x) (cs := x.cs) 4 rfl (fun _ => rExt_iff.2 ⟨rfl, hxi⟩) (by omega) (by omega)
    unfold Ext.cs at e5
    have q5 : k4.quiet k5 → True := fun _ => trivial
    have qk5 : k3.quiet k5 := Fw.behind q4 f5 (fun j e => o4.2 j e)
    have g5 := (qk5.2 h.next (by have := q2.1; have := q3.1; omega)).trans g3
    simp only [go_sem, simprocAttr, g4, e5, g5, e1]
    have hn5 := o5.sl.len
    refine cl_spec (rpart_ok (f := x.off + x.len) (t := 1024) (hx.quiet (Q3.trans qk5)) g.1 (by omega) (by omega) (by omega)) (fun _ _ _ hc => absurd hc (by decide +kernel)) ?_
    rintro u k6 ⟨o6, q6⟩
    obtain ⟨a6, c6, rfl⟩ := o6.sl.shape
    have hl6 := partL_len (x.off + x.len) 1024 xs
    obtain ⟨css, ec, lc⟩ := o6.sl.acells 4 rfl
    obtain ⟨w7, k7, e7, o7, f7, a7, n7, c7, rfl⟩ := (o5.mono q6.1 (fun j hj hl => ⟨hj, q6.2 j hl⟩)).appL lc rfl (by rw [List.length_append]; simp only [List.length_cons, List.length_nil]; omega)
    have hn7 := o7.sl.len
    simp only [go_sem, simprocAttr, ec, lc.ones, e7]
    have oks : ∀ y ∈ partL 0 x.off xs ++ [x] ++ partL (x.off + x.len) 1024 xs, y.ok := fun y hy => by
      rcases List.mem_append.1 hy with hy | hy
      · rcases List.mem_append.1 hy with hy | hy
        · exact (g.part 0 x.off).1 y hy
        · obtain rfl : y = x := by simpa using hy
          exact hox
      · exact (g.part _ _).1 y hy
    refine cl_spec (rjoin_ok o7.sl oks (by simp only [List.length_append, List.length_cons, List.length_nil]; omega)) (fun _ _ _ hc => absurd hc (by decide +kernel)) ?_
    rintro u k8 ⟨o8, q8⟩
    have hk6 : h.next ≤ k6.next := by have := Q3.1; have := qk5.1; have := q6.1; omega
    have Q7 : h.quiet k7 := Fw.behind (Q3.trans (qk5.trans q6)) f7 (fun j e => by
      have := o5.2 j e
      have h3 := Q3.1
      have h4 := q4.1
      rcases this with e | e <;> omega)
    simp only [go_sem, simprocAttr]
    exact ⟨_, rfl, fun _ => o8.weaken (fun j hj => by have := Q7.1; omega), fun e => absurd hox e, Q7.trans q8⟩
  · rw [if_neg hox]
    simp only [go_sem, simprocAttr, decide_eq_false hox]
    exact ⟨_, rfl, fun e => absurd e hox, fun _ => rfl, q1.trans (q2.trans q3)⟩
theorem rCut_ok {xs : List Ext} {o n : Int} (hx : IsSl rExt S h xs v) (g : GoodL xs) (ho : inI o) (hn : inI n) : Does Try.prog 61 #[v, .int .i64 o, .int .i64 n] h
    (fun u h' => ∃ w, u = .tuple #[w, .int .i64 (if Blks o n then 0 else 1)] ∧ (Blks o n → OwnL rExt (h.next ≤ ·) h' (cutL xs o n) w) ∧ (¬ Blks o n → w = .slice none 0 0) ∧ h.quiet h') := by
  obtain ⟨a, c, rfl⟩ := hx.shape
  have hgl := g.len
  refine spec_go mixed Try.func61 rfl Try.results61 (n := Try.f61.ntmps) (by kernel_rfl) (by simp) ?_
  simp only [go_sem, simprocAttr]
  refine cl_spec (rRight_ok hx) (fun _ _ _ hc => absurd hc (by decide +kernel)) ?_
  rintro u k2 ⟨⟨bb, rfl, hbb⟩, q2⟩
  obtain rfl : bb = true := hbb.2 (right_iff.2 g)
  simp only [go_sem, simprocAttr]
  refine cl_spec (range_ok hn ho) (fun _ _ _ hc => absurd hc (by decide +kernel)) ?_
  rintro u k3 ⟨rfl, hk⟩
  obtain rfl : k2 = k3 := hk.symm
  by_cases hox : Blks o n
  · rw [if_pos hox]
    have hox' := hox
    unfold Blks at hox'
    have e1 : IntKind.i64.wrap (o + n) = o + n := by rw [wi64] <;> omega
    simp only [go_sem, simprocAttr, decide_eq_true hox]
    refine cl_spec (rpart_ok (f := 0) (t := o) (hx.quiet q2) g.1 (by omega) (by omega) (by omega)) (fun _ _ _ hc => absurd hc (by decide +kernel)) ?_
    rintro u k4 ⟨o4, q4⟩
    obtain ⟨a4, c4, rfl⟩ := o4.sl.shape
    simp only [go_sem, simprocAttr, e1]
    refine cl_spec (rpart_ok (f := o + n) (t := 1024) (hx.quiet (q2.trans q4)) g.1 (by omega) (by omega) (by omega)) (fun _ _ _ hc => absurd hc (by decide +kernel)) ?_
    rintro u k6 ⟨o6, q6⟩
    obtain ⟨a6, c6, rfl⟩ := o6.sl.shape
    have hl4 := partL_len 0 o xs
    have hl6 := partL_len (o + n) 1024 xs
    obtain ⟨css, ec, lc⟩ := o6.sl.acells 4 rfl
    obtain ⟨w7, k7, e7, o7, f7, a7, n7, c7, rfl⟩ := (o4.mono q6.1 (fun j hj hl => ⟨hj, q6.2 j hl⟩)).appL lc rfl (by omega)
    simp only [go_sem, simprocAttr, ec, lc.ones, e7]
    have Q7 : h.quiet k7 := Fw.behind (q2.trans (q4.trans q6)) f7 (fun j e => by have := o4.2 j e; have := q2.1; omega)
    exact ⟨_, rfl, fun _ => o7.weaken (fun j hj => by have := q2.1; have := q4.1; have := q6.1; rcases hj with e | e <;> omega), fun e => absurd hox e, Q7⟩
  · rw [if_neg hox]
    simp only [go_sem, simprocAttr, decide_eq_false hox]
    exact ⟨_, rfl, fun e => absurd e hox, fun _ => rfl, q2⟩
theorem rPart_ok {xs : List Ext} {o n : Int} (hx : IsSl rExt S h xs v) (g : GoodL xs) (ho : inI o) (hn : inI n) : Does Try.prog 24 #[v, .int .i64 o, .int .i64 n] h
    (fun u h' => ∃ w, u = .tuple #[w, .int .i64 (if Blks o n then 0 else 1)] ∧ OwnL rExt (h.next ≤ ·) h' (if Blks o n then partL o (o + n) xs else []) w ∧ h.quiet h') := by
  obtain ⟨a, c, rfl⟩ := hx.shape
  have hgl := g.len
  refine spec_go mixed Try.func24 rfl Try.results24 (n := Try.f24.ntmps) (by kernel_rfl) (by simp) ?_
  simp only [go_sem, simprocAttr]
  refine cl_spec (rRight_ok hx) (fun _ _ _ hc => absurd hc (by decide +kernel)) ?_
  rintro u k2 ⟨⟨bb, rfl, hbb⟩, q2⟩
  obtain rfl : bb = true := hbb.2 (right_iff.2 g)
  simp only [go_sem, simprocAttr]
  refine cl_spec (range_ok hn ho) (fun _ _ _ hc => absurd hc (by decide +kernel)) ?_
  rintro u k3 ⟨rfl, hk⟩
  obtain rfl : k2 = k3 := hk.symm
  by_cases hox : Blks o n
  · rw [if_pos hox, if_pos hox]
    have hox' := hox
    unfold Blks at hox'
    have e1 : IntKind.i64.wrap (o + n) = o + n := by rw [wi64] <;> omega
    simp only [go_sem, simprocAttr, decide_eq_true hox, e1]
    refine cl_spec (rpart_ok (f := o) (t := o + n) (hx.quiet q2) g.1 (by omega) (by omega) (by omega)) (fun _ _ _ hc => absurd hc (by decide +kernel)) ?_
    rintro u k4 ⟨o4, q4⟩
    simp only [go_sem, simprocAttr]
    exact ⟨_, rfl, o4.weaken (fun j hj => Nat.le_trans q2.1 hj), q2.trans q4⟩
  · rw [if_neg hox, if_neg hox]
    simp only [go_sem, simprocAttr, decide_eq_false hox]
    exact ⟨_, rfl, .nil _ _ _, q2⟩
theorem rAt_ok {xs : List Ext} {o : Int} (hx : IsSl rExt S h xs v) (g : GoodL xs) (ho : inI o) : Does Try.prog 26 #[v, .int .i64 o] h
    (fun u h' => u = .tuple #[.int .i64 (atL (if Blks o 1 then partL o (o + 1) xs else [])).1, .int .i64 (atL (if Blks o 1 then partL o (o + 1) xs else [])).2.1, .bool (atL (if Blks o 1 then partL o (o + 1) xs else [])).2.2] ∧ h.quiet h') := by
  obtain ⟨a, c, rfl⟩ := hx.shape
  have hgl := g.len
  refine spec_go mixed Try.func26 rfl Try.results26 (n := Try.f26.ntmps) (by kernel_rfl) (by simp) ?_
  simp only [go_sem, simprocAttr]
  refine cl_spec (rRight_ok hx) (fun _ _ _ hc => absurd hc (by decide +kernel)) ?_
  rintro u k2 ⟨⟨bb, rfl, hbb⟩, q2⟩
  obtain rfl : bb = true := hbb.2 (right_iff.2 g)
  simp only [go_sem, simprocAttr]
  refine cl_spec (range_ok ⟨by decide, by decide⟩ ho) (fun _ _ _ hc => absurd hc (by decide +kernel)) ?_
  rintro u k3 ⟨rfl, hk⟩
  obtain rfl : k2 = k3 := hk.symm
  by_cases hox : Blks o 1
  · rw [if_pos hox]
    have hox' := hox
    unfold Blks at hox'
    have e1 : IntKind.i64.wrap (o + 1) = o + 1 := by rw [wi64] <;> omega
    simp only [go_sem, simprocAttr, decide_eq_true hox, e1]
    refine cl_spec (rpart_ok (f := o) (t := o + 1) (hx.quiet q2) g.1 (by omega) (by omega) (by omega)) (fun _ _ _ hc => absurd hc (by decide +kernel)) ?_
    rintro u k4 ⟨o4, q4⟩
    have h1 := one_len g o
    generalize partL o (o + 1) xs = p at o4 h1
    obtain ⟨a4, c4, rfl⟩ := o4.sl.shape
    match p, h1 with
    | [], _ =>
      simp only [go_sem, simprocAttr, List.length_nil]
      exact ⟨rfl, q2.trans q4⟩
    | [y], _ =>
      obtain ⟨b, off, sp, cc, md, y', hA, _, hg, hy, hyy, hle, hdt⟩ := IsSl.atX o4.sl (i := 0) (by simp)
      obtain rfl : y = y' := by simpa using hy
      have d2 : cc[off + 0 * 4 + 2]? = some (.int .i64 y.phys) := seg_get hdt (k := 2) (by omega)
      have d3 : cc[off + 0 * 4 + 3]? = some (.int .i64 y.birth) := seg_get hdt (k := 3) (by omega)
      simp only [go_sem, simprocAttr, List.length_cons, List.length_nil, hA, hg, d2, d3]
      exact ⟨rfl, q2.trans q4⟩
  · rw [if_neg hox]
    simp only [go_sem, simprocAttr, decide_eq_false hox]
    exact ⟨rfl, q2⟩
end
end Go.Proofs.Ytfdbadpiklmbaaa
