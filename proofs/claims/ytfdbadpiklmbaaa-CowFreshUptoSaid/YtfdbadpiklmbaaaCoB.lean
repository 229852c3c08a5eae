/- cow: trees are joined. -/
import Derived.Test.YtfdbadpiklmbaaaCoA
set_option linter.unusedSimpArgs false
set_option linter.unusedVariables false
set_option linter.unnecessarySimpa false
set_option maxRecDepth 100000
namespace Go.Proofs.Ytfdbadpiklmbaaa
open Go.AM

def T.even (l : T) (x : Ext) (r : T) : T :=
  if r.depth + 1 < l.depth then
    match l with
    | .nil => .node l x r
    | .node ll lx lr =>
      if lr.depth ≤ ll.depth then .node ll lx (.node lr x r)
      else match lr with
        | .nil => .node l x r
        | .node a m b => .node (.node ll lx a) m (.node b x r)
  else if l.depth + 1 < r.depth then
    match r with
    | .nil => .node l x r
    | .node rl rx rr =>
      if rl.depth ≤ rr.depth then .node (.node l x rl) rx rr
      else match rl with
        | .nil => .node l x r
        | .node a m b => .node (.node l x a) m (.node b rx rr)
  else .node l x r
def T.join (l : T) (x : Ext) (r : T) : T :=
  if r.depth + 1 < l.depth then
    match l with
    | .nil => .node l x r
    | .node ll lx lr => T.even ll lx (T.join lr x r)
  else if l.depth + 1 < r.depth then
    match r with
    | .nil => .node l x r
    | .node rl rx rr => T.even (T.join l x rl) rx rr
  else .node l x r
termination_by l.size + r.size
decreasing_by all_goals simp only [T.size]; omega

theorem T.depth_pos {t : T} (h : 0 < t.depth) : ∃ l x r, t = .node l x r := by
  cases t with
  | nil => simp [T.depth] at h
  | node l x r => exact ⟨l, x, r, rfl⟩
theorem T.even_size (l : T) (x : Ext) (r : T) : (T.even l x r).size = 1 + l.size + r.size := by
  unfold T.even
  repeat' split
  all_goals (simp only [T.size]; try omega)
theorem T.join_size (l : T) (x : Ext) (r : T) : (T.join l x r).size = 1 + l.size + r.size := by
  fun_induction T.join l x r
  all_goals first | (rw [T.even_size]; simp only [T.size] at *; omega) | (simp only [T.size]; try omega)

section
variable {h : AHeap} {S S' Z : Nat → Prop}

theorem even_ok {l r : T} {vl vr : Value} {x : Ext} (hn : New S h) (hl : TrAt S h l vl) (hr : TrAt S h r vr) (hb : l.size + r.size ≤ 1099511627776) : Does Try.prog 67 #[vl, x.ag, vr] h (fun u h' => TrAt S h' (T.even l x r) u ∧ h.quiet h') := by
  have hdl := l.depth_le
  have hdr := r.depth_le
  obtain ⟨pl, rfl, _⟩ := hl.ptr
  obtain ⟨pr, rfl, _⟩ := hr.ptr
  refine spec_go mixed Try.func67 rfl Try.results67 (n := Try.f67.ntmps) (by kernel_rfl) (by simp) ?_
  simp only [go_sem, simprocAttr, Ext.ag]
  refine cl_gen fun h1 e1 => ?_
  have q1 : h.quiet h1 := by rw [e1]; simp only [go_sem, simprocAttr]
  have g1 : h1.get h.next = .cells [.int .i64 x.off, .int .i64 x.len, .int .i64 x.phys, .int .i64 x.birth] .rw := by rw [e1]; simp only [go_sem, simprocAttr]
  have lg1 : h.next < h1.next := by rw [e1]; simp
  clear e1
  have hl1 := hl.quiet q1
  have hr1 := hr.quiet q1
  have hn1 := hn.quiet q1
  refine cl_spec (depth_ok hl1) (fun _ _ _ hc => absurd hc (by decide +kernel)) ?_
  rintro u k ⟨rfl, hk⟩
  obtain rfl : h1 = k := hk.symm
  simp only [go_sem, simprocAttr]
  refine cl_spec (depth_ok hr1) (fun _ _ _ hc => absurd hc (by decide +kernel)) ?_
  rintro u k ⟨rfl, hk⟩
  obtain rfl : h1 = k := hk.symm
  have e1 : IntKind.i64.wrap ((l.depth : Int) - r.depth) = (l.depth : Int) - r.depth := by rw [wi64] <;> omega
  simp only [go_sem, simprocAttr, e1]
  unfold T.even
  refine cnd_decide (fun hc => ?_) (fun hc => ?_)
  · have hc' : r.depth + 1 < l.depth := by omega
    rw [if_pos hc']
    obtain ⟨ll, lx, lr, rfl⟩ := T.depth_pos (t := l) (by omega)
    obtain ⟨il, qll, qlr, e, hs, hg, hll, hlr⟩ := hl1
    cases e
    dsimp only
    have hs1 : (T.node ll lx lr).size = 1 + ll.size + lr.size := rfl
    have li : il < h1.next := AHeap.lt_of_alive h1 (by rw [hg]; simp)
    simp only [go_sem, simprocAttr, hg, nodeC]
    refine cl_spec (depth_ok hll) (fun u h' hp _ => hp.2 ▸ .refl _) ?_
    rintro u k ⟨rfl, hk⟩
    obtain rfl : h1 = k := hk.symm
    simp only [go_sem, simprocAttr, hg, nodeC]
    refine cl_spec (depth_ok hlr) (fun _ _ _ hc => absurd hc (by decide +kernel)) ?_
    rintro u k ⟨rfl, hk⟩
    obtain rfl : h1 = k := hk.symm
    simp only [go_sem, simprocAttr]
    refine cnd_decide (fun hd => ?_) (fun hd => ?_)
    · have hd' : lr.depth ≤ ll.depth := by omega
      rw [if_pos hd']
      simp only [go_sem, simprocAttr, hg, nodeC, g1]
      refine cl_spec (make1_ok (x := x) hn1 hlr hr1 (by omega)) (fun u h' hp _ => hp.2) ?_
      rintro u k ⟨hm, qm⟩
      simp only [go_sem, simprocAttr]
      refine cl_spec (make1_ok (x := lx) (hn1.quiet qm) (hll.quiet qm) hm (by simp only [T.size]; omega)) (fun _ _ _ hc => absurd hc (by decide +kernel)) ?_
      rintro u k2 ⟨hm2, qm2⟩
      simp only [go_sem, simprocAttr]
      exact ⟨hm2, q1.trans (qm.trans qm2)⟩
    · have hd' : ¬ lr.depth ≤ ll.depth := by omega
      rw [if_neg hd']
      obtain ⟨a, m, b, rfl⟩ := T.depth_pos (t := lr) (by omega)
      obtain ⟨im, qa, qb, e, hs2, hg2, ha, hb2⟩ := hlr
      subst e
      dsimp only
      have hs3 : (T.node a m b).size = 1 + a.size + b.size := rfl
      have lm : im < h1.next := AHeap.lt_of_alive h1 (by rw [hg2]; simp)
      simp only [go_sem, simprocAttr, hg, hg2, nodeC, g1]
      refine cl_spec (make1_ok (x := lx) hn1 hll ha (by omega)) (fun u h' hp _ => hp.2) ?_
      rintro u k ⟨hm, qm⟩
      have hg2' := (qm.2 im lm).trans hg2
      have g1' := (qm.2 _ lg1).trans g1
      simp only [go_sem, simprocAttr, hg2', nodeC, g1']
      refine cl_spec (make1_ok (x := x) (hn1.quiet qm) (hb2.quiet qm) (hr1.quiet qm) (by omega)) (fun u h' hp _ => hp.2) ?_
      rintro u k2 ⟨hm2, qm2⟩
      simp only [go_sem, simprocAttr]
      refine cl_spec (make1_ok (x := m) ((hn1.quiet qm).quiet qm2) (hm.quiet qm2) hm2 (by simp only [T.size]; omega)) (fun _ _ _ hc => absurd hc (by decide +kernel)) ?_
      rintro u k3 ⟨hm3, qm3⟩
      simp only [go_sem, simprocAttr]
      exact ⟨hm3, q1.trans (qm.trans (qm2.trans qm3))⟩
  · have hc' : ¬ r.depth + 1 < l.depth := by omega
    rw [if_neg hc']
    simp only [go_sem, simprocAttr]
    refine cnd_decide (fun hc2 => ?_) (fun hc2 => ?_)
    · have hc2' : l.depth + 1 < r.depth := by omega
      rw [if_pos hc2']
      obtain ⟨rl, rx, rr, rfl⟩ := T.depth_pos (t := r) (by omega)
      obtain ⟨il, qll, qlr, e, hs, hg, hll, hlr⟩ := hr1
      cases e
      dsimp only
      have hs1 : (T.node rl rx rr).size = 1 + rl.size + rr.size := rfl
      have li : il < h1.next := AHeap.lt_of_alive h1 (by rw [hg]; simp)
      simp only [go_sem, simprocAttr, hg, nodeC]
      refine cl_spec (depth_ok hlr) (fun u h' hp _ => hp.2 ▸ .refl _) ?_
      rintro u k ⟨rfl, hk⟩
      obtain rfl : h1 = k := hk.symm
      simp only [go_sem, simprocAttr, hg, nodeC]
      refine cl_spec (depth_ok hll) (fun _ _ _ hc => absurd hc (by decide +kernel)) ?_
      rintro u k ⟨rfl, hk⟩
      obtain rfl : h1 = k := hk.symm
      simp only [go_sem, simprocAttr]
      refine cnd_decide (fun hd => ?_) (fun hd => ?_)
      · have hd' : rl.depth ≤ rr.depth := by omega
        rw [if_pos hd']
        simp only [go_sem, simprocAttr, hg, nodeC, g1]
        refine cl_spec (make1_ok (x := x) hn1 hl1 hll (by omega)) (fun u h' hp _ => hp.2) ?_
        rintro u k ⟨hm, qm⟩
        have hg' := (qm.2 il li).trans hg
        simp only [go_sem, simprocAttr, hg', nodeC]
        refine cl_spec (make1_ok (x := rx) (hn1.quiet qm) hm (hlr.quiet qm) (by simp only [T.size]; omega)) (fun _ _ _ hc => absurd hc (by decide +kernel)) ?_
        rintro u k2 ⟨hm2, qm2⟩
        simp only [go_sem, simprocAttr]
        exact ⟨hm2, q1.trans (qm.trans qm2)⟩
      · have hd' : ¬ rl.depth ≤ rr.depth := by omega
        rw [if_neg hd']
        obtain ⟨a, m, b, rfl⟩ := T.depth_pos (t := rl) (by omega)
        obtain ⟨im, qa, qb, e, hs2, hg2, ha, hb2⟩ := hll
        subst e
        dsimp only
        have hs3 : (T.node a m b).size = 1 + a.size + b.size := rfl
        have lm : im < h1.next := AHeap.lt_of_alive h1 (by rw [hg2]; simp)
        simp only [go_sem, simprocAttr, hg, hg2, nodeC, g1]
        refine cl_spec (make1_ok (x := x) hn1 hl1 ha (by omega)) (fun u h' hp _ => hp.2) ?_
        rintro u k ⟨hm, qm⟩
        have hg2' := (qm.2 im lm).trans hg2
        have hg' := (qm.2 il li).trans hg
        simp only [go_sem, simprocAttr, hg', hg2', nodeC]
        refine cl_spec (make1_ok (x := rx) (hn1.quiet qm) (hb2.quiet qm) (hlr.quiet qm) (by omega)) (fun u h' hp _ => hp.2) ?_
        rintro u k2 ⟨hm2, qm2⟩
        simp only [go_sem, simprocAttr]
        refine cl_spec (make1_ok (x := m) ((hn1.quiet qm).quiet qm2) (hm.quiet qm2) hm2 (by simp only [T.size]; omega)) (fun _ _ _ hc => absurd hc (by decide +kernel)) ?_
        rintro u k3 ⟨hm3, qm3⟩
        simp only [go_sem, simprocAttr]
        exact ⟨hm3, q1.trans (qm.trans (qm2.trans qm3))⟩
    · have hc2' : ¬ l.depth + 1 < r.depth := by omega
      rw [if_neg hc2']
      simp only [go_sem, simprocAttr, g1]
      refine cl_spec (make1_ok (x := x) hn1 hl1 hr1 (by omega)) (fun _ _ _ hc => absurd hc (by decide +kernel)) ?_
      rintro u k ⟨hm, qm⟩
      simp only [go_sem, simprocAttr]
      exact ⟨hm, q1.trans qm⟩

theorem join_ok : ∀ (n : Nat) {h : AHeap} {l r : T} {vl vr : Value} {x : Ext} (hd : l.size + r.size < n) (hn : New S h) (hl : TrAt S h l vl) (hr : TrAt S h r vr) (hb : l.size + r.size ≤ 1099511627775), Does Try.prog 52 #[vl, x.ag, vr] h (fun u h' => TrAt S h' (T.join l x r) u ∧ h.quiet h') := by
  intro n
  induction n with
  | zero =>
    intro h l r vl vr x hd hn hl hr hb
    omega
  | succ n ih =>
  intro h l r vl vr x hd hn hl hr hb
  have hdl := l.depth_le
  have hdr := r.depth_le
  obtain ⟨pl, rfl, _⟩ := hl.ptr
  obtain ⟨pr, rfl, _⟩ := hr.ptr
  refine spec_go mixed Try.func52 rfl Try.results52 (n := Try.f52.ntmps) (by kernel_rfl) (by simp) ?_
  simp only [go_sem, simprocAttr, Ext.ag]
  refine cl_gen fun h1 e1 => ?_
  have q1 : h.quiet h1 := by rw [e1]; simp only [go_sem, simprocAttr]
  have g1 : h1.get h.next = .cells [.int .i64 x.off, .int .i64 x.len, .int .i64 x.phys, .int .i64 x.birth] .rw := by rw [e1]; simp only [go_sem, simprocAttr]
  have lg1 : h.next < h1.next := by rw [e1]; simp
  clear e1
  have hl1 := hl.quiet q1
  have hr1 := hr.quiet q1
  have hn1 := hn.quiet q1
  refine cl_spec (depth_ok hl1) (fun _ _ _ hc => absurd hc (by decide +kernel)) ?_
  rintro u k ⟨rfl, hk⟩
  obtain rfl : h1 = k := hk.symm
  simp only [go_sem, simprocAttr]
  refine cl_spec (depth_ok hr1) (fun _ _ _ hc => absurd hc (by decide +kernel)) ?_
  rintro u k ⟨rfl, hk⟩
  obtain rfl : h1 = k := hk.symm
  have e1 : IntKind.i64.wrap ((l.depth : Int) - r.depth) = (l.depth : Int) - r.depth := by rw [wi64] <;> omega
  simp only [go_sem, simprocAttr, e1]
  unfold T.join
  refine cnd_decide (fun hc => ?_) (fun hc => ?_)
  · have hc' : r.depth + 1 < l.depth := by omega
    rw [if_pos hc']
    obtain ⟨ll, lx, lr, rfl⟩ := T.depth_pos (t := l) (by omega)
    obtain ⟨il, qll, qlr, e, hs, hg, hll, hlr⟩ := hl1
    cases e
    dsimp only
    have hs1 : (T.node ll lx lr).size = 1 + ll.size + lr.size := rfl
    simp only [go_sem, simprocAttr, hg, nodeC, g1]
    refine cl_spec (ih (x := x) (by omega) hn1 hlr hr1 (by omega)) (fun u h' hp _ => hp.2) ?_
    rintro u k ⟨hm, qm⟩
    simp only [go_sem, simprocAttr]
    refine cl_spec (even_ok (x := lx) (hn1.quiet qm) (hll.quiet qm) hm (by rw [T.join_size]; omega)) (fun _ _ _ hc => absurd hc (by decide +kernel)) ?_
    rintro u k2 ⟨hm2, qm2⟩
    simp only [go_sem, simprocAttr]
    exact ⟨hm2, q1.trans (qm.trans qm2)⟩
  · have hc' : ¬ r.depth + 1 < l.depth := by omega
    rw [if_neg hc']
    simp only [go_sem, simprocAttr]
    refine cnd_decide (fun hc2 => ?_) (fun hc2 => ?_)
    · have hc2' : l.depth + 1 < r.depth := by omega
      rw [if_pos hc2']
      obtain ⟨rl, rx, rr, rfl⟩ := T.depth_pos (t := r) (by omega)
      obtain ⟨il, qll, qlr, e, hs, hg, hll, hlr⟩ := hr1
      cases e
      dsimp only
      have hs1 : (T.node rl rx rr).size = 1 + rl.size + rr.size := rfl
      have li : il < h1.next := AHeap.lt_of_alive h1 (by rw [hg]; simp)
      simp only [go_sem, simprocAttr, hg, nodeC, g1]
      refine cl_spec (ih (x := x) (by omega) hn1 hl1 hll (by omega)) (fun u h' hp _ => hp.2) ?_
      rintro u k ⟨hm, qm⟩
      have hg' := (qm.2 il li).trans hg
      simp only [go_sem, simprocAttr, hg', nodeC]
      refine cl_spec (even_ok (x := rx) (hn1.quiet qm) hm (hlr.quiet qm) (by rw [T.join_size]; omega)) (fun _ _ _ hc => absurd hc (by decide +kernel)) ?_
      rintro u k2 ⟨hm2, qm2⟩
      simp only [go_sem, simprocAttr]
      exact ⟨hm2, q1.trans (qm.trans qm2)⟩
    · have hc2' : ¬ l.depth + 1 < r.depth := by omega
      rw [if_neg hc2']
      simp only [go_sem, simprocAttr, g1]
      refine cl_spec (make1_ok (x := x) hn1 hl1 hr1 (by omega)) (fun _ _ _ hc => absurd hc (by decide +kernel)) ?_
      rintro u k ⟨hm, qm⟩
      simp only [go_sem, simprocAttr]
      exact ⟨hm, q1.trans qm⟩
end
end Go.Proofs.Ytfdbadpiklmbaaa
