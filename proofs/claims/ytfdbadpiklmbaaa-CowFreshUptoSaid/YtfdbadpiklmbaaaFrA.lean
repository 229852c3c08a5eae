/- cow: trees whose nodes tell whether they are old or new; they are joined. -/
import Derived.Test.YtfdbadpiklmbaaaCoD
set_option linter.unusedSimpArgs false
set_option linter.unusedVariables false
set_option linter.unnecessarySimpa false
set_option maxRecDepth 100000
namespace Go.Proofs.Ytfdbadpiklmbaaa
open Go.AM
/-- A tree; of each node: is it new? -/
inductive FT where
  | nil
  | node (f : Bool) (l : FT) (x : Ext) (r : FT)
def FT.depth : FT → Nat
  | .nil => 0
  | .node _ l _ r => 1 + max l.depth r.depth
def FT.size : FT → Nat
  | .nil => 0
  | .node _ l _ r => 1 + l.size + r.size
/-- How many are new. -/
def FT.fresh : FT → Nat
  | .nil => 0
  | .node f l _ r => (if f then 1 else 0) + l.fresh + r.fresh
def FT.er : FT → T
  | .nil => .nil
  | .node _ l x r => .node l.er x r.er
theorem FT.er_depth : ∀ t : FT, t.er.depth = t.depth
  | .nil => rfl
  | .node _ l _ r => by simp only [FT.er, T.depth, FT.depth, l.er_depth, r.er_depth]
theorem FT.er_size : ∀ t : FT, t.er.size = t.size
  | .nil => rfl
  | .node _ l _ r => by simp only [FT.er, T.size, FT.size, l.er_size, r.er_size]
theorem FT.depth_le (t : FT) : t.depth ≤ t.size := by rw [← t.er_depth, ← t.er_size]; exact T.depth_le _
/-- A tree that stands in objects of S; the old nodes are of O. -/
def FAt (O S : Nat → Prop) (h : AHeap) : FT → Value → Prop
  | .nil, v => v = .pointer none
  | .node f l x r, v => ∃ id pl pr, v = .pointer (some ⟨id, 0, none⟩) ∧ (S id ∧ (f = false → O id)) ∧ h.get id = .cells (nodeC x pl pr (FT.node f l x r).depth (FT.node f l x r).size) .rw ∧ FAt O S h l pl ∧ FAt O S h r pr

section
variable {h : AHeap} {O S S' Z : Nat → Prop}
theorem FAt.tr : ∀ {t : FT} {v : Value}, FAt O S h t v → TrAt S h t.er v
  | .nil, _, e => e
  | .node f l x r, v, ⟨id, pl, pr, e, hs, hg, hl, hr⟩ => ⟨id, pl, pr, e, hs.1, by rw [show T.node l.er x r.er = (FT.node f l x r).er from rfl, FT.er_depth, FT.er_size]; exact hg, hl.tr, hr.tr⟩
theorem FAt.mono {h' : AHeap} (hm : ∀ j, S j → j < h.next → S' j ∧ h'.get j = h.get j) : ∀ {t : FT} {v : Value}, FAt O S h t v → FAt O S' h' t v
  | .nil, _, e => e
  | .node f l x r, v, ⟨id, pl, pr, e, hs, hg, hl, hr⟩ => by
    have hlt : id < h.next := AHeap.lt_of_alive h (by rw [hg]; simp)
    exact ⟨id, pl, pr, e, ⟨(hm id hs.1 hlt).1, hs.2⟩, by rw [(hm id hs.1 hlt).2]; exact hg, hl.mono hm, hr.mono hm⟩
theorem FAt.quiet {h' : AHeap} {t : FT} {v : Value} (ht : FAt O S h t v) (q : h.quiet h') : FAt O S h' t v := ht.mono fun j hj hl => ⟨hj, q.2 j hl⟩
theorem FAt.weaken {t : FT} {v : Value} (ht : FAt O S h t v) (hm : ∀ j, S j → S' j) : FAt O S' h t v := ht.mono fun j hj _ => ⟨hm j hj, rfl⟩
theorem FAt.ptr {t : FT} {v : Value} (ht : FAt O S h t v) : ∃ p, v = .pointer p ∧ (p = none ↔ t = .nil) := by
  cases t with
  | nil => exact ⟨none, ht, by simp⟩
  | node f l x r => obtain ⟨id, pl, pr, e, _⟩ := ht; exact ⟨_, e, by simp⟩
theorem FAt.pm {t : FT} {v : Value} (ht : FAt O S h t v) : ∃ p : Option Nat, v = .pointer (p.map fun id => ⟨id, 0, none⟩) := by
  cases t with
  | nil => exact ⟨none, ht⟩
  | node f l x r => obtain ⟨id, pl, pr, e, _⟩ := ht; exact ⟨some id, e⟩
theorem depth_f {t : FT} {v : Value} (ht : FAt O S h t v) : Does Try.prog 34 #[v] h (fun u h' => u = .int .i64 t.depth ∧ h' = h) := by
  rw [← t.er_depth]; exact depth_ok ht.tr
theorem weight_f {t : FT} {v : Value} (ht : FAt O S h t v) : Does Try.prog 38 #[v] h (fun u h' => u = .int .i64 t.size ∧ h' = h) := by
  rw [← t.er_size]; exact weight_ok ht.tr
theorem make1_f {l r : FT} {vl vr : Value} {x : Ext} (hn : New S h) (hl : FAt O S h l vl) (hr : FAt O S h r vr) (hb : l.size + r.size ≤ 1099511627776) : Does Try.prog 68 #[vl, x.ag, vr] h (fun u h' => FAt O S h' (.node true l x r) u ∧ h.quiet h') := by
  have hdl := l.depth_le
  have hdr := r.depth_le
  obtain ⟨pl, rfl, _⟩ := hl.ptr
  obtain ⟨pr, rfl, _⟩ := hr.ptr
  refine spec_go mixed Try.func68 rfl Try.results68 (n := Try.f68.ntmps) (by kernel_rfl) (by simp) ?_
  simp only [go_sem, simprocAttr, Ext.ag]
  refine cl_gen fun h1 e1 => ?_
  have q1 : h.quiet h1 := by rw [e1]; simp only [go_sem, simprocAttr]
  have g1 : h1.get h.next = .cells [.int .i64 x.off, .int .i64 x.len, .int .i64 x.phys, .int .i64 x.birth] .rw := by rw [e1]; simp only [go_sem, simprocAttr]
  clear e1
  refine cl_spec (depth_f (hl.quiet q1)) (fun u h' hp _ => hp.2 ▸ .refl _) ?_
  rintro u k ⟨rfl, hk⟩
  obtain rfl : h1 = k := hk.symm
  simp only [go_sem, simprocAttr]
  refine cl_spec (depth_f (hr.quiet q1)) (fun u h' hp _ => hp.2 ▸ .refl _) ?_
  rintro u k ⟨rfl, hk⟩
  obtain rfl : h1 = k := hk.symm
  simp only [go_sem, simprocAttr]
  refine cl_spec (weight_f (hl.quiet q1)) (fun u h' hp _ => hp.2 ▸ .refl _) ?_
  rintro u k ⟨rfl, hk⟩
  obtain rfl : h1 = k := hk.symm
  simp only [go_sem, simprocAttr]
  refine cl_spec (weight_f (hr.quiet q1)) (fun u h' hp _ => hp.2 ▸ .refl _) ?_
  rintro u k ⟨rfl, hk⟩
  obtain rfl : h1 = k := hk.symm
  have e1 : IntKind.i64.wrap (1 + max (l.depth : Int) r.depth) = ((1 + max l.depth r.depth : Nat) : Int) := by rw [wi64] <;> omega
  have e2 : IntKind.i64.wrap (1 + (l.size : Int)) = ((1 + l.size : Nat) : Int) := by rw [wi64] <;> omega
  have e3 : IntKind.i64.wrap (((1 + l.size : Nat) : Int) + r.size) = ((1 + l.size + r.size : Nat) : Int) := by rw [wi64] <;> omega
  simp only [go_sem, simprocAttr, e1, e2, e3]
  have q2 := q1.trans (AHeap.quiet.push h1 (.cells (nodeC x (.pointer pl) (.pointer pr) (FT.node true l x r).depth (FT.node true l x r).size) .rw))
  exact ⟨⟨h1.next, _, _, rfl, ⟨hn _ q1.1, fun e => by cases e⟩, AHeap.get_push_self _ _, hl.quiet q2, hr.quiet q2⟩, q2⟩
end
def FT.even (l : FT) (x : Ext) (r : FT) : FT :=
  if r.depth + 1 < l.depth then
    match l with
    | .nil => .node true l x r
    | .node _ ll lx lr =>
      if lr.depth ≤ ll.depth then .node true ll lx (.node true lr x r)
      else match lr with
        | .nil => .node true l x r
        | .node _ a m b => .node true (.node true ll lx a) m (.node true b x r)
  else if l.depth + 1 < r.depth then
    match r with
    | .nil => .node true l x r
    | .node _ rl rx rr =>
      if rl.depth ≤ rr.depth then .node true (.node true l x rl) rx rr
      else match rl with
        | .nil => .node true l x r
        | .node _ a m b => .node true (.node true l x a) m (.node true b rx rr)
  else .node true l x r
def FT.join (l : FT) (x : Ext) (r : FT) : FT :=
  if r.depth + 1 < l.depth then
    match l with
    | .nil => .node true l x r
    | .node _ ll lx lr => FT.even ll lx (FT.join lr x r)
  else if l.depth + 1 < r.depth then
    match r with
    | .nil => .node true l x r
    | .node _ rl rx rr => FT.even (FT.join l x rl) rx rr
  else .node true l x r
termination_by l.size + r.size
decreasing_by all_goals simp only [FT.size]; omega

theorem FT.depth_pos {t : FT} (h : 0 < t.depth) : ∃ f l x r, t = .node f l x r := by
  cases t with
  | nil => simp [FT.depth] at h
  | node f l x r => exact ⟨f, l, x, r, rfl⟩
theorem FT.even_size (l : FT) (x : Ext) (r : FT) : (FT.even l x r).size = 1 + l.size + r.size := by
  unfold FT.even
  repeat' split
  all_goals (simp only [FT.size]; try omega)
theorem FT.join_size (l : FT) (x : Ext) (r : FT) : (FT.join l x r).size = 1 + l.size + r.size := by
  fun_induction FT.join l x r
  all_goals first | (rw [FT.even_size]; simp only [FT.size] at *; omega) | (simp only [FT.size]; try omega)

section
variable {h : AHeap} {O S S' Z : Nat → Prop}

theorem even_f {l r : FT} {vl vr : Value} {x : Ext} (hn : New S h) (hl : FAt O S h l vl) (hr : FAt O S h r vr) (hb : l.size + r.size ≤ 1099511627776) : Does Try.prog 67 #[vl, x.ag, vr] h (fun u h' => FAt O S h' (FT.even l x r) u ∧ h.quiet h') := by
  have hdl := l.depth_le
  have hdr := r.depth_le
  obtain ⟨pl, rfl, _⟩ := hl.ptr
  obtain ⟨pr, rfl, _⟩ := hr.ptr
  refine spec_go mixed Try.func67 rfl Try.results67 (n := Try.f67.ntmps) (by kernel_rfl) (by simp) ?_
  simp only [go_sem, simprocAttr, Ext.ag]
  refine cl_gen fun h1 e1 => ?_
  have q1 : h.quiet h1 := by rw [e1]; simp only [go_sem, simprocAttr]
  have g1 : h1.get h.next = .cells [.int .i64 x.off, .int .i64 x.len, .int .i64 x.phys, .int .i64 x.birth] .rw := by rw [e1]; simp only [go_sem, simprocAttr]
  have lg1 : h.next < h1.next := by rw [e1]; simp
  clear e1
  have hl1 := hl.quiet q1
  have hr1 := hr.quiet q1
  have hn1 := hn.quiet q1
  refine cl_spec (depth_f hl1) (fun _ _ _ hc => absurd hc (by decide +kernel)) ?_
  rintro u k ⟨rfl, hk⟩
  obtain rfl : h1 = k := hk.symm
  simp only [go_sem, simprocAttr]
  refine cl_spec (depth_f hr1) (fun _ _ _ hc => absurd hc (by decide +kernel)) ?_
  rintro u k ⟨rfl, hk⟩
  obtain rfl : h1 = k := hk.symm
  have e1 : IntKind.i64.wrap ((l.depth : Int) - r.depth) = (l.depth : Int) - r.depth := by rw [wi64] <;> omega
  simp only [go_sem, simprocAttr, e1]
  unfold FT.even
  refine cnd_decide (fun hc => ?_) (fun hc => ?_)
  · have hc' : r.depth + 1 < l.depth := by omega
    rw [if_pos hc']
    obtain ⟨fl, ll, lx, lr, rfl⟩ := FT.depth_pos (t := l) (by omega)
    obtain ⟨il, qll, qlr, e, hs, hg, hll, hlr⟩ := hl1
    cases e
    dsimp only
    have hs1 : (FT.node fl ll lx lr).size = 1 + ll.size + lr.size := rfl
    have li : il < h1.next := AHeap.lt_of_alive h1 (by rw [hg]; simp)
    simp only [go_sem, simprocAttr, hg, nodeC]
    refine cl_spec (depth_f hll) (fun u h' hp _ => hp.2 ▸ .refl _) ?_
    rintro u k ⟨rfl, hk⟩
    obtain rfl : h1 = k := hk.symm
    simp only [go_sem, simprocAttr, hg, nodeC]
    refine cl_spec (depth_f hlr) (fun _ _ _ hc => absurd hc (by decide +kernel)) ?_
    rintro u k ⟨rfl, hk⟩
    obtain rfl : h1 = k := hk.symm
    simp only [go_sem, simprocAttr]
    refine cnd_decide (fun hd => ?_) (fun hd => ?_)
    · have hd' : lr.depth ≤ ll.depth := by omega
      rw [if_pos hd']
      simp only [go_sem, simprocAttr, hg, nodeC, g1]
      refine cl_spec (make1_f (x := x) hn1 hlr hr1 (by omega)) (fun u h' hp _ => hp.2) ?_
      rintro u k ⟨hm, qm⟩
      simp only [go_sem, simprocAttr]
      refine cl_spec (make1_f (x := lx) (hn1.quiet qm) (hll.quiet qm) hm (by simp only [FT.size]; omega)) (fun _ _ _ hc => absurd hc (by decide +kernel)) ?_
      rintro u k2 ⟨hm2, qm2⟩
      simp only [go_sem, simprocAttr]
      exact ⟨hm2, q1.trans (qm.trans qm2)⟩
    · have hd' : ¬ lr.depth ≤ ll.depth := by omega
      rw [if_neg hd']
      obtain ⟨fm, a, m, b, rfl⟩ := FT.depth_pos (t := lr) (by omega)
      obtain ⟨im, qa, qb, e, hs2, hg2, ha, hb2⟩ := hlr
      subst e
      dsimp only
      have hs3 : (FT.node fm a m b).size = 1 + a.size + b.size := rfl
      have lm : im < h1.next := AHeap.lt_of_alive h1 (by rw [hg2]; simp)
      simp only [go_sem, simprocAttr, hg, hg2, nodeC, g1]
      refine cl_spec (make1_f (x := lx) hn1 hll ha (by omega)) (fun u h' hp _ => hp.2) ?_
      rintro u k ⟨hm, qm⟩
      have hg2' := (qm.2 im lm).trans hg2
      have g1' := (qm.2 _ lg1).trans g1
      simp only [go_sem, simprocAttr, hg2', nodeC, g1']
      refine cl_spec (make1_f (x := x) (hn1.quiet qm) (hb2.quiet qm) (hr1.quiet qm) (by omega)) (fun u h' hp _ => hp.2) ?_
      rintro u k2 ⟨hm2, qm2⟩
      simp only [go_sem, simprocAttr]
      refine cl_spec (make1_f (x := m) ((hn1.quiet qm).quiet qm2) (hm.quiet qm2) hm2 (by simp only [FT.size]; omega)) (fun _ _ _ hc => absurd hc (by decide +kernel)) ?_
      rintro u k3 ⟨hm3, qm3⟩
      simp only [go_sem, simprocAttr]
      exact ⟨hm3, q1.trans (qm.trans (qm2.trans qm3))⟩
  · have hc' : ¬ r.depth + 1 < l.depth := by omega
    rw [if_neg hc']
    simp only [go_sem, simprocAttr]
    refine cnd_decide (fun hc2 => ?_) (fun hc2 => ?_)
    · have hc2' : l.depth + 1 < r.depth := by omega
      rw [if_pos hc2']
      obtain ⟨fl, rl, rx, rr, rfl⟩ := FT.depth_pos (t := r) (by omega)
      obtain ⟨il, qll, qlr, e, hs, hg, hll, hlr⟩ := hr1
      cases e
      dsimp only
      have hs1 : (FT.node fl rl rx rr).size = 1 + rl.size + rr.size := rfl
      have li : il < h1.next := AHeap.lt_of_alive h1 (by rw [hg]; simp)
      simp only [go_sem, simprocAttr, hg, nodeC]
      refine cl_spec (depth_f hlr) (fun u h' hp _ => hp.2 ▸ .refl _) ?_
      rintro u k ⟨rfl, hk⟩
      obtain rfl : h1 = k := hk.symm
      simp only [go_sem, simprocAttr, hg, nodeC]
      refine cl_spec (depth_f hll) (fun _ _ _ hc => absurd hc (by decide +kernel)) ?_
      rintro u k ⟨rfl, hk⟩
      obtain rfl : h1 = k := hk.symm
      simp only [go_sem, simprocAttr]
      refine cnd_decide (fun hd => ?_) (fun hd => ?_)
      · have hd' : rl.depth ≤ rr.depth := by omega
        rw [if_pos hd']
        simp only [go_sem, simprocAttr, hg, nodeC, g1]
        refine cl_spec (make1_f (x := x) hn1 hl1 hll (by omega)) (fun u h' hp _ => hp.2) ?_
        rintro u k ⟨hm, qm⟩
        have hg' := (qm.2 il li).trans hg
        simp only [go_sem, simprocAttr, hg', nodeC]
        refine cl_spec (make1_f (x := rx) (hn1.quiet qm) hm (hlr.quiet qm) (by simp only [FT.size]; omega)) (fun _ _ _ hc => absurd hc (by decide +kernel)) ?_
        rintro u k2 ⟨hm2, qm2⟩
        simp only [go_sem, simprocAttr]
        exact ⟨hm2, q1.trans (qm.trans qm2)⟩
      · have hd' : ¬ rl.depth ≤ rr.depth := by omega
        rw [if_neg hd']
        obtain ⟨fm, a, m, b, rfl⟩ := FT.depth_pos (t := rl) (by omega)
        obtain ⟨im, qa, qb, e, hs2, hg2, ha, hb2⟩ := hll
        subst e
        dsimp only
        have hs3 : (FT.node fm a m b).size = 1 + a.size + b.size := rfl
        have lm : im < h1.next := AHeap.lt_of_alive h1 (by rw [hg2]; simp)
        simp only [go_sem, simprocAttr, hg, hg2, nodeC, g1]
        refine cl_spec (make1_f (x := x) hn1 hl1 ha (by omega)) (fun u h' hp _ => hp.2) ?_
        rintro u k ⟨hm, qm⟩
        have hg2' := (qm.2 im lm).trans hg2
        have hg' := (qm.2 il li).trans hg
        simp only [go_sem, simprocAttr, hg', hg2', nodeC]
        refine cl_spec (make1_f (x := rx) (hn1.quiet qm) (hb2.quiet qm) (hlr.quiet qm) (by omega)) (fun u h' hp _ => hp.2) ?_
        rintro u k2 ⟨hm2, qm2⟩
        simp only [go_sem, simprocAttr]
        refine cl_spec (make1_f (x := m) ((hn1.quiet qm).quiet qm2) (hm.quiet qm2) hm2 (by simp only [FT.size]; omega)) (fun _ _ _ hc => absurd hc (by decide +kernel)) ?_
        rintro u k3 ⟨hm3, qm3⟩
        simp only [go_sem, simprocAttr]
        exact ⟨hm3, q1.trans (qm.trans (qm2.trans qm3))⟩
    · have hc2' : ¬ l.depth + 1 < r.depth := by omega
      rw [if_neg hc2']
      simp only [go_sem, simprocAttr, g1]
      refine cl_spec (make1_f (x := x) hn1 hl1 hr1 (by omega)) (fun _ _ _ hc => absurd hc (by decide +kernel)) ?_
      rintro u k ⟨hm, qm⟩
      simp only [go_sem, simprocAttr]
      exact ⟨hm, q1.trans qm⟩

theorem join_f : ∀ (n : Nat) {h : AHeap} {l r : FT} {vl vr : Value} {x : Ext} (hd : l.size + r.size < n) (hn : New S h) (hl : FAt O S h l vl) (hr : FAt O S h r vr) (hb : l.size + r.size ≤ 1099511627775), Does Try.prog 52 #[vl, x.ag, vr] h (fun u h' => FAt O S h' (FT.join l x r) u ∧ h.quiet h') := by
  intro n
  induction n with
  | zero =>
    intro h l r vl vr x hd hn hl hr hb
    omega
  | succ n ih =>
  intro h l r vl vr x hd hn hl hr hb
  have hdl := l.depth_le
  have hdr := r.depth_le
  obtain ⟨pl, rfl, _⟩ := hl.ptr
  obtain ⟨pr, rfl, _⟩ := hr.ptr
  refine spec_go mixed Try.func52 rfl Try.results52 (n := Try.f52.ntmps) (by kernel_rfl) (by simp) ?_
  simp only [go_sem, simprocAttr, Ext.ag]
  refine cl_gen fun h1 e1 => ?_
  have q1 : h.quiet h1 := by rw [e1]; simp only [go_sem, simprocAttr]
  have g1 : h1.get h.next = .cells [.int .i64 x.off, .int .i64 x.len, .int .i64 x.phys, .int .i64 x.birth] .rw := by rw [e1]; simp only [go_sem, simprocAttr]
  have lg1 : h.next < h1.next := by rw [e1]; simp
  clear e1
  have hl1 := hl.quiet q1
  have hr1 := hr.quiet q1
  have hn1 := hn.quiet q1
  refine cl_spec (depth_f hl1) (fun _ _ _ hc => absurd hc (by decide +kernel)) ?_
  rintro u k ⟨rfl, hk⟩
  obtain rfl : h1 = k := hk.symm
  simp only [go_sem, simprocAttr]
  refine cl_spec (depth_f hr1) (fun _ _ _ hc => absurd hc (by decide +kernel)) ?_
  rintro u k ⟨rfl, hk⟩
  obtain rfl : h1 = k := hk.symm
  have e1 : IntKind.i64.wrap ((l.depth : Int) - r.depth) = (l.depth : Int) - r.depth := by rw [wi64] <;> omega
  simp only [go_sem, simprocAttr, e1]
  unfold FT.join
  refine cnd_decide (fun hc => ?_) (fun hc => ?_)
  · have hc' : r.depth + 1 < l.depth := by omega
    rw [if_pos hc']
    obtain ⟨fl, ll, lx, lr, rfl⟩ := FT.depth_pos (t := l) (by omega)
    obtain ⟨il, qll, qlr, e, hs, hg, hll, hlr⟩ := hl1
    cases e
    dsimp only
    have hs1 : (FT.node fl ll lx lr).size = 1 + ll.size + lr.size := rfl
    simp only [go_sem, simprocAttr, hg, nodeC, g1]
    refine cl_spec (ih (x := x) (by omega) hn1 hlr hr1 (by omega)) (fun u h' hp _ => hp.2) ?_
    rintro u k ⟨hm, qm⟩
    simp only [go_sem, simprocAttr]
    refine cl_spec (even_f (x := lx) (hn1.quiet qm) (hll.quiet qm) hm (by rw [FT.join_size]; omega)) (fun _ _ _ hc => absurd hc (by decide +kernel)) ?_
    rintro u k2 ⟨hm2, qm2⟩
    simp only [go_sem, simprocAttr]
    exact ⟨hm2, q1.trans (qm.trans qm2)⟩
  · have hc' : ¬ r.depth + 1 < l.depth := by omega
    rw [if_neg hc']
    simp only [go_sem, simprocAttr]
    refine cnd_decide (fun hc2 => ?_) (fun hc2 => ?_)
    · have hc2' : l.depth + 1 < r.depth := by omega
      rw [if_pos hc2']
      obtain ⟨fl, rl, rx, rr, rfl⟩ := FT.depth_pos (t := r) (by omega)
      obtain ⟨il, qll, qlr, e, hs, hg, hll, hlr⟩ := hr1
      cases e
      dsimp only
      have hs1 : (FT.node fl rl rx rr).size = 1 + rl.size + rr.size := rfl
      have li : il < h1.next := AHeap.lt_of_alive h1 (by rw [hg]; simp)
      simp only [go_sem, simprocAttr, hg, nodeC, g1]
      refine cl_spec (ih (x := x) (by omega) hn1 hl1 hll (by omega)) (fun u h' hp _ => hp.2) ?_
      rintro u k ⟨hm, qm⟩
      have hg' := (qm.2 il li).trans hg
      simp only [go_sem, simprocAttr, hg', nodeC]
      refine cl_spec (even_f (x := rx) (hn1.quiet qm) hm (hlr.quiet qm) (by rw [FT.join_size]; omega)) (fun _ _ _ hc => absurd hc (by decide +kernel)) ?_
      rintro u k2 ⟨hm2, qm2⟩
      simp only [go_sem, simprocAttr]
      exact ⟨hm2, q1.trans (qm.trans qm2)⟩
    · have hc2' : ¬ l.depth + 1 < r.depth := by omega
      rw [if_neg hc2']
      simp only [go_sem, simprocAttr, g1]
      refine cl_spec (make1_f (x := x) hn1 hl1 hr1 (by omega)) (fun _ _ _ hc => absurd hc (by decide +kernel)) ?_
      rintro u k ⟨hm, qm⟩
      simp only [go_sem, simprocAttr]
      exact ⟨hm, q1.trans qm⟩
end
end Go.Proofs.Ytfdbadpiklmbaaa
