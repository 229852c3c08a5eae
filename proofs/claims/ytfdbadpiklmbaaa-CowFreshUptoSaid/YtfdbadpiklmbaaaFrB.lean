/- cow: trees whose nodes tell whether they are old or new are cut, and put together. -/
import Derived.Test.YtfdbadpiklmbaaaFrA
set_option linter.unusedSimpArgs false
set_option linter.unusedVariables false
set_option linter.unnecessarySimpa false
set_option maxRecDepth 100000
namespace Go.Proofs.Ytfdbadpiklmbaaa
open Go.AM
def FT.list : FT → List Ext
  | .nil => []
  | .node _ l x r => l.list ++ x :: r.list
def FT.all (P : Ext → Prop) : FT → Prop
  | .nil => True
  | .node f l x r => l.all P ∧ P x ∧ r.all P
theorem FT.all_list {P : Ext → Prop} : ∀ {t : FT}, t.all P ↔ ∀ x ∈ t.list, P x
  | .nil => by simp [FT.all, FT.list]
  | .node f l x r => by
    simp only [FT.all, FT.list, List.mem_append, List.mem_cons]
    rw [FT.all_list (t := l), FT.all_list (t := r)]
    constructor
    · rintro ⟨h1, h2, h3⟩ y (h | rfl | h)
      · exact h1 y h
      · exact h2
      · exact h3 y h
    · exact fun h => ⟨fun y hy => h y (.inl hy), h x (.inr (.inl rfl)), fun y hy => h y (.inr (.inr hy))⟩
theorem FT.even_list (l : FT) (x : Ext) (r : FT) : (FT.even l x r).list = l.list ++ x :: r.list := by
  unfold FT.even
  repeat' split
  all_goals simp [FT.list]
theorem FT.join_list (l : FT) (x : Ext) (r : FT) : (FT.join l x r).list = l.list ++ x :: r.list := by
  fun_induction FT.join l x r
  all_goals first | (rw [FT.even_list]; simp_all [FT.list]) | simp [FT.list]
theorem FT.size_list : ∀ t : FT, t.size = t.list.length
  | .nil => rfl
  | .node f l x r => by simp only [FT.size, FT.list, List.length_append, List.length_cons]; rw [FT.size_list l, FT.size_list r]; omega

def FT.last (l : FT) (x : Ext) : FT → FT × Ext
  | .nil => (l, x)
  | .node f rl rx rr => (FT.join l x (FT.last rl rx rr).1, (FT.last rl rx rr).2)
def FT.first : FT → Ext → FT → Ext × FT
  | .nil, x, r => (x, r)
  | .node f ll lx lr, x, r => ((FT.first ll lx lr).1, FT.join (FT.first ll lx lr).2 x r)
theorem FT.last_list : ∀ (r l : FT) (x : Ext), (FT.last l x r).1.list ++ [(FT.last l x r).2] = l.list ++ x :: r.list
  | .nil, l, x => rfl
  | .node f rl rx rr, l, x => by
    have := FT.last_list rr rl rx
    simp only [FT.last, FT.join_list, FT.list] at this ⊢
    rw [List.append_assoc, List.cons_append, this]
theorem FT.first_list : ∀ (l : FT) (x : Ext) (r : FT), (FT.first l x r).1 :: (FT.first l x r).2.list = l.list ++ x :: r.list
  | .nil, x, r => rfl
  | .node f ll lx lr, x, r => by
    have := FT.first_list ll lx lr
    simp only [FT.first, FT.join_list, FT.list] at this ⊢
    rw [← List.cons_append, this]
theorem FT.last_size (l : FT) (x : Ext) (r : FT) : (FT.last l x r).1.size = l.size + r.size := by
  have := congrArg List.length (FT.last_list r l x)
  simp only [List.length_append, List.length_cons, List.length_nil] at this
  simp only [FT.size_list]; omega
theorem FT.first_size (l : FT) (x : Ext) (r : FT) : (FT.first l x r).2.size = l.size + r.size := by
  have := congrArg List.length (FT.first_list l x r)
  simp only [List.length_append, List.length_cons] at this
  simp only [FT.size_list]; omega

def FT.both (l r : FT) : FT :=
  match l with
  | .nil => r
  | .node f ll lx lr => FT.join (FT.last ll lx lr).1 (FT.last ll lx lr).2 r
def FT.split (o : Int) : FT → FT × FT
  | .nil => (.nil, .nil)
  | .node f l x r =>
    if o ≤ x.off then ((FT.split o l).1, FT.join (FT.split o l).2 x r)
    else if x.off + x.len ≤ o then (FT.join l x (FT.split o r).1, (FT.split o r).2)
    else (FT.join l (x.clip 0 o) .nil, FT.join .nil (x.clip o 1024) r)
theorem FT.split_size (o : Int) : ∀ t : FT, (FT.split o t).1.size + (FT.split o t).2.size ≤ t.size + 1
  | .nil => by simp [FT.split, FT.size]
  | .node f l x r => by
    have := FT.split_size o l
    have := FT.split_size o r
    unfold FT.split
    repeat' split
    all_goals (simp only [FT.join_size, FT.size] at *; omega)
def FT.lowOf (l : FT) (x : Ext) : FT × Ext :=
  match l with
  | .nil => (.nil, x)
  | .node f ll lx lr => if (FT.last ll lx lr).2.meets x then ((FT.last ll lx lr).1, (FT.last ll lx lr).2.with x) else (.node f ll lx lr, x)
def FT.highOf (x : Ext) (r : FT) : Ext × FT :=
  match r with
  | .nil => (x, .nil)
  | .node f rl rx rr => if x.meets (FT.first rl rx rr).1 then (x.with (FT.first rl rx rr).1, (FT.first rl rx rr).2) else (x, .node f rl rx rr)
def FT.put (l : FT) (x : Ext) (r : FT) : FT := FT.join (FT.lowOf l x).1 (FT.highOf (FT.lowOf l x).2 r).1 (FT.highOf (FT.lowOf l x).2 r).2

section
variable {h : AHeap} {O S S' Z : Nat → Prop}

theorem FAt.avoid {h1 : AHeap} {t : FT} {v : Value} (ht : FAt O S h t v) (q : h.quiet h1) : FAt O (fun j => S j ∧ j ≠ h.next) h1 t v := ht.mono fun j hj hl => ⟨⟨hj, by omega⟩, q.2 j hl⟩
theorem FAt.set {t : FT} {v : Value} {n : Nat} (ht : FAt O (fun j => S j ∧ j ≠ n) h t v) (o : AObj) : FAt O S (h.set n o) t v := ht.mono fun j hj _ => ⟨hj.1, AHeap.get_set_ne _ _ (Ne.symm hj.2)⟩

theorem last_f : ∀ (r : FT) {S : Nat → Prop} {f : Bool} {h : AHeap} {l : FT} {x : Ext} {v : Value} (hn : New S h) (ht : FAt O S h (.node f l x r) v) (hb : l.size + r.size ≤ 1099511627775), Does Try.prog 54 #[v] h (fun u h' => ∃ w, u = .tuple #[w, (FT.last l x r).2.ag] ∧ FAt O S h' (FT.last l x r).1 w ∧ h.quiet h') := by
  intro r
  induction r with
  | nil =>
    intro S g h l x v hn ht hb
    obtain ⟨id, pl, pr, rfl, hs, hg, hl, hr⟩ := ht
    obtain rfl : pr = _ := hr
    have lid : id < h.next := AHeap.lt_of_alive h (by rw [hg]; simp)
    have gp : ∀ o, (h.push o).get id = _ := fun o => (AHeap.get_push_lt _ _ lid).trans hg
    refine spec_go mixed Try.func54 rfl Try.results54 (n := Try.f54.ntmps) (by kernel_rfl) (by simp) ?_
    simp only [go_sem, simprocAttr, gp, nodeC]
    exact ⟨_, rfl, hl.quiet (AHeap.quiet.push _ _)⟩
  | node f rl rx rr ihl ihr =>
    intro S g h l x v hn ht hb
    obtain ⟨id, pl, pr, rfl, hs, hg, hl, hr⟩ := ht
    have lid : id < h.next := AHeap.lt_of_alive h (by rw [hg]; simp)
    have gp : ∀ o, (h.push o).get id = _ := fun o => (AHeap.get_push_lt _ _ lid).trans hg
    have hs3 : (FT.node f rl rx rr).size = 1 + rl.size + rr.size := rfl
    refine spec_go mixed Try.func54 rfl Try.results54 (n := Try.f54.ntmps) (by kernel_rfl) (by simp) ?_
    have hr' := hr
    obtain ⟨ir, p1, p2, rfl, _⟩ := hr'
    simp only [go_sem, simprocAttr, gp, nodeC]
    refine cl_gen fun h1 e1 => ?_
    have q1 : h.quiet h1 := by rw [e1]; simp only [go_sem, simprocAttr]
    have n1 : h1.next = h.next + 1 := by rw [e1]; simp
    have g1 : h1.get h.next = .cells [.int .i64 0, .int .i64 0, .int .i64 0, .int .i64 0] .rw := by rw [e1]; simp only [go_sem, simprocAttr]
    clear e1
    refine cl_spec (ihr (hn.avoid (h1 := h1) (by omega)) (hr.avoid q1) (by omega)) (fun _ _ _ hc => absurd hc (by decide +kernel)) ?_
    rintro u k ⟨w, rfl, hw, qw⟩
    have ln := FT.last_size rl rx rr
    have Q : h.quiet k := q1.trans qw
    have hgk := (Q.2 id lid).trans hg
    have gpk : ∀ o, (k.push o).get id = _ := fun o => (AHeap.get_push_lt _ _ (by have := Q.1; omega)).trans hgk
    simp only [go_sem, simprocAttr, gpk, nodeC, Ext.ag]
    refine cl_gen fun k1 e1 => ?_
    have q2 : k.quiet k1 := by rw [e1]; simp only [go_sem, simprocAttr]
    have g2 : k1.get k.next = .cells (FT.last rl rx rr).2.cs .rw := by rw [e1]; simp only [go_sem, simprocAttr, Ext.cs]
    have n2 : k1.next = k.next + 1 := by rw [e1]; simp
    clear e1
    have lk : h.next < k.next := by have := qw.1; omega
    refine cl_spec (join_f _ (Nat.lt_succ_self _) (x := x) ((hn.avoid (h1 := h1) (by omega)).quiet (qw.trans q2)) ((hl.avoid q1).quiet (qw.trans q2)) (hw.quiet q2) (by omega)) (fun u h' hp _ => hp.2) ?_
    rintro u k3 ⟨hj, q3⟩
    have g3 := (q3.2 k.next (by omega)).trans g2
    have l3 : h.next < k3.next := by have := q2.1; have := q3.1; omega
    have g4 : k3.get h.next = _ := (q3.2 h.next (by omega)).trans ((q2.2 h.next lk).trans ((qw.2 h.next (by omega)).trans g1))
    have gs := fun o => AHeap.get_set_self k3 o l3
    simp only [go_sem, simprocAttr, g3, g4, gs, Ext.cs]
    exact ⟨_, rfl, hj.set _, (Q.trans (q2.trans q3)).set' (Nat.le_refl _) _⟩

theorem first_f : ∀ (l : FT) {S : Nat → Prop} {f : Bool} {h : AHeap} {r : FT} {x : Ext} {v : Value} (hn : New S h) (ht : FAt O S h (.node f l x r) v) (hb : l.size + r.size ≤ 1099511627775), Does Try.prog 56 #[v] h (fun u h' => ∃ w, u = .tuple #[(FT.first l x r).1.ag, w] ∧ FAt O S h' (FT.first l x r).2 w ∧ h.quiet h') := by
  intro l
  induction l with
  | nil =>
    intro S g h r x v hn ht hb
    obtain ⟨id, pl, pr, rfl, hs, hg, hl, hr⟩ := ht
    obtain rfl : pl = _ := hl
    have lid : id < h.next := AHeap.lt_of_alive h (by rw [hg]; simp)
    have gp : ∀ o, (h.push o).get id = _ := fun o => (AHeap.get_push_lt _ _ lid).trans hg
    refine spec_goH [2] mixed Try.func56 rfl Try.results56 (n := Try.f56.ntmps) (by kernel_rfl) (by simp) ?_
    simp only [go_sem, simprocAttr, go_regionH, rg_false, rg_true, List.contains_cons, List.contains_nil, beq_self_eq_true, Bool.or_false, Bool.false_or, Bool.true_or, Nat.reduceBEq, gp, nodeC]
    refine ⟨apart_of [0] [2] (by decide +kernel) ?_, ?_⟩
    · intro t ht s hs' y k1 k2
      obtain rfl : t = 0 := by simpa using ht
      obtain rfl : s = 2 := by simpa using hs'
      replace k1 : vblk (.pointer (some ⟨id, 0, none⟩)) = some y := by rw [← k1]; simp only [go_sem, simprocAttr]
      replace k2 : vblk (.pointer (some ⟨h.next, 0, none⟩)) = some y := by rw [← k2]; simp only [go_sem, simprocAttr]
      simp only [vblk, Option.some.injEq] at k1 k2
      omega
    · exact ⟨_, rfl, hr.quiet (AHeap.quiet.push _ _)⟩
  | node f ll lx lr ihl ihr =>
    intro S g h r x v hn ht hb
    obtain ⟨id, pl, pr, rfl, hs, hg, hl, hr⟩ := ht
    have lid : id < h.next := AHeap.lt_of_alive h (by rw [hg]; simp)
    have gp : ∀ o, (h.push o).get id = _ := fun o => (AHeap.get_push_lt _ _ lid).trans hg
    have hs3 : (FT.node f ll lx lr).size = 1 + ll.size + lr.size := rfl
    refine spec_goH [2] mixed Try.func56 rfl Try.results56 (n := Try.f56.ntmps) (by kernel_rfl) (by simp) ?_
    have hl' := hl
    obtain ⟨ir, p1, p2, rfl, _⟩ := hl'
    simp only [go_sem, simprocAttr, go_regionH, rg_false, rg_true, List.contains_cons, List.contains_nil, beq_self_eq_true, Bool.or_false, Bool.false_or, Bool.true_or, Nat.reduceBEq, gp, nodeC]
    refine cl_gen fun h1 e1 => ?_
    have q1 : h.quiet h1 := by rw [e1]; simp only [go_sem, simprocAttr]
    have n1 : h1.next = h.next + 1 := by rw [e1]; simp
    have g1 : h1.get h.next = .cells [.int .i64 0, .int .i64 0, .int .i64 0, .int .i64 0] .rw := by rw [e1]; simp only [go_sem, simprocAttr]
    clear e1
    refine cl_spec (ihl (hn.avoid (h1 := h1) (by omega)) (hl.avoid q1) (by omega)) (fun _ _ _ hc => absurd hc (by decide +kernel)) ?_
    rintro u k ⟨w, rfl, hw, qw⟩
    have ln := FT.first_size ll lx lr
    have Q : h.quiet k := q1.trans qw
    have hgk := (Q.2 id lid).trans hg
    have gpk : ∀ o, (k.push o).get id = _ := fun o => (AHeap.get_push_lt _ _ (by have := Q.1; omega)).trans hgk
    obtain ⟨pw, rfl, _⟩ := hw.ptr
    simp only [go_sem, simprocAttr, go_regionH, rg_false, rg_true, List.contains_cons, List.contains_nil, beq_self_eq_true, Bool.or_false, Bool.false_or, Bool.true_or, Nat.reduceBEq, gpk, nodeC, Ext.ag]
    refine cl_gen fun k1 e1 => ?_
    have q2 : k.quiet k1 := by rw [e1]; simp only [go_sem, simprocAttr]
    have n2 : k1.next = k.next + 1 := by rw [e1]; simp
    clear e1
    have lk : h.next < k.next := by have := qw.1; omega
    refine cl_spec (join_f _ (Nat.lt_succ_self _) (x := x) ((hn.avoid (h1 := h1) (by omega)).quiet (qw.trans q2)) (hw.quiet q2) ((hr.avoid q1).quiet (qw.trans q2)) (by omega)) (fun u h' hp _ => hp.2) ?_
    rintro u k3 ⟨hj, q3⟩
    have l3 : h.next < k3.next := by have := q2.1; have := q3.1; omega
    have g4 : k3.get h.next = _ := (q3.2 h.next (by omega)).trans ((q2.2 h.next lk).trans ((qw.2 h.next (by omega)).trans g1))
    have gs := fun o => AHeap.get_set_self k3 o l3
    simp only [go_sem, simprocAttr, go_regionH, rg_false, rg_true, List.contains_cons, List.contains_nil, beq_self_eq_true, Bool.or_false, Bool.false_or, Bool.true_or, Nat.reduceBEq, g4, gs, Ext.cs]
    exact ⟨_, rfl, hj.set _, (Q.trans (q2.trans q3)).set' (Nat.le_refl _) _⟩

theorem both_f {l r : FT} {vl vr : Value} (hn : New S h) (hl : FAt O S h l vl) (hr : FAt O S h r vr) (hb : l.size + r.size ≤ 1099511627775) : Does Try.prog 57 #[vl, vr] h (fun u h' => FAt O S h' (FT.both l r) u ∧ h.quiet h') := by
  obtain ⟨pr, rfl, _⟩ := hr.ptr
  cases l with
  | nil =>
    obtain rfl : vl = _ := hl
    refine spec_go mixed Try.func57 rfl Try.results57 (n := Try.f57.ntmps) (by kernel_rfl) (by simp) ?_
    simp only [go_sem, simprocAttr, FT.both]
    exact hr
  | node f ll lx lr =>
    have hl' := hl
    obtain ⟨id, pl, pr', rfl, _⟩ := hl'
    have hs1 : (FT.node f ll lx lr).size = 1 + ll.size + lr.size := rfl
    have ln := FT.last_size ll lx lr
    refine spec_go mixed Try.func57 rfl Try.results57 (n := Try.f57.ntmps) (by kernel_rfl) (by simp) ?_
    simp only [go_sem, simprocAttr]
    refine cl_spec (last_f lr hn hl (by omega)) (fun _ _ _ hc => absurd hc (by decide +kernel)) ?_
    rintro u k ⟨w, rfl, hw, qw⟩
    obtain ⟨pw, rfl, _⟩ := hw.ptr
    simp only [go_sem, simprocAttr, Ext.ag]
    refine cl_gen fun k1 e1 => ?_
    have q1 : k.quiet k1 := by rw [e1]; simp only [go_sem, simprocAttr]
    clear e1
    refine cl_spec (join_f _ (Nat.lt_succ_self _) (x := (FT.last ll lx lr).2) ((hn.quiet qw).quiet q1) (hw.quiet q1) (hr.quiet (qw.trans q1)) (by omega)) (fun _ _ _ hc => absurd hc (by decide +kernel)) ?_
    rintro u k3 ⟨hj, q3⟩
    simp only [go_sem, simprocAttr]
    exact ⟨hj, qw.trans (q1.trans q3)⟩
theorem split_f {o : Int} (ho : 0 ≤ o ∧ o ≤ 1099511627776) : ∀ (t : FT) {S : Nat → Prop} {h : AHeap} {v : Value} (hn : New S h) (ht : FAt O S h t v) (hok : t.all Ext.ok) (hb : t.size ≤ 1099511627770), Does Try.prog 31 #[v, .int .i64 o] h (fun u h' => ∃ w1 w2, u = .tuple #[w1, w2] ∧ FAt O S h' (FT.split o t).1 w1 ∧ FAt O S h' (FT.split o t).2 w2 ∧ h.quiet h') := by
  intro t
  induction t with
  | nil =>
    intro S h v hn ht hok hb
    obtain rfl : v = _ := ht
    refine spec_go mixed Try.func31 rfl Try.results31 (n := Try.f31.ntmps) (by kernel_rfl) (by simp) ?_
    simp only [go_sem, simprocAttr]
    exact ⟨_, _, rfl, rfl, rfl⟩
  | node f l x r ihl ihr =>
    intro S h v hn ht hok hb
    obtain ⟨id, pl, pr, rfl, hs, hg, hl, hr⟩ := ht
    have lid : id < h.next := AHeap.lt_of_alive h (by rw [hg]; simp)
    have hs3 : (FT.node f l x r).size = 1 + l.size + r.size := rfl
    obtain ⟨ol, ox, or⟩ := hok
    have ox' := ox
    unfold Ext.ok at ox'
    have e1 : IntKind.i64.wrap (x.off + x.len) = x.off + x.len := by rw [wi64] <;> omega
    obtain ⟨ppl, rfl, _⟩ := hl.ptr
    obtain ⟨ppr, rfl, _⟩ := hr.ptr
    have sl := FT.split_size o l
    have sr := FT.split_size o r
    refine spec_go mixed Try.func31 rfl Try.results31 (n := Try.f31.ntmps) (by kernel_rfl) (by simp) ?_
    simp only [go_sem, simprocAttr, hg, nodeC]
    unfold FT.split
    refine cnd_decide (fun c1 => ?_) (fun c1 => ?_)
    · rw [if_pos c1]
      simp only [go_sem, simprocAttr, hg, nodeC]
      refine cl_spec (ihl hn hl ol (by omega)) (fun _ _ _ hc => absurd hc (by decide +kernel)) ?_
      rintro u k ⟨w1, w2, rfl, h1, h2, q⟩
      have hgk := (q.2 id lid).trans hg
      obtain ⟨p1, rfl, _⟩ := h1.ptr
      obtain ⟨p2, rfl, _⟩ := h2.ptr
      simp only [go_sem, simprocAttr, hgk, nodeC]
      refine cl_spec (join_f _ (Nat.lt_succ_self _) (x := x) (hn.quiet q) h2 (hr.quiet q) (by omega)) (fun _ _ _ hc => absurd hc (by decide +kernel)) ?_
      rintro u k2 ⟨hj, q2⟩
      simp only [go_sem, simprocAttr]
      exact ⟨_, _, rfl, h1.quiet q2, hj, q.trans q2⟩
    rw [if_neg c1]
    simp only [go_sem, simprocAttr, hg, nodeC, e1]
    refine cnd_decide (fun c2 => ?_) (fun c2 => ?_)
    · rw [if_pos c2]
      simp only [go_sem, simprocAttr, hg, nodeC]
      refine cl_spec (ihr hn hr or (by omega)) (fun _ _ _ hc => absurd hc (by decide +kernel)) ?_
      rintro u k ⟨w1, w2, rfl, h1, h2, q⟩
      have hgk := (q.2 id lid).trans hg
      obtain ⟨p1, rfl, _⟩ := h1.ptr
      obtain ⟨p2, rfl, _⟩ := h2.ptr
      simp only [go_sem, simprocAttr, hgk, nodeC]
      refine cl_spec (join_f _ (Nat.lt_succ_self _) (x := x) (hn.quiet q) (hl.quiet q) h1 (by omega)) (fun _ _ _ hc => absurd hc (by decide +kernel)) ?_
      rintro u k2 ⟨hj, q2⟩
      simp only [go_sem, simprocAttr]
      exact ⟨_, _, rfl, hj, h2.quiet q2, q.trans q2⟩
    rw [if_neg c2]
    simp only [go_sem, simprocAttr, hg, nodeC]
    refine cl_spec (clip_ok (x := x) ox (by omega) ho) (fun _ _ _ hc => absurd hc (by decide +kernel)) ?_
    rintro u k ⟨rfl, q⟩
    have hgk := (q.2 id lid).trans hg
    have gpk : ∀ o, (k.push o).get id = _ := fun o => (AHeap.get_push_lt _ _ (by have := q.1; omega)).trans hgk
    simp only [go_sem, simprocAttr, gpk, nodeC, Ext.ag]
    refine cl_gen fun k1 e1 => ?_
    have q1 : k.quiet k1 := by rw [e1]; simp only [go_sem, simprocAttr]
    have g1 : k1.get k.next = .cells (x.clip 0 o).cs .rw := by rw [e1]; simp only [go_sem, simprocAttr, Ext.cs]
    have n1 : k1.next = k.next + 1 := by rw [e1]; simp
    clear e1
    refine cl_spec (clip_ok (x := x) ox ho (by omega)) (fun _ _ _ hc => absurd hc (by decide +kernel)) ?_
    rintro u k2 ⟨rfl, q2⟩
    have Q2 := q.trans (q1.trans q2)
    have hgk2 := (Q2.2 id lid).trans hg
    have gpk2 : ∀ o, (k2.push o).get id = _ := fun o => (AHeap.get_push_lt _ _ (by have := Q2.1; omega)).trans hgk2
    have g2 : k2.get k.next = _ := (q2.2 _ (by omega)).trans g1
    have gpx2 : ∀ o, (k2.push o).get k.next = _ := fun o => (AHeap.get_push_lt _ _ (by have := q2.1; omega)).trans g2
    simp only [go_sem, simprocAttr, gpk2, gpx2, nodeC, Ext.ag, Ext.cs]
    refine cl_gen fun k3 e3 => ?_
    have q3 : k2.quiet k3 := by rw [e3]; simp only [go_sem, simprocAttr]
    have g3 : k3.get k2.next = .cells (x.clip o 1024).cs .rw := by rw [e3]; simp only [go_sem, simprocAttr, Ext.cs]
    have n3 : k3.next = k2.next + 1 := by rw [e3]; simp
    clear e3
    have Q3 := Q2.trans q3
    have hgk3 := (Q3.2 id lid).trans hg
    have z0 : FT.nil.size = 0 := rfl
    refine cl_spec (join_f _ (Nat.lt_succ_self _) (x := x.clip 0 o) (r := .nil) (hn.quiet Q3) (hl.quiet Q3) rfl (by omega)) (fun u h' hp _ => hp.2) ?_
    rintro u k4 ⟨hj, q4⟩
    have hgk4 := (q4.2 id (by have := Q3.1; omega)).trans hgk3
    have g4 := (q4.2 k2.next (by omega)).trans g3
    simp only [go_sem, simprocAttr, hgk4, nodeC, g4, Ext.cs]
    refine cl_spec (join_f _ (Nat.lt_succ_self _) (x := x.clip o 1024) (l := .nil) (hn.quiet (Q3.trans q4)) rfl (hr.quiet (Q3.trans q4)) (by omega)) (fun _ _ _ hc => absurd hc (by decide +kernel)) ?_
    rintro u2 k5 ⟨hj2, q5⟩
    simp only [go_sem, simprocAttr]
    exact ⟨_, _, rfl, hj.quiet q5, hj2, Q3.trans (q4.trans q5)⟩

theorem FT.last_ok {P : Ext → Prop} {f : Bool} {l : FT} {x : Ext} {r : FT} (h : (FT.node f l x r).all P) : (FT.last l x r).1.all P ∧ P (FT.last l x r).2 := by
  have e := FT.last_list r l x
  rw [FT.all_list] at h ⊢
  simp only [FT.list] at h
  rw [← e] at h
  exact ⟨fun y hy => h y (List.mem_append_left _ hy), h _ (by simp)⟩
theorem FT.first_ok {P : Ext → Prop} {f : Bool} {l : FT} {x : Ext} {r : FT} (h : (FT.node f l x r).all P) : (FT.first l x r).2.all P ∧ P (FT.first l x r).1 := by
  have e := FT.first_list l x r
  rw [FT.all_list] at h ⊢
  simp only [FT.list] at h
  rw [← e] at h
  exact ⟨fun y hy => h y (List.mem_cons_of_mem _ hy), h _ (by simp)⟩
theorem FT.lowOf_ok {l : FT} {x : Ext} (hl : l.all Ext.ok) (hx : x.ok) : (FT.lowOf l x).1.all Ext.ok ∧ (FT.lowOf l x).2.ok ∧ (FT.lowOf l x).1.size ≤ l.size := by
  unfold FT.lowOf
  cases l with
  | nil => exact ⟨trivial, hx, Nat.le_refl _⟩
  | node f ll lx lr =>
    dsimp only
    split
    · rename_i hm
      obtain ⟨h1, h2⟩ := FT.last_ok hl
      exact ⟨h1, Ext.ok_with h2 hx hm, by rw [FT.last_size]; simp only [FT.size]; omega⟩
    · exact ⟨hl, hx, Nat.le_refl _⟩

theorem put_f {l r : FT} {vl vr : Value} {x : Ext} (hn : New S h) (hl : FAt O S h l vl) (hr : FAt O S h r vr) (ol : l.all Ext.ok) (or : r.all Ext.ok) (ox : x.ok) (hb : l.size + r.size ≤ 1099511627775) : Does Try.prog 33 #[vl, x.ag, vr] h (fun u h' => FAt O S h' (FT.put l x r) u ∧ h.quiet h') := by
  obtain ⟨ppl, rfl, nl⟩ := hl.ptr
  obtain ⟨ppr, rfl, nr⟩ := hr.ptr
  unfold FT.put
  obtain ⟨ol2, ox2, sl2⟩ := FT.lowOf_ok ol ox
  refine spec_go mixed Try.func33 rfl Try.results33 (n := Try.f33.ntmps) (by kernel_rfl) (by simp) ?_
  simp only [go_sem, simprocAttr, Ext.ag, aeq_nil]
  refine cnd_gen fun h1 e1 => ?_
  have q1 : h.quiet h1 := by rw [e1]; simp only [go_sem, simprocAttr]
  have g1 : h1.get h.next = .cells x.cs .rw := by rw [e1]; simp only [go_sem, simprocAttr, Ext.cs]
  have n1 : h1.next = h.next + 1 := by rw [e1]; simp
  clear e1
  have hl1 := hl.avoid q1
  have hr1 := hr.avoid q1
  have hn1 := hn.avoid (h1 := h1) (by omega)
  generalize hS : (fun j => S j ∧ j ≠ h.next) = S1 at hl1 hr1 hn1
  have hset : ∀ {k : AHeap} {t : FT} {v : Value} (o : AObj), FAt O S1 k t v → FAt O S1 (k.set h.next o) t v := fun {k t v} o ht => ht.mono fun j hj _ => ⟨hj, AHeap.get_set_ne _ _ (by subst hS; exact Ne.symm hj.2)⟩
  refine cnd_cut (fun ρ k => ∃ w, FAt O S1 k (FT.lowOf l x).1 (.pointer w) ∧ k.get h.next = .cells (FT.lowOf l x).2.cs .rw ∧ h.quiet k ∧ h1.next ≤ k.next ∧ FAt O S1 k r (.pointer ppr) ∧ ρ 0 = .pointer w ∧ ρ 2 = .pointer ppr ∧ ρ 4 = .pointer (some ⟨h.next, 0, none⟩)) (fun hc => ?_) (fun hc => ?_) ?_
  · cases l with
    | nil => rw [nl.2 rfl] at hc; cases hc
    | node f ll lx lr =>
      have hs1 : (FT.node f ll lx lr).size = 1 + ll.size + lr.size := rfl
      simp only [go_sem, simprocAttr]
      refine cl_spec (last_f lr hn1 hl1 (by omega)) (fun _ _ _ hc => absurd hc (by decide +kernel)) ?_
      rintro u k ⟨w, rfl, hw, qw⟩
      obtain ⟨pw, rfl, _⟩ := hw.ptr
      have gk := (qw.2 h.next (by omega)).trans g1
      have gpk : ∀ o, (k.push o).get h.next = _ := fun o => (AHeap.get_push_lt _ _ (by have := qw.1; omega)).trans gk
      simp only [go_sem, simprocAttr, Ext.ag, gpk, Ext.cs]
      refine cl_gen fun k1 e1 => ?_
      have q2 : k.quiet k1 := by rw [e1]; simp only [go_sem, simprocAttr]
      have g2 : k1.get k.next = .cells (FT.last ll lx lr).2.cs .rw := by rw [e1]; simp only [go_sem, simprocAttr, Ext.cs]
      have n2 : k1.next = k.next + 1 := by rw [e1]; simp
      clear e1
      obtain ⟨oll, olx⟩ := FT.last_ok ol
      refine cl_spec (meets_ok olx ox) (fun _ _ _ hc => absurd hc (by decide +kernel)) ?_
      rintro u k2 ⟨rfl, q3⟩
      have g3 := (q3.2 k.next (by omega)).trans g2
      have Q := qw.trans (q2.trans q3)
      have gk2 := (Q.2 h.next (by omega)).trans g1
      have lk2 : h.next < k2.next := by have := Q.1; omega
      have ew : IntKind.i64.wrap ((FT.last ll lx lr).2.len + x.len) = (FT.last ll lx lr).2.len + x.len := by
        have olx' := olx; have ox' := ox; unfold Ext.ok at olx' ox'; rw [wi64] <;> omega
      by_cases hm : (FT.last ll lx lr).2.meets x
      · have em : FT.lowOf (.node f ll lx lr) x = ((FT.last ll lx lr).1, (FT.last ll lx lr).2.with x) := by simp only [FT.lowOf, if_pos hm]
        simp only [go_sem, simprocAttr, decide_eq_true hm, g3, gk2, Ext.cs, ew]
        rw [em]
        exact Hold.mk ⟨_, hset _ (hw.quiet (q2.trans q3)), AHeap.get_set_self _ _ lk2, (q1.trans Q).set' (Nat.le_refl _) _, by simpa using Q.1, hset _ (hr1.quiet Q), by simp only [go_sem, simprocAttr]⟩
      · have em : FT.lowOf (.node f ll lx lr) x = (.node f ll lx lr, x) := by simp only [FT.lowOf, if_neg hm]
        simp only [go_sem, simprocAttr, decide_eq_false hm]
        rw [em]
        exact Hold.mk ⟨_, hl1.quiet Q, gk2, q1.trans Q, Q.1, hr1.quiet Q, by simp only [go_sem, simprocAttr]⟩
  · cases l with
    | node f ll lx lr => simp at hc; exact absurd (nl.1 hc) (by simp)
    | nil =>
      simp only [go_sem, simprocAttr]
      exact Hold.mk ⟨_, hl1, g1, q1, Nat.le_refl _, hr1, by simp only [go_sem, simprocAttr]⟩
  generalize (FT.lowOf l x).1 = L at sl2 ol2
  generalize (FT.lowOf l x).2 = y at ox2
  rintro ρ k ⟨w, hw, gk, Q, hn2, hrk, r0, r2, r4⟩
  simp only [go_sem, simprocAttr, r0, r2, r4, aeq_nil]
  have lk : h.next < k.next := by omega
  refine cnd_cut (fun ρ k => ∃ w2, FAt O S1 k L (.pointer w) ∧ k.get h.next = .cells (FT.highOf y r).1.cs .rw ∧ h.quiet k ∧ h1.next ≤ k.next ∧ FAt O S1 k (FT.highOf y r).2 (.pointer w2) ∧ (FT.highOf y r).2.size ≤ r.size ∧ ρ 0 = .pointer w ∧ ρ 2 = .pointer w2 ∧ ρ 4 = .pointer (some ⟨h.next, 0, none⟩)) (fun hc => ?_) (fun hc => ?_) ?_
  · cases r with
    | nil => rw [nr.2 rfl] at hc; cases hc
    | node f rl rx rr =>
      have hs1 : (FT.node f rl rx rr).size = 1 + rl.size + rr.size := rfl
      simp only [go_sem, simprocAttr, r2]
      have hnk : New S1 k := fun j hj => hn1 j (by omega)
      refine cl_spec (first_f rl hnk hrk (by omega)) (fun _ _ _ hc => absurd hc (by decide +kernel)) ?_
      rintro u k3 ⟨w3, rfl, hw3, qw⟩
      obtain ⟨pw, rfl, _⟩ := hw3.ptr
      have gk3 := (qw.2 h.next (by omega)).trans gk
      have gpk : ∀ o, (k3.push o).get h.next = _ := fun o => (AHeap.get_push_lt _ _ (by have := qw.1; omega)).trans gk3
      simp only [go_sem, simprocAttr, Ext.ag, gpk, Ext.cs, r4]
      refine cl_gen fun k1 e1 => ?_
      have q2 : k3.quiet k1 := by rw [e1]; simp only [go_sem, simprocAttr]
      have g2 : k1.get k3.next = .cells (FT.first rl rx rr).1.cs .rw := by rw [e1]; simp only [go_sem, simprocAttr, Ext.cs]
      have n2 : k1.next = k3.next + 1 := by rw [e1]; simp
      clear e1
      obtain ⟨oll, olx⟩ := FT.first_ok or
      have fs := FT.first_size rl rx rr
      refine cl_spec (meets_ok ox2 olx) (fun _ _ _ hc => absurd hc (by decide +kernel)) ?_
      rintro u k2 ⟨rfl, q3⟩
      have g3 := (q3.2 k3.next (by omega)).trans g2
      have Q2 := qw.trans (q2.trans q3)
      have gk2 := (Q2.2 h.next (by omega)).trans gk
      have lk2 : h.next < k2.next := by have := Q2.1; omega
      have ew : IntKind.i64.wrap (y.len + (FT.first rl rx rr).1.len) = y.len + (FT.first rl rx rr).1.len := by
        have olx' := olx; have ox' := ox2; unfold Ext.ok at olx' ox'; rw [wi64] <;> omega
      by_cases hm : y.meets (FT.first rl rx rr).1
      · have em : FT.highOf y (.node f rl rx rr) = (y.with (FT.first rl rx rr).1, (FT.first rl rx rr).2) := by simp only [FT.highOf, if_pos hm]
        simp only [go_sem, simprocAttr, decide_eq_true hm, g3, gk2, Ext.cs, ew, r0, r4]
        rw [em]
        exact Hold.mk ⟨_, hset _ (hw.quiet Q2), AHeap.get_set_self _ _ lk2, (Q.trans Q2).set' (Nat.le_refl _) _, by have := Q2.1; simp; omega, hset _ (hw3.quiet (q2.trans q3)), by dsimp only; omega, by simp only [go_sem, simprocAttr, r0, r4]⟩
      · have em : FT.highOf y (.node f rl rx rr) = (y, .node f rl rx rr) := by simp only [FT.highOf, if_neg hm]
        simp only [go_sem, simprocAttr, decide_eq_false hm]
        rw [em]
        exact Hold.mk ⟨_, hw.quiet Q2, gk2, Q.trans Q2, by have := Q2.1; omega, hrk.quiet Q2, Nat.le_refl _, by simp only [go_sem, simprocAttr, r0, r2, r4]⟩
  · cases r with
    | node f ll lx lr => simp at hc; exact absurd (nr.1 hc) (by simp)
    | nil =>
      simp only [go_sem, simprocAttr]
      exact Hold.mk ⟨_, hw, gk, Q, hn2, hrk, Nat.le_refl _, r0, r2, r4⟩
  generalize (FT.highOf y r).1 = z
  generalize (FT.highOf y r).2 = R
  rintro ρ k3 ⟨w2, hw2, gk3, Q3, hn3, hrk3, szR, r0, r2, r4⟩
  simp only [go_sem, simprocAttr, r0, r2, r4, gk3, Ext.cs]
  refine cl_spec (join_f _ (Nat.lt_succ_self _) (x := z) (fun j hj => hn1 j (by omega)) hw2 hrk3 (by omega)) (fun _ _ _ hc => absurd hc (by decide +kernel)) ?_
  rintro u k4 ⟨hj, q4⟩
  simp only [go_sem, simprocAttr]
  exact ⟨hj.weaken fun j hj => by subst hS; exact hj.1, Q3.trans q4⟩
end
end Go.Proofs.Ytfdbadpiklmbaaa
