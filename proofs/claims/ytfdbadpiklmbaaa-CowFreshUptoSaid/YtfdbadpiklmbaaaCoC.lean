/- cow: trees are cut, and put together. -/
import Derived.Test.YtfdbadpiklmbaaaCoB
set_option linter.unusedSimpArgs false
set_option linter.unusedVariables false
set_option linter.unnecessarySimpa false
set_option maxRecDepth 100000
namespace Go.Proofs.Ytfdbadpiklmbaaa
open Go.AM

/-- An extent that may be. -/
def Ext.ok (x : Ext) : Prop := 0 ≤ x.off ∧ 1 ≤ x.len ∧ x.off + x.len ≤ 1024 ∧ 0 ≤ x.phys ∧ x.phys + x.len ≤ 1099511627776 ∧ 0 ≤ x.birth ∧ x.birth ≤ 1099511627776
def Ext.meets (a b : Ext) : Prop := a.off + a.len = b.off ∧ a.phys + a.len = b.phys ∧ a.birth = b.birth
instance (a b : Ext) : Decidable (a.meets b) := inferInstanceAs (Decidable (_ ∧ _))
def Ext.clip (x : Ext) (f t : Int) : Ext := ⟨max f x.off, min t (x.off + x.len) - max f x.off, x.phys + max f x.off - x.off, x.birth⟩
/-- Does it lie, in part, from one block to ahead of another one? -/
def Ext.lies (x : Ext) (f t : Int) : Prop := max f x.off < min t (x.off + x.len)
instance (x : Ext) (f t : Int) : Decidable (x.lies f t) := inferInstanceAs (Decidable (_ < _))

def T.all (P : Ext → Prop) : T → Prop
  | .nil => True
  | .node l x r => l.all P ∧ P x ∧ r.all P
theorem T.all_list {P : Ext → Prop} : ∀ {t : T}, t.all P ↔ ∀ x ∈ t.list, P x
  | .nil => by simp [T.all, T.list]
  | .node l x r => by
    simp only [T.all, T.list, List.mem_append, List.mem_cons]
    rw [T.all_list (t := l), T.all_list (t := r)]
    constructor
    · rintro ⟨h1, h2, h3⟩ y (h | rfl | h)
      · exact h1 y h
      · exact h2
      · exact h3 y h
    · exact fun h => ⟨fun y hy => h y (.inl hy), h x (.inr (.inl rfl)), fun y hy => h y (.inr (.inr hy))⟩
theorem T.even_list (l : T) (x : Ext) (r : T) : (T.even l x r).list = l.list ++ x :: r.list := by
  unfold T.even
  repeat' split
  all_goals simp [T.list]
theorem T.join_list (l : T) (x : Ext) (r : T) : (T.join l x r).list = l.list ++ x :: r.list := by
  fun_induction T.join l x r
  all_goals first | (rw [T.even_list]; simp_all [T.list]) | simp [T.list]
theorem T.size_list : ∀ t : T, t.size = t.list.length
  | .nil => rfl
  | .node l x r => by simp only [T.size, T.list, List.length_append, List.length_cons]; rw [T.size_list l, T.size_list r]; omega

def T.last (l : T) (x : Ext) : T → T × Ext
  | .nil => (l, x)
  | .node rl rx rr => (T.join l x (T.last rl rx rr).1, (T.last rl rx rr).2)
def T.first : T → Ext → T → Ext × T
  | .nil, x, r => (x, r)
  | .node ll lx lr, x, r => ((T.first ll lx lr).1, T.join (T.first ll lx lr).2 x r)
theorem T.last_list : ∀ (r l : T) (x : Ext), (T.last l x r).1.list ++ [(T.last l x r).2] = l.list ++ x :: r.list
  | .nil, l, x => rfl
  | .node rl rx rr, l, x => by
    have := T.last_list rr rl rx
    simp only [T.last, T.join_list, T.list] at this ⊢
    rw [List.append_assoc, List.cons_append, this]
theorem T.first_list : ∀ (l : T) (x : Ext) (r : T), (T.first l x r).1 :: (T.first l x r).2.list = l.list ++ x :: r.list
  | .nil, x, r => rfl
  | .node ll lx lr, x, r => by
    have := T.first_list ll lx lr
    simp only [T.first, T.join_list, T.list] at this ⊢
    rw [← List.cons_append, this]
theorem T.last_size (l : T) (x : Ext) (r : T) : (T.last l x r).1.size = l.size + r.size := by
  have := congrArg List.length (T.last_list r l x)
  simp only [List.length_append, List.length_cons, List.length_nil] at this
  simp only [T.size_list]; omega
theorem T.first_size (l : T) (x : Ext) (r : T) : (T.first l x r).2.size = l.size + r.size := by
  have := congrArg List.length (T.first_list l x r)
  simp only [List.length_append, List.length_cons] at this
  simp only [T.size_list]; omega

def T.both (l r : T) : T :=
  match l with
  | .nil => r
  | .node ll lx lr => T.join (T.last ll lx lr).1 (T.last ll lx lr).2 r
def T.split (o : Int) : T → T × T
  | .nil => (.nil, .nil)
  | .node l x r =>
    if o ≤ x.off then ((T.split o l).1, T.join (T.split o l).2 x r)
    else if x.off + x.len ≤ o then (T.join l x (T.split o r).1, (T.split o r).2)
    else (T.join l (x.clip 0 o) .nil, T.join .nil (x.clip o 1024) r)
theorem T.split_size (o : Int) : ∀ t : T, (T.split o t).1.size + (T.split o t).2.size ≤ t.size + 1
  | .nil => by simp [T.split, T.size]
  | .node l x r => by
    have := T.split_size o l
    have := T.split_size o r
    unfold T.split
    repeat' split
    all_goals (simp only [T.join_size, T.size] at *; omega)
/-- Two extents that are one. -/
def Ext.with (y x : Ext) : Ext := ⟨y.off, y.len + x.len, y.phys, y.birth⟩
def T.lowOf (l : T) (x : Ext) : T × Ext :=
  match l with
  | .nil => (.nil, x)
  | .node ll lx lr => if (T.last ll lx lr).2.meets x then ((T.last ll lx lr).1, (T.last ll lx lr).2.with x) else (.node ll lx lr, x)
def T.highOf (x : Ext) (r : T) : Ext × T :=
  match r with
  | .nil => (x, .nil)
  | .node rl rx rr => if x.meets (T.first rl rx rr).1 then (x.with (T.first rl rx rr).1, (T.first rl rx rr).2) else (x, .node rl rx rr)
def T.put (l : T) (x : Ext) (r : T) : T := T.join (T.lowOf l x).1 (T.highOf (T.lowOf l x).2 r).1 (T.highOf (T.lowOf l x).2 r).2

theorem Ext.ok_with {y x : Ext} (hy : y.ok) (hx : x.ok) (hm : y.meets x) : (y.with x).ok := by
  unfold Ext.ok Ext.meets Ext.with at *
  dsimp only
  omega
theorem Ext.ok_clip {x : Ext} {f t : Int} (hx : x.ok) (hl : x.lies f t) : (x.clip f t).ok := by
  unfold Ext.ok Ext.lies Ext.clip at *
  dsimp only
  omega

section
variable {h : AHeap} {S S' Z : Nat → Prop}

theorem TrAt.avoid {h1 : AHeap} {t : T} {v : Value} (ht : TrAt S h t v) (q : h.quiet h1) : TrAt (fun j => S j ∧ j ≠ h.next) h1 t v := ht.mono fun j hj hl => ⟨⟨hj, by omega⟩, q.2 j hl⟩
theorem New.avoid {h1 : AHeap} (hn : New S h) (hl : h.next < h1.next) : New (fun j => S j ∧ j ≠ h.next) h1 := fun j hj => ⟨hn j (by omega), by omega⟩
theorem TrAt.set {t : T} {v : Value} {n : Nat} (ht : TrAt (fun j => S j ∧ j ≠ n) h t v) (o : AObj) : TrAt S (h.set n o) t v := ht.mono fun j hj _ => ⟨hj.1, AHeap.get_set_ne _ _ (Ne.symm hj.2)⟩

theorem last_ok : ∀ (r : T) {S : Nat → Prop} {h : AHeap} {l : T} {x : Ext} {v : Value} (hn : New S h) (ht : TrAt S h (.node l x r) v) (hb : l.size + r.size ≤ 1099511627775), Does Try.prog 54 #[v] h (fun u h' => ∃ w, u = .tuple #[w, (T.last l x r).2.ag] ∧ TrAt S h' (T.last l x r).1 w ∧ h.quiet h') := by
  intro r
  induction r with
  | nil =>
    intro S h l x v hn ht hb
    obtain ⟨id, pl, pr, rfl, hs, hg, hl, hr⟩ := ht
    obtain rfl : pr = _ := hr
    have lid : id < h.next := AHeap.lt_of_alive h (by rw [hg]; simp)
    have gp : ∀ o, (h.push o).get id = _ := fun o => (AHeap.get_push_lt _ _ lid).trans hg
    refine spec_go mixed Try.func54 rfl Try.results54 (n := Try.f54.ntmps) (by kernel_rfl) (by simp) ?_
    simp only [go_sem, simprocAttr, gp, nodeC]
    exact ⟨_, rfl, hl.quiet (AHeap.quiet.push _ _)⟩
  | node rl rx rr ihl ihr =>
    intro S h l x v hn ht hb
    obtain ⟨id, pl, pr, rfl, hs, hg, hl, hr⟩ := ht
    have lid : id < h.next := AHeap.lt_of_alive h (by rw [hg]; simp)
    have gp : ∀ o, (h.push o).get id = _ := fun o => (AHeap.get_push_lt _ _ lid).trans hg
    have hs3 : (T.node rl rx rr).size = 1 + rl.size + rr.size := rfl
    refine spec_go mixed Try.func54 rfl Try.results54 (n := Try.f54.ntmps) (by kernel_rfl) (by simp) ?_
    have hr' := hr
    obtain ⟨ir, p1, p2, rfl, _⟩ := hr'
    simp only [go_sem, simprocAttr, gp, nodeC]
    refine cl_gen fun h1 e1 => ?_
    have q1 : h.quiet h1 := by rw [e1]; simp only [go_sem, simprocAttr]
    have n1 : h1.next = h.next + 1 := by rw [e1]; simp
    have g1 : h1.get h.next = .cells [.int .i64 0, .int .i64 0, .int .i64 0, .int .i64 0] .rw := by rw [e1]; simp only [go_sem, simprocAttr]
    clear e1
    refine cl_spec (ihr (hn.avoid (h1 := h1) (by omega)) (hr.avoid q1) (by omega)) (fun _ _ _ hc => absurd hc (by decide +kernel)) ?_
    rintro u k ⟨w, rfl, hw, qw⟩
    have ln := T.last_size rl rx rr
    have Q : h.quiet k := q1.trans qw
    have hgk := (Q.2 id lid).trans hg
    have gpk : ∀ o, (k.push o).get id = _ := fun o => (AHeap.get_push_lt _ _ (by have := Q.1; omega)).trans hgk
    simp only [go_sem, simprocAttr, gpk, nodeC, Ext.ag]
    refine cl_gen fun k1 e1 => ?_
    have q2 : k.quiet k1 := by rw [e1]; simp only [go_sem, simprocAttr]
    have g2 : k1.get k.next = .cells (T.last rl rx rr).2.cs .rw := by rw [e1]; simp only [go_sem, simprocAttr, Ext.cs]
    have n2 : k1.next = k.next + 1 := by rw [e1]; simp
    clear e1
    have lk : h.next < k.next := by have := qw.1; omega
    refine cl_spec (join_ok _ (Nat.lt_succ_self _) (x := x) ((hn.avoid (h1 := h1) (by omega)).quiet (qw.trans q2)) ((hl.avoid q1).quiet (qw.trans q2)) (hw.quiet q2) (by omega)) (fun u h' hp _ => hp.2) ?_
    rintro u k3 ⟨hj, q3⟩
    have g3 := (q3.2 k.next (by omega)).trans g2
    have l3 : h.next < k3.next := by have := q2.1; have := q3.1; omega
    have g4 : k3.get h.next = _ := (q3.2 h.next (by omega)).trans ((q2.2 h.next lk).trans ((qw.2 h.next (by omega)).trans g1))
    have gs := fun o => AHeap.get_set_self k3 o l3
    simp only [go_sem, simprocAttr, g3, g4, gs, Ext.cs]
    exact ⟨_, rfl, hj.set _, (Q.trans (q2.trans q3)).set' (Nat.le_refl _) _⟩

theorem first_ok : ∀ (l : T) {S : Nat → Prop} {h : AHeap} {r : T} {x : Ext} {v : Value} (hn : New S h) (ht : TrAt S h (.node l x r) v) (hb : l.size + r.size ≤ 1099511627775), Does Try.prog 56 #[v] h (fun u h' => ∃ w, u = .tuple #[(T.first l x r).1.ag, w] ∧ TrAt S h' (T.first l x r).2 w ∧ h.quiet h') := by
  intro l
  induction l with
  | nil =>
    intro S h r x v hn ht hb
    obtain ⟨id, pl, pr, rfl, hs, hg, hl, hr⟩ := ht
    obtain rfl : pl = _ := hl
    have lid : id < h.next := AHeap.lt_of_alive h (by rw [hg]; simp)
    have gp : ∀ o, (h.push o).get id = _ := fun o => (AHeap.get_push_lt _ _ lid).trans hg
    refine spec_goH [2] mixed Try.func56 rfl Try.results56 (n := Try.f56.ntmps) (by kernel_rfl) (by simp) ?_
    simp only [go_sem, simprocAttr, go_regionH, rg_false, rg_true, List.contains_cons, List.contains_nil, beq_self_eq_true, Bool.or_false, Bool.false_or, Bool.true_or, Nat.reduceBEq, gp, nodeC]
    refine ⟨apart_of [0] [2] (by decide +kernel) ?_, ?_⟩
    · intro t ht s hs' y k1 k2
      obtain rfl : t = 0 := by simpa using ht
      obtain rfl : s = 2 := by simpa using hs'
      replace k1 : vblk (.pointer (some ⟨id, 0, none⟩)) = some y := by rw [← k1]; simp only [go_sem, simprocAttr]
      replace k2 : vblk (.pointer (some ⟨h.next, 0, none⟩)) = some y := by rw [← k2]; simp only [go_sem, simprocAttr]
      simp only [vblk, Option.some.injEq] at k1 k2
      omega
    · exact ⟨_, rfl, hr.quiet (AHeap.quiet.push _ _)⟩
  | node ll lx lr ihl ihr =>
    intro S h r x v hn ht hb
    obtain ⟨id, pl, pr, rfl, hs, hg, hl, hr⟩ := ht
    have lid : id < h.next := AHeap.lt_of_alive h (by rw [hg]; simp)
    have gp : ∀ o, (h.push o).get id = _ := fun o => (AHeap.get_push_lt _ _ lid).trans hg
    have hs3 : (T.node ll lx lr).size = 1 + ll.size + lr.size := rfl
    refine spec_goH [2] mixed Try.func56 rfl Try.results56 (n := Try.f56.ntmps) (by kernel_rfl) (by simp) ?_
    have hl' := hl
    obtain ⟨ir, p1, p2, rfl, _⟩ := hl'
    simp only [go_sem, simprocAttr, go_regionH, rg_false, rg_true, List.contains_cons, List.contains_nil, beq_self_eq_true, Bool.or_false, Bool.false_or, Bool.true_or, Nat.reduceBEq, gp, nodeC]
    refine cl_gen fun h1 e1 => ?_
    have q1 : h.quiet h1 := by rw [e1]; simp only [go_sem, simprocAttr]
    have n1 : h1.next = h.next + 1 := by rw [e1]; simp
    have g1 : h1.get h.next = .cells [.int .i64 0, .int .i64 0, .int .i64 0, .int .i64 0] .rw := by rw [e1]; simp only [go_sem, simprocAttr]
    clear e1
    refine cl_spec (ihl (hn.avoid (h1 := h1) (by omega)) (hl.avoid q1) (by omega)) (fun _ _ _ hc => absurd hc (by decide +kernel)) ?_
    rintro u k ⟨w, rfl, hw, qw⟩
    have ln := T.first_size ll lx lr
    have Q : h.quiet k := q1.trans qw
    have hgk := (Q.2 id lid).trans hg
    have gpk : ∀ o, (k.push o).get id = _ := fun o => (AHeap.get_push_lt _ _ (by have := Q.1; omega)).trans hgk
    obtain ⟨pw, rfl, _⟩ := hw.ptr
    simp only [go_sem, simprocAttr, go_regionH, rg_false, rg_true, List.contains_cons, List.contains_nil, beq_self_eq_true, Bool.or_false, Bool.false_or, Bool.true_or, Nat.reduceBEq, gpk, nodeC, Ext.ag]
    refine cl_gen fun k1 e1 => ?_
    have q2 : k.quiet k1 := by rw [e1]; simp only [go_sem, simprocAttr]
    have n2 : k1.next = k.next + 1 := by rw [e1]; simp
    clear e1
    have lk : h.next < k.next := by have := qw.1; omega
    refine cl_spec (join_ok _ (Nat.lt_succ_self _) (x := x) ((hn.avoid (h1 := h1) (by omega)).quiet (qw.trans q2)) (hw.quiet q2) ((hr.avoid q1).quiet (qw.trans q2)) (by omega)) (fun u h' hp _ => hp.2) ?_
    rintro u k3 ⟨hj, q3⟩
    have l3 : h.next < k3.next := by have := q2.1; have := q3.1; omega
    have g4 : k3.get h.next = _ := (q3.2 h.next (by omega)).trans ((q2.2 h.next lk).trans ((qw.2 h.next (by omega)).trans g1))
    have gs := fun o => AHeap.get_set_self k3 o l3
    simp only [go_sem, simprocAttr, go_regionH, rg_false, rg_true, List.contains_cons, List.contains_nil, beq_self_eq_true, Bool.or_false, Bool.false_or, Bool.true_or, Nat.reduceBEq, g4, gs, Ext.cs]
    exact ⟨_, rfl, hj.set _, (Q.trans (q2.trans q3)).set' (Nat.le_refl _) _⟩

theorem meets_ok {a b : Ext} (ha : a.ok) (hb : b.ok) : Does Try.prog 55 #[a.ag, b.ag] h (fun u h' => u = .bool (decide (a.meets b)) ∧ h.quiet h') := by
  unfold Ext.ok at ha hb
  have e1 : IntKind.i64.wrap (a.off + a.len) = a.off + a.len := by rw [wi64] <;> omega
  have e2 : IntKind.i64.wrap (a.phys + a.len) = a.phys + a.len := by rw [wi64] <;> omega
  refine spec_go mixed Try.func55 rfl Try.results55 (n := Try.f55.ntmps) (by kernel_rfl) (by simp) ?_
  by_cases c1 : a.off + a.len = b.off
  · have c1' : (a.off + a.len = b.off) = True := eq_true c1
    by_cases c2 : a.phys + a.len = b.phys
    · have c2' : (a.phys + a.len = b.phys) = True := eq_true c2
      by_cases c3 : a.birth = b.birth
      · have c3' : (a.birth = b.birth) = True := eq_true c3
        simp only [go_sem, simprocAttr, Ext.ag, e1, e2, c1', c2', c3']
        simp [Ext.meets, c1, c2, c3]
      · have c3' : (a.birth = b.birth) = False := eq_false c3
        simp only [go_sem, simprocAttr, Ext.ag, e1, e2, c1', c2', c3']
        simp [Ext.meets, c3]
    · have c2' : (a.phys + a.len = b.phys) = False := eq_false c2
      simp only [go_sem, simprocAttr, Ext.ag, e1, e2, c1', c2']
      simp [Ext.meets, c2]
  · have c1' : (a.off + a.len = b.off) = False := eq_false c1
    simp only [go_sem, simprocAttr, Ext.ag, e1, e2, c1']
    simp [Ext.meets, c1]
theorem clip_ok {x : Ext} {f t : Int} (hx : x.ok) (hf : 0 ≤ f ∧ f ≤ 1099511627776) (ht : 0 ≤ t ∧ t ≤ 1099511627776) : Does Try.prog 53 #[x.ag, .int .i64 f, .int .i64 t] h (fun u h' => u = .tuple #[(x.clip f t).ag, .bool (decide (x.lies f t))] ∧ h.quiet h') := by
  unfold Ext.ok at hx
  have e1 : IntKind.i64.wrap (x.off + x.len) = x.off + x.len := by rw [wi64] <;> omega
  have e2 : IntKind.i64.wrap (min t (x.off + x.len) - max f x.off) = min t (x.off + x.len) - max f x.off := by rw [wi64] <;> omega
  have e3 : IntKind.i64.wrap (x.phys + max f x.off) = x.phys + max f x.off := by rw [wi64] <;> omega
  have e4 : IntKind.i64.wrap (x.phys + max f x.off - x.off) = x.phys + max f x.off - x.off := by rw [wi64] <;> omega
  refine spec_go mixed Try.func53 rfl Try.results53 (n := Try.f53.ntmps) (by kernel_rfl) (by simp) ?_
  simp only [go_sem, simprocAttr, Ext.ag, e1, e2, e3, e4]
  rfl
theorem both_ok {l r : T} {vl vr : Value} (hn : New S h) (hl : TrAt S h l vl) (hr : TrAt S h r vr) (hb : l.size + r.size ≤ 1099511627775) : Does Try.prog 57 #[vl, vr] h (fun u h' => TrAt S h' (T.both l r) u ∧ h.quiet h') := by
  obtain ⟨pr, rfl, _⟩ := hr.ptr
  cases l with
  | nil =>
    obtain rfl : vl = _ := hl
    refine spec_go mixed Try.func57 rfl Try.results57 (n := Try.f57.ntmps) (by kernel_rfl) (by simp) ?_
    simp only [go_sem, simprocAttr, T.both]
    exact hr
  | node ll lx lr =>
    have hl' := hl
    obtain ⟨id, pl, pr', rfl, _⟩ := hl'
    have hs1 : (T.node ll lx lr).size = 1 + ll.size + lr.size := rfl
    have ln := T.last_size ll lx lr
    refine spec_go mixed Try.func57 rfl Try.results57 (n := Try.f57.ntmps) (by kernel_rfl) (by simp) ?_
    simp only [go_sem, simprocAttr]
    refine cl_spec (last_ok lr hn hl (by omega)) (fun _ _ _ hc => absurd hc (by decide +kernel)) ?_
    rintro u k ⟨w, rfl, hw, qw⟩
    obtain ⟨pw, rfl, _⟩ := hw.ptr
    simp only [go_sem, simprocAttr, Ext.ag]
    refine cl_gen fun k1 e1 => ?_
    have q1 : k.quiet k1 := by rw [e1]; simp only [go_sem, simprocAttr]
    clear e1
    refine cl_spec (join_ok _ (Nat.lt_succ_self _) (x := (T.last ll lx lr).2) ((hn.quiet qw).quiet q1) (hw.quiet q1) (hr.quiet (qw.trans q1)) (by omega)) (fun _ _ _ hc => absurd hc (by decide +kernel)) ?_
    rintro u k3 ⟨hj, q3⟩
    simp only [go_sem, simprocAttr]
    exact ⟨hj, qw.trans (q1.trans q3)⟩
end
end Go.Proofs.Ytfdbadpiklmbaaa
