/- cow: trees are split; an extent is put between two. -/
import Derived.Test.YtfdbadpiklmbaaaCoC
set_option linter.unusedSimpArgs false
set_option linter.unusedVariables false
set_option linter.unnecessarySimpa false
set_option maxRecDepth 100000
namespace Go.Proofs.Ytfdbadpiklmbaaa
open Go.AM
theorem cnd_gen {Γ : Cx} {x y : Code} {k : List Fr} {ρ : Env} {h : AHeap} {v : Value} (H : ∀ h', h' = h → cnd Γ x y k ρ h' v) : cnd Γ x y k ρ h v := H h rfl
theorem gd_gen {Γ : Cx} {ops : Array Oper} {chk : Nat → Bool} {i : Nat} {o : Oper} {l : List Oper} {k : List Fr} {ρ : Env} {h : AHeap} {b : Bool} (H : ∀ h', h' = h → gd Γ ops chk i o l k ρ h' b) : gd Γ ops chk i o l k ρ h b := H h rfl
theorem cnd_cut {Γ : Cx} {x y : Code} {k : List Fr} {ρ : Env} {h : AHeap} {b : Bool} (J : Env → AHeap → Prop) (h1 : b = true → go Γ x (.jo J :: k) ρ h) (h1' : b = false → go Γ y (.jo J :: k) ρ h) (h2 : ∀ ρ h, J ρ h → nx Γ k ρ h) : cnd Γ x y k ρ h (.bool b) :=
  cnd_split (fun e => go_cut J (h1 e) h2) (fun e => go_cut J (h1' e) h2)
section
variable {h : AHeap} {S S' Z : Nat → Prop}
theorem aeq_nil {t e : TypeId} {p : Option Addr} : aeqS Try.prog h 8 t (some (.pointer e)) (.pointer p) (.pointer none) = some p.isNone := by
  cases p <;> rfl
theorem split_ok {o : Int} (ho : 0 ≤ o ∧ o ≤ 1099511627776) : ∀ (t : T) {S : Nat → Prop} {h : AHeap} {v : Value} (hn : New S h) (ht : TrAt S h t v) (hok : t.all Ext.ok) (hb : t.size ≤ 1099511627770), Does Try.prog 31 #[v, .int .i64 o] h (fun u h' => ∃ w1 w2, u = .tuple #[w1, w2] ∧ TrAt S h' (T.split o t).1 w1 ∧ TrAt S h' (T.split o t).2 w2 ∧ h.quiet h') := by
  intro t
  induction t with
  | nil =>
    intro S h v hn ht hok hb
    obtain rfl : v = _ := ht
    refine spec_go mixed Try.func31 rfl Try.results31 (n := Try.f31.ntmps) (by kernel_rfl) (by simp) ?_
    simp only [go_sem, simprocAttr]
    exact ⟨_, _, rfl, rfl, rfl⟩
  | node l x r ihl ihr =>
    intro S h v hn ht hok hb
    obtain ⟨id, pl, pr, rfl, hs, hg, hl, hr⟩ := ht
    have lid : id < h.next := AHeap.lt_of_alive h (by rw [hg]; simp)
    have hs3 : (T.node l x r).size = 1 + l.size + r.size := rfl
    obtain ⟨ol, ox, or⟩ := hok
    have ox' := ox
    unfold Ext.ok at ox'
    have e1 : IntKind.i64.wrap (x.off + x.len) = x.off + x.len := by rw [wi64] <;> omega
    obtain ⟨ppl, rfl, _⟩ := hl.ptr
    obtain ⟨ppr, rfl, _⟩ := hr.ptr
    have sl := T.split_size o l
    have sr := T.split_size o r
    refine spec_go mixed Try.func31 rfl Try.results31 (n := Try.f31.ntmps) (by kernel_rfl) (by simp) ?_
    simp only [go_sem, simprocAttr, hg, nodeC]
    unfold T.split
    refine cnd_decide (fun c1 => ?_) (fun c1 => ?_)
    · rw [if_pos c1]
      simp only [go_sem, simprocAttr, hg, nodeC]
      refine cl_spec (ihl hn hl ol (by omega)) (fun _ _ _ hc => absurd hc (by decide +kernel)) ?_
      rintro u k ⟨w1, w2, rfl, h1, h2, q⟩
      have hgk := (q.2 id lid).trans hg
      obtain ⟨p1, rfl, _⟩ := h1.ptr
      obtain ⟨p2, rfl, _⟩ := h2.ptr
      simp only [go_sem, simprocAttr, hgk, nodeC]
      refine cl_spec (join_ok _ (Nat.lt_succ_self _) (x := x) (hn.quiet q) h2 (hr.quiet q) (by omega)) (fun _ _ _ hc => absurd hc (by decide +kernel)) ?_
      rintro u k2 ⟨hj, q2⟩
      simp only [go_sem, simprocAttr]
      exact ⟨_, _, rfl, h1.quiet q2, hj, q.trans q2⟩
    rw [if_neg c1]
    simp only [go_sem, simprocAttr, hg, nodeC, e1]
    refine cnd_decide (fun c2 => ?_) (fun c2 => ?_)
    · rw [if_pos c2]
      simp only [go_sem, simprocAttr, hg, nodeC]
      refine cl_spec (ihr hn hr or (by omega)) (fun _ _ _ hc => absurd hc (by decide +kernel)) ?_
      rintro u k ⟨w1, w2, rfl, h1, h2, q⟩
      have hgk := (q.2 id lid).trans hg
      obtain ⟨p1, rfl, _⟩ := h1.ptr
      obtain ⟨p2, rfl, _⟩ := h2.ptr
      simp only [go_sem, simprocAttr, hgk, nodeC]
      refine cl_spec (join_ok _ (Nat.lt_succ_self _) (x := x) (hn.quiet q) (hl.quiet q) h1 (by omega)) (fun _ _ _ hc => absurd hc (by decide +kernel)) ?_
      rintro u k2 ⟨hj, q2⟩
      simp only [go_sem, simprocAttr]
      exact ⟨_, _, rfl, hj, h2.quiet q2, q.trans q2⟩
    rw [if_neg c2]
    simp only [go_sem, simprocAttr, hg, nodeC]
    refine cl_spec (clip_ok (x := x) ox (by omega) ho) (fun _ _ _ hc => absurd hc (by decide +kernel)) ?_
    rintro u k ⟨rfl, q⟩
    have hgk := (q.2 id lid).trans hg
    have gpk : ∀ o, (k.push o).get id = _ := fun o => (AHeap.get_push_lt _ _ (by have := q.1; omega)).trans hgk
    simp only [go_sem, simprocAttr, gpk, nodeC, Ext.ag]
    refine cl_gen fun k1 e1 => ?_
    have q1 : k.quiet k1 := by rw [e1]; simp only [go_sem, simprocAttr]
    have g1 : k1.get k.next = .cells (x.clip 0 o).cs .rw := by rw [e1]; simp only [go_sem, simprocAttr, Ext.cs]
    have n1 : k1.next = k.next + 1 := by rw [e1]; simp
    clear e1
    refine cl_spec (clip_ok (x := x) ox ho (by omega)) (fun _ _ _ hc => absurd hc (by decide +kernel)) ?_
    rintro u k2 ⟨rfl, q2⟩
    have Q2 := q.trans (q1.trans q2)
    have hgk2 := (Q2.2 id lid).trans hg
    have gpk2 : ∀ o, (k2.push o).get id = _ := fun o => (AHeap.get_push_lt _ _ (by have := Q2.1; omega)).trans hgk2
    have g2 : k2.get k.next = _ := (q2.2 _ (by omega)).trans g1
    have gpx2 : ∀ o, (k2.push o).get k.next = _ := fun o => (AHeap.get_push_lt _ _ (by have := q2.1; omega)).trans g2
    simp only [go_sem, simprocAttr, gpk2, gpx2, nodeC, Ext.ag, Ext.cs]
    refine cl_gen fun k3 e3 => ?_
    have q3 : k2.quiet k3 := by rw [e3]; simp only [go_sem, simprocAttr]
    have g3 : k3.get k2.next = .cells (x.clip o 1024).cs .rw := by rw [e3]; simp only [go_sem, simprocAttr, Ext.cs]
    have n3 : k3.next = k2.next + 1 := by rw [e3]; simp
    clear e3
    have Q3 := Q2.trans q3
    have hgk3 := (Q3.2 id lid).trans hg
    have z0 : T.nil.size = 0 := rfl
    refine cl_spec (join_ok _ (Nat.lt_succ_self _) (x := x.clip 0 o) (r := .nil) (hn.quiet Q3) (hl.quiet Q3) rfl (by omega)) (fun u h' hp _ => hp.2) ?_
    rintro u k4 ⟨hj, q4⟩
    have hgk4 := (q4.2 id (by have := Q3.1; omega)).trans hgk3
    have g4 := (q4.2 k2.next (by omega)).trans g3
    simp only [go_sem, simprocAttr, hgk4, nodeC, g4, Ext.cs]
    refine cl_spec (join_ok _ (Nat.lt_succ_self _) (x := x.clip o 1024) (l := .nil) (hn.quiet (Q3.trans q4)) rfl (hr.quiet (Q3.trans q4)) (by omega)) (fun _ _ _ hc => absurd hc (by decide +kernel)) ?_
    rintro u2 k5 ⟨hj2, q5⟩
    simp only [go_sem, simprocAttr]
    exact ⟨_, _, rfl, hj.quiet q5, hj2, Q3.trans (q4.trans q5)⟩

theorem T.last_ok {P : Ext → Prop} {l : T} {x : Ext} {r : T} (h : (T.node l x r).all P) : (T.last l x r).1.all P ∧ P (T.last l x r).2 := by
  have e := T.last_list r l x
  rw [T.all_list] at h ⊢
  simp only [T.list] at h
  rw [← e] at h
  exact ⟨fun y hy => h y (List.mem_append_left _ hy), h _ (by simp)⟩
theorem T.first_ok {P : Ext → Prop} {l : T} {x : Ext} {r : T} (h : (T.node l x r).all P) : (T.first l x r).2.all P ∧ P (T.first l x r).1 := by
  have e := T.first_list l x r
  rw [T.all_list] at h ⊢
  simp only [T.list] at h
  rw [← e] at h
  exact ⟨fun y hy => h y (List.mem_cons_of_mem _ hy), h _ (by simp)⟩
theorem T.lowOf_ok {l : T} {x : Ext} (hl : l.all Ext.ok) (hx : x.ok) : (T.lowOf l x).1.all Ext.ok ∧ (T.lowOf l x).2.ok ∧ (T.lowOf l x).1.size ≤ l.size := by
  unfold T.lowOf
  cases l with
  | nil => exact ⟨trivial, hx, Nat.le_refl _⟩
  | node ll lx lr =>
    dsimp only
    split
    · rename_i hm
      obtain ⟨h1, h2⟩ := T.last_ok hl
      exact ⟨h1, Ext.ok_with h2 hx hm, by rw [T.last_size]; simp only [T.size]; omega⟩
    · exact ⟨hl, hx, Nat.le_refl _⟩

theorem put_ok {l r : T} {vl vr : Value} {x : Ext} (hn : New S h) (hl : TrAt S h l vl) (hr : TrAt S h r vr) (ol : l.all Ext.ok) (or : r.all Ext.ok) (ox : x.ok) (hb : l.size + r.size ≤ 1099511627775) : Does Try.prog 33 #[vl, x.ag, vr] h (fun u h' => TrAt S h' (T.put l x r) u ∧ h.quiet h') := by
  obtain ⟨ppl, rfl, nl⟩ := hl.ptr
  obtain ⟨ppr, rfl, nr⟩ := hr.ptr
  unfold T.put
  obtain ⟨ol2, ox2, sl2⟩ := T.lowOf_ok ol ox
  refine spec_go mixed Try.func33 rfl Try.results33 (n := Try.f33.ntmps) (by kernel_rfl) (by simp) ?_
  simp only [go_sem, simprocAttr, Ext.ag, aeq_nil]
  refine cnd_gen fun h1 e1 => ?_
  have q1 : h.quiet h1 := by rw [e1]; simp only [go_sem, simprocAttr]
  have g1 : h1.get h.next = .cells x.cs .rw := by rw [e1]; simp only [go_sem, simprocAttr, Ext.cs]
  have n1 : h1.next = h.next + 1 := by rw [e1]; simp
  clear e1
  have hl1 := hl.avoid q1
  have hr1 := hr.avoid q1
  have hn1 := hn.avoid (h1 := h1) (by omega)
  generalize hS : (fun j => S j ∧ j ≠ h.next) = S1 at hl1 hr1 hn1
  have hset : ∀ {k : AHeap} {t : T} {v : Value} (o : AObj), TrAt S1 k t v → TrAt S1 (k.set h.next o) t v := fun {k t v} o ht => ht.mono fun j hj _ => ⟨hj, AHeap.get_set_ne _ _ (by subst hS; exact Ne.symm hj.2)⟩
  refine cnd_cut (fun ρ k => ∃ w, TrAt S1 k (T.lowOf l x).1 (.pointer w) ∧ k.get h.next = .cells (T.lowOf l x).2.cs .rw ∧ h.quiet k ∧ h1.next ≤ k.next ∧ TrAt S1 k r (.pointer ppr) ∧ ρ 0 = .pointer w ∧ ρ 2 = .pointer ppr ∧ ρ 4 = .pointer (some ⟨h.next, 0, none⟩)) (fun hc => ?_) (fun hc => ?_) ?_
  · cases l with
    | nil => rw [nl.2 rfl] at hc; cases hc
    | node ll lx lr =>
      have hs1 : (T.node ll lx lr).size = 1 + ll.size + lr.size := rfl
      simp only [go_sem, simprocAttr]
      refine cl_spec (last_ok lr hn1 hl1 (by omega)) (fun _ _ _ hc => absurd hc (by decide +kernel)) ?_
      rintro u k ⟨w, rfl, hw, qw⟩
      obtain ⟨pw, rfl, _⟩ := hw.ptr
      have gk := (qw.2 h.next (by omega)).trans g1
      have gpk : ∀ o, (k.push o).get h.next = _ := fun o => (AHeap.get_push_lt _ _ (by have := qw.1; omega)).trans gk
      simp only [go_sem, simprocAttr, Ext.ag, gpk, Ext.cs]
      refine cl_gen fun k1 e1 => ?_
      have q2 : k.quiet k1 := by rw [e1]; simp only [go_sem, simprocAttr]
      have g2 : k1.get k.next = .cells (T.last ll lx lr).2.cs .rw := by rw [e1]; simp only [go_sem, simprocAttr, Ext.cs]
      have n2 : k1.next = k.next + 1 := by rw [e1]; simp
      clear e1
      obtain ⟨oll, olx⟩ := T.last_ok ol
      refine cl_spec (meets_ok olx ox) (fun _ _ _ hc => absurd hc (by decide +kernel)) ?_
      rintro u k2 ⟨rfl, q3⟩
      have g3 := (q3.2 k.next (by omega)).trans g2
      have Q := qw.trans (q2.trans q3)
      have gk2 := (Q.2 h.next (by omega)).trans g1
      have lk2 : h.next < k2.next := by have := Q.1; omega
      have ew : IntKind.i64.wrap ((T.last ll lx lr).2.len + x.len) = (T.last ll lx lr).2.len + x.len := by
        have olx' := olx; have ox' := ox; unfold Ext.ok at olx' ox'; rw [wi64] <;> omega
      by_cases hm : (T.last ll lx lr).2.meets x
      · have em : T.lowOf (.node ll lx lr) x = ((T.last ll lx lr).1, (T.last ll lx lr).2.with x) := by simp only [T.lowOf, if_pos hm]
        simp only [go_sem, simprocAttr, decide_eq_true hm, g3, gk2, Ext.cs, ew]
        rw [em]
        exact Hold.mk ⟨_, hset _ (hw.quiet (q2.trans q3)), AHeap.get_set_self _ _ lk2, (q1.trans Q).set' (Nat.le_refl _) _, by simpa using Q.1, hset _ (hr1.quiet Q), by simp only [go_sem, simprocAttr]⟩
      · have em : T.lowOf (.node ll lx lr) x = (.node ll lx lr, x) := by simp only [T.lowOf, if_neg hm]
        simp only [go_sem, simprocAttr, decide_eq_false hm]
        rw [em]
        exact Hold.mk ⟨_, hl1.quiet Q, gk2, q1.trans Q, Q.1, hr1.quiet Q, by simp only [go_sem, simprocAttr]⟩
  · cases l with
    | node ll lx lr => simp at hc; exact absurd (nl.1 hc) (by simp)
    | nil =>
      simp only [go_sem, simprocAttr]
      exact Hold.mk ⟨_, hl1, g1, q1, Nat.le_refl _, hr1, by simp only [go_sem, simprocAttr]⟩
  generalize (T.lowOf l x).1 = L at sl2 ol2
  generalize (T.lowOf l x).2 = y at ox2
  rintro ρ k ⟨w, hw, gk, Q, hn2, hrk, r0, r2, r4⟩
  simp only [go_sem, simprocAttr, r0, r2, r4, aeq_nil]
  have lk : h.next < k.next := by omega
  refine cnd_cut (fun ρ k => ∃ w2, TrAt S1 k L (.pointer w) ∧ k.get h.next = .cells (T.highOf y r).1.cs .rw ∧ h.quiet k ∧ h1.next ≤ k.next ∧ TrAt S1 k (T.highOf y r).2 (.pointer w2) ∧ (T.highOf y r).2.size ≤ r.size ∧ ρ 0 = .pointer w ∧ ρ 2 = .pointer w2 ∧ ρ 4 = .pointer (some ⟨h.next, 0, none⟩)) (fun hc => ?_) (fun hc => ?_) ?_
  · cases r with
    | nil => rw [nr.2 rfl] at hc; cases hc
    | node rl rx rr =>
      have hs1 : (T.node rl rx rr).size = 1 + rl.size + rr.size := rfl
      simp only [go_sem, simprocAttr, r2]
      have hnk : New S1 k := fun j hj => hn1 j (by omega)
      refine cl_spec (first_ok rl hnk hrk (by omega)) (fun _ _ _ hc => absurd hc (by decide +kernel)) ?_
      rintro u k3 ⟨w3, rfl, hw3, qw⟩
      obtain ⟨pw, rfl, _⟩ := hw3.ptr
      have gk3 := (qw.2 h.next (by omega)).trans gk
      have gpk : ∀ o, (k3.push o).get h.next = _ := fun o => (AHeap.get_push_lt _ _ (by have := qw.1; omega)).trans gk3
      simp only [go_sem, simprocAttr, Ext.ag, gpk, Ext.cs, r4]
      refine cl_gen fun k1 e1 => ?_
      have q2 : k3.quiet k1 := by rw [e1]; simp only [go_sem, simprocAttr]
      have g2 : k1.get k3.next = .cells (T.first rl rx rr).1.cs .rw := by rw [e1]; simp only [go_sem, simprocAttr, Ext.cs]
      have n2 : k1.next = k3.next + 1 := by rw [e1]; simp
      clear e1
      obtain ⟨oll, olx⟩ := T.first_ok or
      have fs := T.first_size rl rx rr
      refine cl_spec (meets_ok ox2 olx) (fun _ _ _ hc => absurd hc (by decide +kernel)) ?_
      rintro u k2 ⟨rfl, q3⟩
      have g3 := (q3.2 k3.next (by omega)).trans g2
      have Q2 := qw.trans (q2.trans q3)
      have gk2 := (Q2.2 h.next (by omega)).trans gk
      have lk2 : h.next < k2.next := by have := Q2.1; omega
      have ew : IntKind.i64.wrap (y.len + (T.first rl rx rr).1.len) = y.len + (T.first rl rx rr).1.len := by
        have olx' := olx; have ox' := ox2; unfold Ext.ok at olx' ox'; rw [wi64] <;> omega
      by_cases hm : y.meets (T.first rl rx rr).1
      · have em : T.highOf y (.node rl rx rr) = (y.with (T.first rl rx rr).1, (T.first rl rx rr).2) := by simp only [T.highOf, if_pos hm]
        simp only [go_sem, simprocAttr, decide_eq_true hm, g3, gk2, Ext.cs, ew, r0, r4]
        rw [em]
        exact Hold.mk ⟨_, hset _ (hw.quiet Q2), AHeap.get_set_self _ _ lk2, (Q.trans Q2).set' (Nat.le_refl _) _, by have := Q2.1; simp; omega, hset _ (hw3.quiet (q2.trans q3)), by dsimp only; omega, by simp only [go_sem, simprocAttr, r0, r4]⟩
      · have em : T.highOf y (.node rl rx rr) = (y, .node rl rx rr) := by simp only [T.highOf, if_neg hm]
        simp only [go_sem, simprocAttr, decide_eq_false hm]
        rw [em]
        exact Hold.mk ⟨_, hw.quiet Q2, gk2, Q.trans Q2, by have := Q2.1; omega, hrk.quiet Q2, Nat.le_refl _, by simp only [go_sem, simprocAttr, r0, r2, r4]⟩
  · cases r with
    | node ll lx lr => simp at hc; exact absurd (nr.1 hc) (by simp)
    | nil =>
      simp only [go_sem, simprocAttr]
      exact Hold.mk ⟨_, hw, gk, Q, hn2, hrk, Nat.le_refl _, r0, r2, r4⟩
  generalize (T.highOf y r).1 = z
  generalize (T.highOf y r).2 = R
  rintro ρ k3 ⟨w2, hw2, gk3, Q3, hn3, hrk3, szR, r0, r2, r4⟩
  simp only [go_sem, simprocAttr, r0, r2, r4, gk3, Ext.cs]
  refine cl_spec (join_ok _ (Nat.lt_succ_self _) (x := z) (fun j hj => hn1 j (by omega)) hw2 hrk3 (by omega)) (fun _ _ _ hc => absurd hc (by decide +kernel)) ?_
  rintro u k4 ⟨hj, q4⟩
  simp only [go_sem, simprocAttr]
  exact ⟨hj.weaken fun j hj => by subst hS; exact hj.1, Q3.trans q4⟩
end
end Go.Proofs.Ytfdbadpiklmbaaa
