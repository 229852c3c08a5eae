/- barrier: the world of the laws, as it stands in the heap: an order is delivered. -/
import Derived.Test.YtbcgipcgcjkfcaaBaP
set_option linter.unusedSimpArgs false
set_option linter.unusedVariables false
set_option linter.unnecessarySimpa false
set_option maxRecDepth 100000
namespace Go.Proofs.Ytbcgipcgcjkfcaa
open Go.AM

theorem gd_gen {Γ : Cx} {ops : Array Oper} {chk : Nat → Bool} {i : Nat} {o : Oper} {l : List Oper} {k : List Fr} {ρ : Env} {h : AHeap} {b : Bool} (H : ∀ h', h' = h → gd Γ ops chk i o l k ρ h' b) : gd Γ ops chk i o l k ρ h b := H h rfl
/-- Pointers to objects. -/
def rP : Rep Nat := Rep.ptr.via some
theorem rP_iff {S : Nat → Prop} {h : AHeap} {p : Nat} {cs : List Value} : rP.R S h p cs ↔ cs = [.pointer (some ⟨p, 0, none⟩)] := Iff.rfl

structure WdC (own : Nat → Nat) (h : AHeap) (pc : Nat) (ps : List Nat) (vg vo vn vi : Value) (w : Wd) : Prop where
  co : CoAt (tg own 1) h pc w.co
  pl : IsSl rP (tg own 2) h ps vg
  ln : ps.length = w.ags.length
  ag : ∀ (i : Nat) (a : Ag) (p : Nat), w.ags[i]? = some a → ps[i]? = some p → AgAt (tg own (10 + i)) h p a
  os : OwnL rOrd (tg own 3) h w.ords vo
  qs : OwnL rOrd (tg own 4) h w.anss vn
  is : OwnL rI (tg own 5) h w.ids vi
def wdV (pc : Nat) (vg vo vn vi : Value) : List Value := [.pointer (some ⟨pc, 0, none⟩), vg, vo, vn, vi]
def WdAt (own : Nat → Nat) (h : AHeap) (id : Nat) (w : Wd) : Prop := own id = 6 ∧ ∃ pc ps vg vo vn vi, h.get id = .cells (wdV pc vg vo vn vi) .rw ∧ WdC own h pc ps vg vo vn vi w
/-- What is nobody's stays. -/
def Kp (own : Nat → Nat) (h : AHeap) (own' : Nat → Nat) (h' : AHeap) : Prop := h.next ≤ h'.next ∧ ∀ j, j < h.next → own' j = own j ∧ (own j = 0 → h'.get j = h.get j)

section
variable {own own' own'' : Nat → Nat} {h h' h'' : AHeap} {pc id : Nat} {ps : List Nat} {vg vo vn vi : Value} {w : Wd}

theorem Kp.refl : Kp own h own h := ⟨Nat.le_refl _, fun _ _ => ⟨rfl, fun _ => rfl⟩⟩
theorem Kp.trans (a : Kp own h own' h') (b : Kp own' h' own'' h'') : Kp own h own'' h'' :=
  ⟨Nat.le_trans a.1 b.1, fun j hj => ⟨((b.2 j (Nat.lt_of_lt_of_le hj a.1)).1).trans (a.2 j hj).1, fun e => ((b.2 j (Nat.lt_of_lt_of_le hj a.1)).2 ((a.2 j hj).1.trans e)).trans ((a.2 j hj).2 e)⟩⟩
theorem Kp.fw {t : Nat} (f : Fw (tg own t) h h') (ht : t ≠ 0) : Kp own h (bump own h t) h' := ⟨f.1, fun j hj => ⟨bump_lt hj, fun e => f.2 j hj fun e2 => ht ((show own j = t from e2).symm.trans e)⟩⟩
theorem Kp.quiet (q : h.quiet h') (t : Nat) : Kp own h (bump own h t) h' := ⟨q.1, fun j hj => ⟨bump_lt hj, fun _ => q.2 j hj⟩⟩
theorem Kp.set (ho : own id = 6) (o : AObj) : Kp own h own (h.set id o) := ⟨by simp, fun j _ => ⟨rfl, fun e => AHeap.get_set_ne _ _ (by rintro rfl; omega)⟩⟩

theorem WdC.lt (c : WdC own h pc ps vg vo vn vi w) {i p : Nat} (hp : ps[i]? = some p) : ∃ a, w.ags[i]? = some a ∧ AgAt (tg own (10 + i)) h p a := by
  have : i < w.ags.length := by rw [← c.ln]; exact (List.getElem?_eq_some_iff.1 hp).1
  exact ⟨w.ags[i], List.getElem?_eq_getElem this, c.ag i _ p (List.getElem?_eq_getElem this) hp⟩
theorem WdC.mono (c : WdC own h pc ps vg vo vn vi w) (hn : h.next ≤ h'.next) (hm : ∀ t, t ≠ 0 → t ≠ 6 → ∀ j, tg own t j → j < h.next → tg own' t j ∧ h'.get j = h.get j) : WdC own' h' pc ps vg vo vn vi w :=
  ⟨c.co.mono hn (hm 1 (by decide) (by decide)), c.pl.mono (hm 2 (by decide) (by decide)), c.ln, fun i a p h1 h2 => (c.ag i a p h1 h2).mono hn (hm _ (by omega) (by omega)), c.os.mono hn (hm 3 (by decide) (by decide)), c.qs.mono hn (hm 4 (by decide) (by decide)), c.is.mono hn (hm 5 (by decide) (by decide))⟩
theorem WdC.quiet (c : WdC own h pc ps vg vo vn vi w) (q : h.quiet h') (t : Nat) : WdC (bump own h t) h' pc ps vg vo vn vi w := c.mono q.1 fun _ _ _ => quiet_other q
theorem WdC.cell (c : WdC own h pc ps vg vo vn vi w) (ho : own id = 6) (o : AObj) : WdC own (h.set id o) pc ps vg vo vn vi w :=
  c.mono (by simp) fun t _ h6 j hj _ => ⟨hj, AHeap.get_set_ne _ _ (by rintro rfl; exact h6 ((show own id = t from hj).symm.trans ho))⟩
theorem WdC.setCo (c : WdC own h pc ps vg vo vn vi w) (f : Fw (tg own 1) h h') {co' : Co} (n : CoAt (up (tg own 1) h) h' pc co') : WdC (bump own h 1) h' pc ps vg vo vn vi { w with co := co' } :=
  ⟨n.weaken fun _ => bump_up, c.pl.mono (f.other (by decide)), c.ln, fun i a p h1 h2 => (c.ag i a p h1 h2).mono f.1 (f.other (by omega)), c.os.mono f.1 (f.other (by decide)), c.qs.mono f.1 (f.other (by decide)), c.is.mono f.1 (f.other (by decide))⟩
theorem WdC.setAg (c : WdC own h pc ps vg vo vn vi w) {i p : Nat} {a' : Ag} (hp : ps[i]? = some p) (f : Fw (tg own (10 + i)) h h') (n : AgAt (up (tg own (10 + i)) h) h' p a') : WdC (bump own h (10 + i)) h' pc ps vg vo vn vi { w with ags := w.ags.set i a' } := by
  refine ⟨c.co.mono f.1 (f.other (by omega)), c.pl.mono (f.other (by omega)), c.ln.trans (by simp), fun j a q h1 h2 => ?_, c.os.mono f.1 (f.other (by omega)), c.qs.mono f.1 (f.other (by omega)), c.is.mono f.1 (f.other (by omega))⟩
  replace h1 : (w.ags.set i a')[j]? = some a := h1
  rw [List.getElem?_set] at h1
  split at h1
  · rename_i e; subst e
    split at h1
    · cases h1; rw [hp] at h2; cases h2; exact n.weaken fun _ => bump_up
    · cases h1
  · exact (c.ag j a q h1 h2).mono f.1 (f.other (by omega))
theorem WdC.setO (c : WdC own h pc ps vg vo vn vi w) (f : Fw (tg own 3) h h') {l : List (Int × Int × Int)} {v : Value} (n : OwnL rOrd (up (tg own 3) h) h' l v) : WdC (bump own h 3) h' pc ps vg v vn vi { w with ords := l } :=
  ⟨c.co.mono f.1 (f.other (by decide)), c.pl.mono (f.other (by decide)), c.ln, fun i a p h1 h2 => (c.ag i a p h1 h2).mono f.1 (f.other (by omega)), n.mono (Nat.le_refl _) (fun _ hj _ => ⟨bump_up hj, rfl⟩), c.qs.mono f.1 (f.other (by decide)), c.is.mono f.1 (f.other (by decide))⟩
theorem WdC.setQ (c : WdC own h pc ps vg vo vn vi w) (f : Fw (tg own 4) h h') {l : List (Int × Int × Int)} {v : Value} (n : OwnL rOrd (up (tg own 4) h) h' l v) : WdC (bump own h 4) h' pc ps vg vo v vi { w with anss := l } :=
  ⟨c.co.mono f.1 (f.other (by decide)), c.pl.mono (f.other (by decide)), c.ln, fun i a p h1 h2 => (c.ag i a p h1 h2).mono f.1 (f.other (by omega)), c.os.mono f.1 (f.other (by decide)), n.mono (Nat.le_refl _) (fun _ hj _ => ⟨bump_up hj, rfl⟩), c.is.mono f.1 (f.other (by decide))⟩
theorem WdC.setI (c : WdC own h pc ps vg vo vn vi w) (f : Fw (tg own 5) h h') {l : List Int} {v : Value} (n : OwnL rI (up (tg own 5) h) h' l v) : WdC (bump own h 5) h' pc ps vg vo vn v { w with ids := l } :=
  ⟨c.co.mono f.1 (f.other (by decide)), c.pl.mono (f.other (by decide)), c.ln, fun i a p h1 h2 => (c.ag i a p h1 h2).mono f.1 (f.other (by omega)), c.os.mono f.1 (f.other (by decide)), c.qs.mono f.1 (f.other (by decide)), n.mono (Nat.le_refl _) (fun _ hj _ => ⟨bump_up hj, rfl⟩)⟩

/-- How much there is. -/
structure Bnd (n : Nat) (w : Wd) : Prop where
  a : ∀ a ∈ w.ags, a.com.length ≤ n
  o : w.ords.length ≤ 320
  q : w.anss.length ≤ 300
  i : w.ids.length ≤ n

theorem worder_ok {n : Nat} (hn : n ≤ 1024) {W : Wd} (ha : WdAt own h id W) (hb : Bnd n W) {o : Int × Int × Int} (ho : inI o.1 ∧ inI o.2.1 ∧ inI o.2.2) : Does Try.prog 44 #[.pointer (some ⟨id, 0, none⟩), .agg #[.int .i64 o.1, .int .i64 o.2.1, .int .i64 o.2.2]] h
    (fun u h' => u = .tuple #[] ∧ ∃ own', WdAt own' h' id (W.order o) ∧ Kp own h own' h') := by
  obtain ⟨y1, y2, y3⟩ := o
  dsimp only at ho ⊢
  obtain ⟨h6, pc, ps, vg, vo, vn, vi, hg, c⟩ := ha
  have hlt : id < h.next := AHeap.lt_of_alive h (by rw [hg]; simp)
  obtain ⟨ag, cg, rfl⟩ := c.pl.shape
  have hlg := c.pl.len
  refine spec_go mixed Try.func44 rfl Try.results44 (n := Try.f44.ntmps) (by kernel_rfl) (by simp) ?_
  simp only [go_sem, simprocAttr]
  refine gd_gen fun k1 e1 => ?_
  have q1 : h.quiet k1 := by rw [e1]; simp only [go_sem, simprocAttr]
  have g1 : k1.get h.next = .cells [.int .i64 y1, .int .i64 y2, .int .i64 y3] .rw := by rw [e1]; simp only [go_sem, simprocAttr]
  have n1 : k1.next = h.next + 1 := by rw [e1]; simp
  clear e1
  have c1 := c.quiet q1 0
  have hg1 := (q1.2 id hlt).trans hg
  have h61 : bump own h 0 id = 6 := (bump_lt hlt).trans h6
  have kp1 : Kp own h (bump own h 0) k1 := .quiet q1 0
  have hb1 : bump own h 0 h.next = 0 := bump_ge (Nat.le_refl _)
  generalize bump own h 0 = ow at c1 h61 kp1 hb1
  have stay : ∃ own', WdAt own' k1 id W ∧ Kp own h own' k1 := ⟨ow, ⟨h61, _, _, _, _, _, _, hg1, c1⟩, kp1⟩
  unfold Wd.order
  by_cases o1 : y1 < 0
  · rw [if_pos o1]
    simp only [go_sem, simprocAttr, g1, decide_eq_true o1]
    exact stay
  rw [if_neg o1]
  obtain ⟨i, rfl⟩ := Int.eq_ofNat_of_zero_le (show 0 ≤ y1 by omega)
  dsimp only
  rw [Int.toNat_natCast]
  by_cases o2 : ps.length ≤ i
  · have : W.ags[i]? = none := List.getElem?_eq_none (by have := c1.ln; omega)
    rw [this]
    simp only [go_sem, simprocAttr, g1, decide_eq_false o1, hg1, wdV, decide_eq_true o2]
    exact stay
  have hi : i < ps.length := by omega
  obtain ⟨b, off, sp, cc, md, v, p, hA, _, hgb, hpi, hR, hcc⟩ := c1.pl.at1 rfl hi
  obtain rfl : v = _ := by simpa using rP_iff.1 hR
  obtain ⟨a, hai, hag⟩ := c1.lt hpi
  rw [hai]
  simp only [go_sem, simprocAttr, g1, decide_eq_false o1, hg1, wdV, decide_eq_false o2]
  have hcl := hb.a a (List.mem_of_getElem? hai)
  simp only [go_sem, simprocAttr, g1, hg1, wdV, hA, hgb, hcc, hi]
  refine cl_spec (Order_ok hag ho.2.2 (by omega)) (fun _ _ _ hc => absurd hc (by decide +kernel)) ?_
  rintro u k2 ⟨rfl, hag2, f2⟩
  have c2 := c1.setAg hpi f2 hag2
  have hl1 : id < k1.next := by omega
  have hg2 : k2.get id = _ := (f2.2 id hl1 (fun e => by have : ow id = 10 + i := e; omega)).trans hg1
  have gb2 : k2.get h.next = _ := (f2.2 h.next (by omega) (fun e => by have : ow h.next = 10 + i := e; omega)).trans g1
  have h62 : bump ow k1 (10 + i) id = 6 := (bump_lt hl1).trans h61
  have kp2 := kp1.trans (Kp.fw f2 (by omega))
  have hl2 : id < k2.next := by have := f2.1; omega
  generalize bump ow k1 (10 + i) = ow2 at c2 h62 kp2
  obtain ⟨aq, cq, rfl⟩ := c2.qs.sl.shape
  have hlq := c2.qs.sl.len
  have hbq := hb.q
  simp only [go_sem, simprocAttr, hg2, wdV]
  by_cases q3 : W.anss.length < 300
  · have q3' : (W.anss.length : Int) < 300 := by omega
    obtain ⟨w', k3, e3, hw', f3, _, a3, n3, c3, rfl⟩ := c2.qs.app2 (bytes := 24) (y := (((i : Nat) : Int), (a.order y2 y3).1, y3)) (cs := [.int .i64 ((i : Nat) : Int), .int .i64 (a.order y2 y3).1, .int .i64 y3]) 3 rfl (fun _ => rOrd_iff.2 ⟨rfl, ho.1, (by
      show inI (a.order y2 y3).1
      unfold Ag.order inI; repeat' split
      all_goals omega), ho.2.2⟩) (by show (W.anss.length + 1) * 24 ≤ _; omega) (by show W.anss.length + 1 ≤ _; omega)
    have F3 : Fw (tg ow2 4) k2 k3 := f3.mono fun j _ e => c2.qs.2 j e
    have c3' := c2.setQ F3 hw'
    have hg3 := (F3.2 id hl2 (fun e => by have : ow2 id = 4 := e; omega)).trans hg2
    have h63 : bump ow2 k2 4 id = 6 := (bump_lt hl2).trans h62
    have hl3 : id < k3.next := by have := F3.1; omega
    have gs := fun o => AHeap.get_set_self k3 o hl3
    have gb2' := gb2
    rw [if_pos q3]
    simp only [go_sem, simprocAttr, decide_eq_true q3', hg2, wdV, gb2, e3, hg3]
    exact ⟨_, ⟨h63, _, _, _, _, _, _, gs _, c3'.cell h63 _⟩, kp2.trans ((Kp.fw F3 (by decide)).trans (.set h63 _))⟩
  · have q3' : ¬ (W.anss.length : Int) < 300 := by omega
    rw [if_neg q3]
    simp only [go_sem, simprocAttr, decide_eq_false q3']
    exact ⟨ow2, ⟨h62, _, _, _, _, _, _, hg2, c2⟩, kp2⟩
end
end Go.Proofs.Ytbcgipcgcjkfcaa
