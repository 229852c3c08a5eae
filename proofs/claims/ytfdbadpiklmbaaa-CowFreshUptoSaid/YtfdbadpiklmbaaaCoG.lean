/- cow: the forest. -/
import Derived.Test.YtfdbadpiklmbaaaCoF
set_option linter.unusedSimpArgs false
set_option linter.unusedVariables false
set_option linter.unnecessarySimpa false
set_option maxRecDepth 100000
namespace Go.Proofs.Ytfdbadpiklmbaaa
open Go.AM

/-! Whose an object is. -/
def tg (own : Nat → Nat) (t : Nat) : Nat → Prop := fun j => own j = t
/-- What comes is t's. -/
def bump (own : Nat → Nat) (h : AHeap) (t : Nat) : Nat → Nat := fun j => if j < h.next then own j else t
theorem bump_lt {own : Nat → Nat} {h : AHeap} {t j : Nat} (hj : j < h.next) : bump own h t j = own j := if_pos hj
theorem bump_ge {own : Nat → Nat} {h : AHeap} {t j : Nat} (hj : h.next ≤ j) : bump own h t j = t := if_neg (by omega)
theorem bump_up {own : Nat → Nat} {h : AHeap} {t j : Nat} (hj : up (tg own t) h j) : tg (bump own h t) t j := by
  by_cases hl : j < h.next
  · rcases hj with e | e
    · exact (bump_lt hl).trans e
    · omega
  · exact bump_ge (by omega)
theorem bump_tg {own : Nat → Nat} {h : AHeap} {s t j : Nat} (hj : tg own s j) (hl : j < h.next) : tg (bump own h t) s j := (bump_lt hl).trans hj
theorem New.bump {own : Nat → Nat} {h : AHeap} {t : Nat} : New (tg (bump own h t) t) h := fun _ hj => bump_ge hj
theorem _root_.Go.AM.Fw.other {own : Nat → Nat} {h h' : AHeap} {s t : Nat} (f : Fw (tg own t) h h') (hs : s ≠ t) : ∀ j, tg own s j → j < h.next → tg (bump own h t) s j ∧ h'.get j = h.get j :=
  fun j hj hl => ⟨bump_tg hj hl, f.2 j hl (fun e => hs (by rw [← hj, ← (show own j = t from e)]))⟩
theorem _root_.Go.AM.Fw.stay {own : Nat → Nat} {h h' : AHeap} {s t : Nat} (f : Fw (tg own t) h h') (hs : s ≠ t) : ∀ j, tg own s j → j < h.next → tg own s j ∧ h'.get j = h.get j :=
  fun j hj hl => ⟨hj, f.2 j hl (fun e => hs (by rw [← hj, ← (show own j = t from e)]))⟩
theorem quiet_other {own : Nat → Nat} {h h' : AHeap} (q : h.quiet h') {s t : Nat} : ∀ j, tg own s j → j < h.next → tg (bump own h t) s j ∧ h'.get j = h.get j := fun j hj hl => ⟨bump_tg hj hl, q.2 j hl⟩

/-- A list of one's own, or one that is as large as its object. -/
def OwnX {α : Type} (r : Rep α) (Z : Nat → Prop) (h : AHeap) (xs : List α) (v : Value) : Prop :=
  OwnL r Z h xs v ∨ ∃ b, v = .slice (some ⟨b, 0, none⟩) xs.length xs.length ∧ Z b ∧ b < h.next ∧ xs.length ≤ 281474976710656 ∧ IsSl r Z h xs v
theorem OwnX.mono {α : Type} {r : Rep α} {Z Z' : Nat → Prop} {h h' : AHeap} {xs : List α} {v : Value} (ho : OwnX r Z h xs v) (hn : h.next ≤ h'.next) (hm : ∀ j, Z j → j < h.next → Z' j ∧ h'.get j = h.get j) : OwnX r Z' h' xs v :=
  ho.imp (fun o => o.mono hn hm) fun ⟨b, e, hz, hb, h1, hs⟩ => ⟨b, e, (hm b hz hb).1, by omega, h1, hs.mono hm⟩
theorem OwnX.slz {α : Type} {r : Rep α} {Z : Nat → Prop} {h : AHeap} {xs : List α} {v : Value} (ho : OwnX r Z h xs v) : IsSl r Z h xs v := ho.elim (·.slz) fun ⟨_, _, _, _, _, hs⟩ => hs
theorem OwnX.blkz {α : Type} {r : Rep α} {Z : Nat → Prop} {h : AHeap} {xs : List α} {v : Value} (ho : OwnX r Z h xs v) {j : Nat} (hj : blk v = some j) : Z j ∧ j < h.next := by
  rcases ho with o | ⟨b, rfl, hz, hb, _⟩
  · exact ⟨o.2 j hj, o.lt hj⟩
  · cases hj; exact ⟨hz, hb⟩
/-- One more, behind a box. -/
theorem OwnX.app2 {α : Type} {r : Rep α} {Z : Nat → Prop} {h : AHeap} {xs : List α} {v : Value} {y : α} {cs : List Value} {bytes : Nat} (ho : OwnX r Z h xs v) (hpl : ∀ {S k k' x c}, r.R S k x c → r.R (fun _ => False) k' x c) (sz : Nat) (hsz : r.sz = sz) (hy : ∀ k, r.R (fun _ => False) k y cs) (hb : (xs.length + 1) * bytes ≤ 140737488355328) (h62 : xs.length + 1 ≤ 281474976710656) :
    ∃ v' h', aappend (h.push (.cells cs .rw)) sz bytes v 1 cs = some (v', h') ∧ OwnL r (up Z h) h' (xs ++ [y]) v' ∧ Fw (fun j => blk v = some j) h h' ∧ (blk v' = blk v ∨ ∃ ob, blk v' = some ob ∧ h.next ≤ ob) ∧ ∃ a n c, v' = .slice a n c := by
  rcases ho with o | ⟨b, rfl, hz, hb', h1, hs⟩
  · obtain ⟨v', h', e, o', rest⟩ := o.app2 (y := y) (cs := cs) (bytes := bytes) sz hsz hy hb h62
    exact ⟨v', h', e, o', rest⟩
  · have q := AHeap.quiet.push h (.cells cs .rw)
    obtain ⟨css, ec, ha⟩ := (hs.quiet q).acells sz hsz
    have ha0 : All2 (r.R (fun _ => False) (h.push (.cells cs .rw))) xs css := ha.mono fun _ _ _ _ e => hpl e
    have hall : All2 (r.R (fun _ => False) ((h.push (.cells cs .rw)).push (.cells (css.flatten ++ cs) (.tail sz)))) (xs ++ [y]) (css ++ [cs]) := (ha.mono fun _ _ _ _ e => hpl e).append (.cons (hy _) .nil)
    refine ⟨.slice (some ⟨(h.push (.cells cs .rw)).next, 0, some sz⟩) (xs.length + 1) (xs.length + 1), (h.push (.cells cs .rw)).push (.cells (css.flatten ++ cs) (.tail sz)), ?_, ⟨?_, fun j hj => ?_⟩, ?_, .inr ⟨_, rfl, by simp⟩, _, _, _, rfl⟩
    · rw [aappend_x, if_neg (by omega), if_pos ⟨hb, by omega⟩, ec]; rfl
    · refine ⟨css ++ [cs], hall.mono fun x c _ _ e => r.weaken e fun _ e => e.elim, by simpa using h62, .inr ⟨(h.push (.cells cs .rw)).next, by simp [hsz], Nat.zero_le _, ?_⟩⟩
      rw [AHeap.get_push_self]; simp [hsz]
    · cases hj; exact .inr (by simp)
    · exact Fw.of_quiet (q.push' _)

/-- The trees of a forest. -/
structure FoC (own : Nat → Nat) (h : AHeap) (ps : List (Option Nat)) (ts : List T) (v : Value) : Prop where
  l : OwnX Rep.ptr (tg own 1) h ps v
  n : ps.length = ts.length
  t : ∀ (i : Nat) (t : T) (p : Option Nat), ts[i]? = some t → ps[i]? = some p → TrAt (tg own 2) h t (.pointer (p.map fun id => ⟨id, 0, none⟩))
def FoAt (own : Nat → Nat) (h : AHeap) (id : Nat) (ts : List T) : Prop := own id = 1 ∧ ∃ v ps, h.get id = .cells [v] .rw ∧ blk v ≠ some id ∧ FoC own h ps ts v
/-- What is none of the forest's own stays. -/
def Kp (own : Nat → Nat) (h : AHeap) (own' : Nat → Nat) (h' : AHeap) : Prop := h.next ≤ h'.next ∧ ∀ j, j < h.next → own' j = own j ∧ (own j ≠ 1 → h'.get j = h.get j)

section
variable {own own' own'' : Nat → Nat} {h h' h'' h0 : AHeap} {S S' Z : Nat → Prop} {id : Nat} {ts : List T} {ps : List (Option Nat)} {v : Value}
theorem Kp.refl : Kp own h own h := ⟨Nat.le_refl _, fun _ _ => ⟨rfl, fun _ => rfl⟩⟩
theorem Kp.trans (a : Kp own h own' h') (b : Kp own' h' own'' h'') : Kp own h own'' h'' :=
  ⟨Nat.le_trans a.1 b.1, fun j hj => ⟨((b.2 j (Nat.lt_of_lt_of_le hj a.1)).1).trans (a.2 j hj).1, fun e => ((b.2 j (Nat.lt_of_lt_of_le hj a.1)).2 (fun e2 => e ((a.2 j hj).1.symm.trans e2))).trans ((a.2 j hj).2 e)⟩⟩
theorem Kp.quiet (q : h.quiet h') (t : Nat) : Kp own h (bump own h t) h' := ⟨q.1, fun j hj => ⟨bump_lt hj, fun _ => q.2 j hj⟩⟩
theorem Kp.fw {f : Fw (tg own 1) h h'} {t : Nat} : Kp own h (bump own h t) h' := ⟨f.1, fun j hj => ⟨bump_lt hj, fun e => f.2 j hj e⟩⟩
theorem Kp.set (ho : own id = 1) (o : AObj) : Kp own h own (h.set id o) := ⟨by simp, fun j _ => ⟨rfl, fun e => AHeap.get_set_ne _ _ (by rintro rfl; exact e ho)⟩⟩
theorem Kp.other (k : Kp own h own' h') {s : Nat} (hs : s ≠ 1) : ∀ j, tg own s j → j < h.next → tg own' s j ∧ h'.get j = h.get j :=
  fun j hj hl => ⟨(k.2 j hl).1.trans hj, (k.2 j hl).2 (fun e => hs (hj.symm.trans e))⟩
theorem FoC.mono (c : FoC own h ps ts v) (hn : h.next ≤ h'.next) (hm : ∀ t, t = 1 ∨ t = 2 → ∀ j, tg own t j → j < h.next → tg own' t j ∧ h'.get j = h.get j) : FoC own' h' ps ts v :=
  ⟨c.l.mono hn (hm 1 (.inl rfl)), c.n, fun i t p h1 h2 => (c.t i t p h1 h2).mono (hm 2 (.inr rfl))⟩
theorem FoAt.lt (ha : FoAt own h id ts) : id < h.next := by obtain ⟨_, v, ps, hg, _⟩ := ha; exact AHeap.lt_of_alive h (by rw [hg]; simp)
theorem FoAt.mono (ha : FoAt own h id ts) (hn : h.next ≤ h'.next) (hm : ∀ t, t = 1 ∨ t = 2 → ∀ j, tg own t j → j < h.next → tg own' t j ∧ h'.get j = h.get j) : FoAt own' h' id ts := by
  have hlt := ha.lt
  obtain ⟨h1, v, ps, hg, hne, c⟩ := ha
  exact ⟨(hm 1 (.inl rfl) id h1 hlt).1, v, ps, (hm 1 (.inl rfl) id h1 hlt).2.trans hg, hne, c.mono hn hm⟩
theorem FoAt.quiet (ha : FoAt own h id ts) (q : h.quiet h') (t : Nat) : FoAt (bump own h t) h' id ts := ha.mono q.1 fun _ _ => quiet_other q
theorem FoAt.tree (ha : FoAt own h id ts) {i : Nat} {t : T} (hi : ts[i]? = some t) : ∃ p : Option Nat, TrAt (tg own 2) h t (.pointer (p.map fun id => ⟨id, 0, none⟩)) := by
  obtain ⟨h1, v, ps, hg, hne, c⟩ := ha
  have : i < ps.length := by rw [c.n]; exact (List.getElem?_eq_some_iff.1 hi).1
  exact ⟨_, c.t i t _ hi (List.getElem?_eq_getElem this)⟩

theorem newForest_ok : Does Try.prog 9 #[] h (fun u h' => u = .pointer (some ⟨h.next + 1, 0, none⟩) ∧ h.quiet h' ∧ FoAt (bump own h 1) h' (h.next + 1) [.nil]) := by
  refine spec_go mixed Try.func9 rfl Try.results9 (n := Try.f9.ntmps) (by kernel_rfl) (by simp) ?_
  simp only [go_sem, simprocAttr]
  refine ⟨bump_ge (by omega), .slice (some ⟨h.next, 0, none⟩) 1 1, [none], ?_, by simp, ⟨.inr ⟨h.next, rfl, bump_ge (Nat.le_refl _), by simp; omega, by decide, ?_⟩, rfl, ?_⟩⟩
  · simp only [go_sem, simprocAttr]
  · refine .fresh (css := [[.pointer none]]) (.cons rfl .nil) rfl (by decide) (bump_ge (Nat.le_refl _)) (md := .rw) (c := [.pointer none]) ?_ rfl
    simp only [go_sem, simprocAttr]
  · intro i t p h1 h2
    cases i with
    | zero => simp at h1 h2; subst h1; subst h2; rfl
    | succ i => simp at h1
theorem fok_ok (ha : FoAt own h id ts) (hp : ts ≠ []) : Does Try.prog 41 #[.pointer (some ⟨id, 0, none⟩)] h (fun u h' => u = .bool true ∧ h' = h) := by
  obtain ⟨h1, v, ps, hg, hne, c⟩ := ha
  obtain ⟨a, cp, rfl⟩ := c.l.slz.shape
  have : 0 < ps.length := by rw [c.n]; exact List.length_pos_iff.2 hp
  have h0 : (0 : Int) < ps.length := by omega
  refine spec_go mixed Try.func41 rfl Try.results41 (n := Try.f41.ntmps) (by kernel_rfl) (by simp) ?_
  simp only [go_sem, simprocAttr, hg, decide_eq_true h0]
theorem TrAt.pm {S : Nat → Prop} {h : AHeap} {t : T} {v : Value} (ht : TrAt S h t v) : ∃ p : Option Nat, v = .pointer (p.map fun id => ⟨id, 0, none⟩) := by
  cases t with
  | nil => exact ⟨none, ht⟩
  | node l x r => obtain ⟨id, pl, pr, e, _⟩ := ht; exact ⟨some id, e⟩
theorem ptr_map {p : Option Nat} : (Value.pointer (p.map fun id => (⟨id, 0, none⟩ : Addr))) = .pointer (p.map fun id => ⟨id, 0, none⟩) := rfl

def Has (ts : List T) (root : Int) : Prop := 0 ≤ root ∧ root < ts.length
instance (ts : List T) (root : Int) : Decidable (Has ts root) := inferInstanceAs (Decidable (_ ∧ _))
theorem find_ok (ha : FoAt own h id ts) (hp : ts ≠ []) {root : Int} : Does Try.prog 29 #[.pointer (some ⟨id, 0, none⟩), .int .i64 root] h
    (fun u h' => h.quiet h' ∧ ((Has ts root ∧ ∃ t p, ts[root.toNat]? = some t ∧ TrAt (tg own 2) h t (.pointer p) ∧ u = .tuple #[.agg #[.pointer p], .int .i64 0]) ∨ (¬ Has ts root ∧ u = .tuple #[.agg #[.pointer none], .int .i64 9]))) := by
  have hlt := ha.lt
  have ha0 := ha
  obtain ⟨h1, v, ps, hg, hne, c⟩ := ha
  obtain ⟨a, cp, rfl⟩ := c.l.slz.shape
  have hlen := c.l.slz.len
  have hn := c.n
  have q1 := AHeap.quiet.push h (.cells [.pointer none] .rw)
  have ha1 : FoAt (bump own h 0) (h.push (.cells [.pointer none] .rw)) id ts := ha0.quiet q1 0
  have hg1 : (h.push (.cells [.pointer none] .rw)).get id = _ := (q1.2 id hlt).trans hg
  refine spec_go mixed Try.func29 rfl Try.results29 (n := Try.f29.ntmps) (by kernel_rfl) (by simp) ?_
  simp only [go_sem, simprocAttr]
  refine cl_spec (fok_ok ha1 hp) (fun _ _ _ hc => absurd hc (by decide +kernel)) ?_
  rintro u k ⟨rfl, hk⟩
  obtain rfl : _ = k := hk.symm
  by_cases c1 : root < 0
  · simp only [go_sem, simprocAttr, decide_eq_true c1]
    exact .inr (fun e => by have := e.1; omega)
  by_cases c2 : (ps.length : Int) ≤ root
  · simp only [go_sem, simprocAttr, decide_eq_false c1, hg1, decide_eq_true c2]
    exact .inr (fun e => by have := e.2; omega)
  · obtain ⟨i, rfl⟩ := Int.eq_ofNat_of_zero_le (show 0 ≤ root by omega)
    have hi : i < ps.length := by omega
    obtain ⟨b, off, sp, cc, md, w, p, hA, hz, hgb, hpi, hR, hcc⟩ := c.l.slz.at1 rfl hi
    obtain rfl : w = _ := by simpa using (show [w] = [_] from hR)
    have hti : i < ts.length := by omega
    have htr := c.t i ts[i] p (List.getElem?_eq_getElem hti) hpi
    have hb : b < h.next := AHeap.lt_of_alive h (by rw [hgb]; simp)
    have hgb1 : (h.push (.cells [.pointer none] .rw)).get b = _ := (q1.2 b hb).trans hgb
    have c3 : ¬ ps.length ≤ i := by omega
    simp only [go_sem, simprocAttr, decide_eq_false c1, hg1, decide_eq_false c3]
    have hle : off + i + 1 ≤ cc.length := (List.getElem?_eq_some_iff.1 hcc).1
    have hdt : (cc.drop (off + i)).take 1 = [.pointer (p.map fun id => ⟨id, 0, none⟩)] := by rw [drop_cons hcc]; rfl
    simp only [go_sem, simprocAttr, hg1, hA, hgb1, hle, hdt, hi]
    exact .inl ⟨⟨by omega, by omega⟩, ts[i], _, List.getElem?_eq_getElem hti, htr, rfl⟩
theorem add_ok (ha : FoAt own h id ts) (hp : ts ≠ []) {t : T} {p : Option Nat} (ht : TrAt (tg own 2) h t (.pointer (p.map fun id => ⟨id, 0, none⟩))) (hl : ts.length ≤ 1099511627776) : Does Try.prog 32 #[.pointer (some ⟨id, 0, none⟩), .pointer (p.map fun id => ⟨id, 0, none⟩)] h
    (fun u h' => u = .tuple #[.int .i64 ts.length, .int .i64 0] ∧ ∃ own', FoAt own' h' id (ts ++ [t]) ∧ Kp own h own' h') := by
  have hlt := ha.lt
  have ha0 := ha
  obtain ⟨h1, v, ps, hg, hne, c⟩ := ha
  obtain ⟨a, cp, rfl⟩ := c.l.slz.shape
  have hlen := c.l.slz.len
  have hn := c.n
  obtain ⟨v', h', e, o', f, hnew, a2, n2, c2, rfl⟩ := c.l.app2 (y := p) (cs := [.pointer (p.map fun id => ⟨id, 0, none⟩)]) (bytes := 8) (fun e => e) 1 rfl (fun _ => rfl) (by omega) (by omega)
  have F : Fw (tg own 1) h h' := f.mono fun j _ e => (c.l.blkz e).1
  have hg' : h'.get id = _ := (f.2 id hlt hne).trans hg
  have hl' : id < h'.next := by have := F.1; omega
  have gs := fun o => AHeap.get_set_self h' o hl'
  have hlen2 := o'.slz.len
  have en : n2 = ps.length + 1 := by rw [hlen2.1]; simp
  subst en
  have e1 : IntKind.i64.wrap (((ps.length + 1 : Nat) : Int) - 1) = ts.length := by rw [wi64] <;> omega
  have hne' : blk (.slice a2 (ps.length + 1) c2) ≠ some id := by
    rcases hnew with hn | ⟨ob, hn, hge⟩
    · rw [hn]; exact hne
    · rw [hn]; intro e; cases e; omega
  refine spec_go mixed Try.func32 rfl Try.results32 (n := Try.f32.ntmps) (by kernel_rfl) (by simp) ?_
  simp only [go_sem, simprocAttr, hg, e, hg', gs, e1]
  refine ⟨bump own h 1, ⟨(bump_lt hlt).trans h1, _, ps ++ [p], gs _, hne', ⟨.inl ((o'.set hne' _).weaken fun _ => bump_up), by simp [hn], fun i t' p' h2 h3 => ?_⟩⟩, (Kp.fw (f := F)).trans (Kp.set ((bump_lt hlt).trans h1) _)⟩
  have mv : ∀ {t v}, TrAt (tg own 2) h t v → TrAt (tg (bump own h 1) 2) (h'.set id (.cells [.slice a2 (ps.length + 1) c2] .rw)) t v := fun {t v} ht => ht.mono fun j hj hl => ⟨bump_tg hj hl, (AHeap.get_set_ne _ _ (by rintro rfl; have : own id = 2 := hj; omega)).trans (F.2 j hl (fun e => by have h4 : own j = 2 := hj; have h5 : own j = 1 := e; omega))⟩
  by_cases hi : i < ts.length
  · rw [List.getElem?_append_left hi] at h2
    rw [List.getElem?_append_left (by omega)] at h3
    exact mv (c.t i t' p' h2 h3)
  · have : i = ts.length := by
      have := (List.getElem?_eq_some_iff.1 h2).1
      simp at this; omega
    subst this
    have e3 : t = t' := by simpa using h2
    have e4 : p = p' := by rw [← hn] at h3; simpa using h3
    subst e3; subst e4
    exact mv ht

theorem depthF_ok (ha : FoAt own h id ts) (hp : ts ≠ []) {root : Int} : Does Try.prog 13 #[.pointer (some ⟨id, 0, none⟩), .int .i64 root] h
    (fun u h' => h.quiet h' ∧ ((∃ t, Has ts root ∧ ts[root.toNat]? = some t ∧ u = .int .i64 t.depth) ∨ (¬ Has ts root ∧ u = .int .i64 0))) := by
  refine spec_go mixed Try.func13 rfl Try.results13 (n := Try.f13.ntmps) (by kernel_rfl) (by simp) ?_
  simp only [go_sem, simprocAttr]
  refine cl_spec (find_ok ha hp) (fun _ _ _ hc => absurd hc (by decide +kernel)) ?_
  rintro u k ⟨q, ⟨hh, t, p, hti, htr, rfl⟩ | ⟨hh, rfl⟩⟩
  · simp only [go_sem, simprocAttr]
    refine cl_gen fun k1 e1 => ?_
    have q1 : k.quiet k1 := by rw [e1]; simp only [go_sem, simprocAttr]
    clear e1
    refine cl_spec (depth_ok (htr.quiet (q.trans q1))) (fun _ _ _ hc => absurd hc (by decide +kernel)) ?_
    rintro u k2 ⟨rfl, hk⟩
    obtain rfl : k1 = k2 := hk.symm
    simp only [go_sem, simprocAttr]
    exact ⟨q.trans q1, .inl ⟨t, hh, hti, rfl⟩⟩
  · simp only [go_sem, simprocAttr]
    refine cl_gen fun k1 e1 => ?_
    have q1 : k.quiet k1 := by rw [e1]; simp only [go_sem, simprocAttr]
    clear e1
    refine cl_spec (depth_ok (S := fun _ => True) (t := .nil) rfl) (fun _ _ _ hc => absurd hc (by decide +kernel)) ?_
    rintro u k2 ⟨rfl, hk⟩
    obtain rfl : k1 = k2 := hk.symm
    simp only [go_sem, simprocAttr]
    exact ⟨q.trans q1, .inr ⟨hh, rfl⟩⟩
theorem sizeF_ok (ha : FoAt own h id ts) (hp : ts ≠ []) {root : Int} : Does Try.prog 19 #[.pointer (some ⟨id, 0, none⟩), .int .i64 root] h
    (fun u h' => h.quiet h' ∧ ((∃ t, Has ts root ∧ ts[root.toNat]? = some t ∧ u = .int .i64 t.size) ∨ (¬ Has ts root ∧ u = .int .i64 0))) := by
  refine spec_go mixed Try.func19 rfl Try.results19 (n := Try.f19.ntmps) (by kernel_rfl) (by simp) ?_
  simp only [go_sem, simprocAttr]
  refine cl_spec (find_ok ha hp) (fun _ _ _ hc => absurd hc (by decide +kernel)) ?_
  rintro u k ⟨q, ⟨hh, t, p, hti, htr, rfl⟩ | ⟨hh, rfl⟩⟩
  · simp only [go_sem, simprocAttr]
    refine cl_gen fun k1 e1 => ?_
    have q1 : k.quiet k1 := by rw [e1]; simp only [go_sem, simprocAttr]
    clear e1
    refine cl_spec (weight_ok (htr.quiet (q.trans q1))) (fun _ _ _ hc => absurd hc (by decide +kernel)) ?_
    rintro u k2 ⟨rfl, hk⟩
    obtain rfl : k1 = k2 := hk.symm
    simp only [go_sem, simprocAttr]
    exact ⟨q.trans q1, .inl ⟨t, hh, hti, rfl⟩⟩
  · simp only [go_sem, simprocAttr]
    refine cl_gen fun k1 e1 => ?_
    have q1 : k.quiet k1 := by rw [e1]; simp only [go_sem, simprocAttr]
    clear e1
    refine cl_spec (weight_ok (S := fun _ => True) (t := .nil) rfl) (fun _ _ _ hc => absurd hc (by decide +kernel)) ?_
    rintro u k2 ⟨rfl, hk⟩
    obtain rfl : k1 = k2 := hk.symm
    simp only [go_sem, simprocAttr]
    exact ⟨q.trans q1, .inr ⟨hh, rfl⟩⟩
theorem treesF_ok (ha : FoAt own h id ts) (hp : ts ≠ []) : Does Try.prog 22 #[.pointer (some ⟨id, 0, none⟩)] h (fun u h' => u = .int .i64 ts.length ∧ h' = h) := by
  refine spec_go mixed Try.func22 rfl Try.results22 (n := Try.f22.ntmps) (by kernel_rfl) (by simp) ?_
  simp only [go_sem, simprocAttr]
  refine cl_spec (fok_ok ha hp) (fun _ _ _ hc => absurd hc (by decide +kernel)) ?_
  rintro u k ⟨rfl, hk⟩
  obtain rfl : _ = k := hk.symm
  obtain ⟨h1, v, ps, hg, hne, c⟩ := ha
  obtain ⟨a, cp, rfl⟩ := c.l.slz.shape
  simp only [go_sem, simprocAttr, hg, c.n]
end
end Go.Proofs.Ytfdbadpiklmbaaa
