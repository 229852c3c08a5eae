/- cow: the forest's calls. -/
import Derived.Test.YtfdbadpiklmbaaaCoG
set_option linter.unusedSimpArgs false
set_option linter.unusedVariables false
set_option linter.unnecessarySimpa false
set_option maxRecDepth 100000
namespace Go.Proofs.Ytfdbadpiklmbaaa
open Go.AM

def Tput (t : T) (x : Ext) : T := T.put (T.split x.off t).1 x (T.split (x.off + x.len) (T.split x.off t).2).2
def Tcut (t : T) (o n : Int) : T := T.both (T.split o t).1 (T.split (o + n) (T.split o t).2).2
def okT (t : T) : Prop := t.all Ext.ok ∧ t.size ≤ 1073741824
def okF (ts : List T) : Prop := ∀ t ∈ ts, okT t
def F.put (ts : List T) (root : Int) (x : Ext) : (Int × Int) × List T :=
  if Has ts root then (if x.ok then ((ts.length, 0), ts ++ [Tput (ts.getD root.toNat .nil) x]) else ((0, 1), ts)) else ((0, 9), ts)
def F.cut (ts : List T) (root o n : Int) : (Int × Int) × List T :=
  if Has ts root then (if Blks o n then ((ts.length, 0), ts ++ [Tcut (ts.getD root.toNat .nil) o n]) else ((0, 1), ts)) else ((0, 9), ts)
def F.part (ts : List T) (root o n : Int) : List Ext × Int :=
  if Has ts root then (if Blks o n then ((ts.getD root.toNat .nil).parts o (o + n), 0) else ([], 1)) else ([], 9)

theorem T.split_all {o : Int} : ∀ {t : T}, t.all Ext.ok → (T.split o t).1.all Ext.ok ∧ (T.split o t).2.all Ext.ok
  | .nil, _ => ⟨trivial, trivial⟩
  | .node l x r, ⟨hl, hx, hr⟩ => by
    have h1 := T.split_all (o := o) hl
    have h2 := T.split_all (o := o) hr
    have jn : ∀ {a : T} {y : Ext} {b : T}, a.all Ext.ok → y.ok → b.all Ext.ok → (T.join a y b).all Ext.ok := fun {a y b} k1 k2 k3 => by
      rw [T.all_list, T.join_list]
      intro z hz
      rcases List.mem_append.1 hz with hz | hz
      · exact T.all_list.1 k1 z hz
      · rcases List.mem_cons.1 hz with rfl | hz
        · exact k2
        · exact T.all_list.1 k3 z hz
    have hx' := hx
    unfold Ext.ok at hx'
    unfold T.split
    split
    · exact ⟨h1.1, jn h1.2 hx hr⟩
    split
    · exact ⟨jn hl hx h2.1, h2.2⟩
    · exact ⟨jn hl (Ext.ok_clip hx (by unfold Ext.lies; omega)) trivial, jn trivial (Ext.ok_clip hx (by unfold Ext.lies; omega)) hr⟩

theorem Out.mk_new {h0 : AHeap} : Out h0 (h0.push (.cells [.slice none 0 0] .rw)) h0.next [] := ⟨.push _ _, Nat.le_refl _, _, AHeap.get_push_self _ _, .nil _ _ _, by simp⟩
section
variable {own own' own'' : Nat → Nat} {h h' h'' h0 : AHeap} {S S' Z : Nat → Prop} {id : Nat} {ts : List T} {ps : List (Option Nat)} {v : Value}
theorem putF_ok (ha : FoAt own h id ts) (hp : ts ≠ []) (hok : okF ts) (hl : ts.length ≤ 1099511627776) {root : Int} {x : Ext} (hx : x.inI) : Does Try.prog 11 #[.pointer (some ⟨id, 0, none⟩), .int .i64 root, x.ag] h
    (fun u h' => u = .tuple #[.int .i64 (F.put ts root x).1.1, .int .i64 (F.put ts root x).1.2] ∧ ∃ own', FoAt own' h' id (F.put ts root x).2 ∧ Kp own h own' h') := by
  have q1 := AHeap.quiet.push h (.cells x.cs .rw)
  have g1 : (h.push (.cells x.cs .rw)).get h.next = .cells x.cs .rw := AHeap.get_push_self _ _
  have n1 : (h.push (.cells x.cs .rw)).next = h.next + 1 := by simp
  unfold Ext.cs at q1 g1 n1
  unfold F.put
  refine spec_go mixed Try.func11 rfl Try.results11 (n := Try.f11.ntmps) (by kernel_rfl) (by simp) ?_
  simp only [go_sem, simprocAttr, Ext.ag]
  generalize h.push (.cells [.int .i64 x.off, .int .i64 x.len, .int .i64 x.phys, .int .i64 x.birth] .rw) = h1 at q1 g1 n1 ⊢
  have ha1 := ha.quiet q1 2
  have kp1 := Kp.quiet (own := own) q1 2
  generalize bump own h 2 = ow at ha1 kp1
  refine cl_spec (find_ok ha1 hp) (fun _ _ _ hc => absurd hc (by decide +kernel)) ?_
  rintro u k ⟨q, ⟨hh, t, p, hti, htr, rfl⟩ | ⟨hh, rfl⟩⟩
  · rw [if_pos hh]
    have htd : ts.getD root.toNat .nil = t := by rw [List.getD, hti]; rfl
    have hot := hok t (List.mem_of_getElem? hti)
    have gk := (q.2 h.next (by omega)).trans g1
    have gp : ∀ o, (k.push o).get h.next = _ := fun o => (AHeap.get_push_lt _ _ (by have := q.1; omega)).trans gk
    simp only [go_sem, simprocAttr, gp]
    refine cl_gen fun k1 e1 => ?_
    have q2 : k.quiet k1 := by rw [e1]; simp only [go_sem, simprocAttr]
    have g2 : k1.get k.next = .cells [.pointer p] .rw := by rw [e1]; simp only [go_sem, simprocAttr]
    have g3 : k1.get (k.next + 1) = .cells x.cs .rw := by rw [e1]; simp only [go_sem, simprocAttr, Ext.cs]
    have n2 : k1.next = k.next + 2 := by rw [e1]; simp
    clear e1
    have hsl : IsSl rExt (fun _ => True) k1 [x] (.slice (some ⟨k.next + 1, 0, none⟩) 1 1) := .fresh (css := [x.cs]) (.cons (rExt_iff.2 ⟨rfl, hx⟩) .nil) rfl (by decide) trivial g3 (by simp)
    refine cl_spec (Right_ok hsl) (fun _ _ _ hc => absurd hc (by decide +kernel)) ?_
    rintro u k2 ⟨⟨b, rfl, hb⟩, q3⟩
    have Q := q.trans (q2.trans q3)
    have hR : RightL [x] ↔ x.ok := ⟨fun e => e.2.1.1, fun e => ⟨by simp, ⟨e, by have := e; unfold Ext.ok at this; omega, trivial⟩, trivial⟩⟩
    have g2' := (q3.2 k.next (by omega)).trans g2
    have gx := (Q.2 h.next (by omega)).trans g1
    by_cases hox : x.ok
    · rw [if_pos hox, htd]
      obtain rfl : b = true := hb.2 (hR.2 hox)
      have hox' := hox
      unfold Ext.ok at hox'
      have e1 : IntKind.i64.wrap (x.off + x.len) = x.off + x.len := by rw [wi64] <;> omega
      simp only [go_sem, simprocAttr, g2', gx]
      have htk : TrAt (tg (bump ow h1 2) 2) k2 t (.pointer p) := htr.mono (fun j hj hl => quiet_other Q j hj hl)
      have hnk : New (tg (bump ow h1 2) 2) k2 := fun j hj => bump_ge (Nat.le_trans Q.1 hj)
      obtain ⟨ot, st⟩ := hot
      have s1 := T.split_size x.off t
      have s2 := T.split_size (x.off + x.len) (T.split x.off t).2
      obtain ⟨oa, ob⟩ := T.split_all (o := x.off) ot
      obtain ⟨oc, od⟩ := T.split_all (o := x.off + x.len) ob
      refine cl_spec (split_ok (o := x.off) (by omega) t hnk htk ot (by omega)) (fun _ _ _ hc => absurd hc (by decide +kernel)) ?_
      rintro u k3 ⟨w1, w2, rfl, t1, t2, q4⟩
      obtain ⟨pw1, rfl, _⟩ := t1.ptr
      have gx3 := (q4.2 h.next (by have := Q.1; omega)).trans gx
      simp only [go_sem, simprocAttr, gx3, e1]
      refine cl_spec (split_ok (o := x.off + x.len) (by omega) _ (hnk.quiet q4) t2 ob (by omega)) (fun _ _ _ hc => absurd hc (by decide +kernel)) ?_
      rintro u k4 ⟨w3, w4, rfl, t3, t4, q5⟩
      obtain ⟨pw4, rfl, _⟩ := t4.ptr
      have gx4 := (q5.2 h.next (by have := Q.1; have := q4.1; omega)).trans gx3
      simp only [go_sem, simprocAttr, gx4]
      refine cl_spec (put_ok (x := x) ((hnk.quiet q4).quiet q5) (t1.quiet q5) t4 oa od hox (by omega)) (fun _ _ _ hc => absurd hc (by decide +kernel)) ?_
      rintro u k5 ⟨t5, q6⟩
      obtain ⟨p5, rfl⟩ := t5.pm
      have Q6 := Q.trans (q4.trans (q5.trans q6))
      simp only [go_sem, simprocAttr]
      refine cl_spec (add_ok (t := Tput t x) (ha1.quiet Q6 2) hp t5 hl) (fun _ _ _ hc => absurd hc (by decide +kernel)) ?_
      rintro u k6 ⟨rfl, ow6, hf6, kp6⟩
      simp only [go_sem, simprocAttr]
      exact ⟨ow6, hf6, kp1.trans ((Kp.quiet Q6 2).trans kp6)⟩
    · rw [if_neg hox]
      obtain rfl : b = false := by cases b with | false => rfl | true => exact absurd (hR.1 (hb.1 rfl)) hox
      simp only [go_sem, simprocAttr]
      exact ⟨_, ha1.quiet Q 2, kp1.trans (Kp.quiet Q 2)⟩
  · rw [if_neg hh]
    simp only [go_sem, simprocAttr]
    exact ⟨_, (ha1.quiet q 2).quiet (AHeap.quiet.push _ _) 2, kp1.trans ((Kp.quiet q 2).trans (Kp.quiet (AHeap.quiet.push _ _) 2))⟩
theorem cutF_ok (ha : FoAt own h id ts) (hp : ts ≠ []) (hok : okF ts) (hl : ts.length ≤ 1099511627776) {root o n : Int} (ho : inI o) (hn : inI n) : Does Try.prog 35 #[.pointer (some ⟨id, 0, none⟩), .int .i64 root, .int .i64 o, .int .i64 n] h
    (fun u h' => u = .tuple #[.int .i64 (F.cut ts root o n).1.1, .int .i64 (F.cut ts root o n).1.2] ∧ ∃ own', FoAt own' h' id (F.cut ts root o n).2 ∧ Kp own h own' h') := by
  unfold F.cut
  refine spec_go mixed Try.func35 rfl Try.results35 (n := Try.f35.ntmps) (by kernel_rfl) (by simp) ?_
  simp only [go_sem, simprocAttr]
  refine cl_spec (find_ok ha hp) (fun _ _ _ hc => absurd hc (by decide +kernel)) ?_
  rintro u k ⟨q, ⟨hh, t, p, hti, htr, rfl⟩ | ⟨hh, rfl⟩⟩
  · rw [if_pos hh]
    have htd : ts.getD root.toNat .nil = t := by rw [List.getD, hti]; rfl
    have hot := hok t (List.mem_of_getElem? hti)
    simp only [go_sem, simprocAttr]
    refine cl_gen fun k1 e1 => ?_
    have q2 : k.quiet k1 := by rw [e1]; simp only [go_sem, simprocAttr]
    have g2 : k1.get k.next = .cells [.pointer p] .rw := by rw [e1]; simp only [go_sem, simprocAttr]
    have n2 : k1.next = k.next + 1 := by rw [e1]; simp
    clear e1
    refine cl_spec (Part_nil hn ho) (fun _ _ _ hc => absurd hc (by decide +kernel)) ?_
    rintro u k2 ⟨rfl, q3⟩
    have Q := q.trans (q2.trans q3)
    have g2' := (q3.2 k.next (by omega)).trans g2
    by_cases hox : Blks o n
    · rw [if_pos hox, if_pos hox, htd]
      have hox' := hox
      unfold Blks at hox'
      have e1 : IntKind.i64.wrap (o + n) = o + n := by rw [wi64] <;> omega
      simp only [go_sem, simprocAttr, g2']
      have htk : TrAt (tg (bump own h 2) 2) k2 t (.pointer p) := htr.mono (fun j hj hl => quiet_other Q j hj hl)
      have hnk : New (tg (bump own h 2) 2) k2 := fun j hj => bump_ge (Nat.le_trans Q.1 hj)
      obtain ⟨ot, st⟩ := hot
      have s1 := T.split_size o t
      have s2 := T.split_size (o + n) (T.split o t).2
      obtain ⟨oa, ob⟩ := T.split_all (o := o) ot
      obtain ⟨oc, od⟩ := T.split_all (o := o + n) ob
      refine cl_spec (split_ok (o := o) (by omega) t hnk htk ot (by omega)) (fun _ _ _ hc => absurd hc (by decide +kernel)) ?_
      rintro u k3 ⟨w1, w2, rfl, t1, t2, q4⟩
      obtain ⟨pw1, rfl, _⟩ := t1.ptr
      simp only [go_sem, simprocAttr, e1]
      refine cl_spec (split_ok (o := o + n) (by omega) _ (hnk.quiet q4) t2 ob (by omega)) (fun _ _ _ hc => absurd hc (by decide +kernel)) ?_
      rintro u k4 ⟨w3, w4, rfl, t3, t4, q5⟩
      obtain ⟨pw4, rfl, _⟩ := t4.ptr
      simp only [go_sem, simprocAttr]
      refine cl_spec (both_ok ((hnk.quiet q4).quiet q5) (t1.quiet q5) t4 (by omega)) (fun _ _ _ hc => absurd hc (by decide +kernel)) ?_
      rintro u k5 ⟨t5, q6⟩
      obtain ⟨p5, rfl⟩ := t5.pm
      have Q6 := Q.trans (q4.trans (q5.trans q6))
      simp only [go_sem, simprocAttr]
      refine cl_spec (add_ok (t := Tcut t o n) (ha.quiet Q6 2) hp t5 hl) (fun _ _ _ hc => absurd hc (by decide +kernel)) ?_
      rintro u k6 ⟨rfl, ow6, hf6, kp6⟩
      simp only [go_sem, simprocAttr]
      exact ⟨ow6, hf6, (Kp.quiet Q6 2).trans kp6⟩
    · rw [if_neg hox, if_neg hox]
      simp only [go_sem, simprocAttr]
      exact ⟨_, ha.quiet Q 2, Kp.quiet Q 2⟩
  · rw [if_neg hh]
    simp only [go_sem, simprocAttr]
    exact ⟨_, (ha.quiet q 2).quiet (AHeap.quiet.push _ _) 2, (Kp.quiet q 2).trans (Kp.quiet (AHeap.quiet.push _ _) 2)⟩
theorem partF_ok (ha : FoAt own h id ts) (hp : ts ≠ []) (hok : okF ts) {root o n : Int} (ho : inI o) (hn : inI n) : Does Try.prog 23 #[.pointer (some ⟨id, 0, none⟩), .int .i64 root, .int .i64 o, .int .i64 n] h
    (fun u h' => ∃ v, u = .tuple #[v, .int .i64 (F.part ts root o n).2] ∧ OwnL rExt (h.next ≤ ·) h' (F.part ts root o n).1 v ∧ h.quiet h') := by
  unfold F.part
  refine spec_go mixed Try.func23 rfl Try.results23 (n := Try.f23.ntmps) (by kernel_rfl) (by simp) ?_
  simp only [go_sem, simprocAttr]
  refine cl_spec (find_ok ha hp) (fun _ _ _ hc => absurd hc (by decide +kernel)) ?_
  rintro u k ⟨q, ⟨hh, t, p, hti, htr, rfl⟩ | ⟨hh, rfl⟩⟩
  · rw [if_pos hh]
    have htd : ts.getD root.toNat .nil = t := by rw [List.getD, hti]; rfl
    have hot := hok t (List.mem_of_getElem? hti)
    simp only [go_sem, simprocAttr]
    refine cl_gen fun k1 e1 => ?_
    have q2 : k.quiet k1 := by rw [e1]; simp only [go_sem, simprocAttr]
    have g2 : k1.get k.next = .cells [.pointer p] .rw := by rw [e1]; simp only [go_sem, simprocAttr]
    have n2 : k1.next = k.next + 1 := by rw [e1]; simp
    clear e1
    refine cl_spec (Part_nil hn ho) (fun _ _ _ hc => absurd hc (by decide +kernel)) ?_
    rintro u k2 ⟨rfl, q3⟩
    have Q := q.trans (q2.trans q3)
    have g2' := (q3.2 k.next (by omega)).trans g2
    by_cases hox : Blks o n
    · rw [if_pos hox, if_pos hox, htd]
      have hox' := hox
      unfold Blks at hox'
      have e1 : IntKind.i64.wrap (o + n) = o + n := by rw [wi64] <;> omega
      have gpx : ∀ o, (k2.push o).get k.next = _ := fun o => (AHeap.get_push_lt _ _ (by have := q3.1; omega)).trans g2'
      simp only [go_sem, simprocAttr, gpx, e1]
      have ot := Out.mk_new (h0 := k2)
      refine cl_spec (walk_ok (by omega) (by omega) t (htr.quiet Q) hot.1 ot (by have := hot.2; simp; omega)) (fun _ _ _ hc => absurd hc (by decide +kernel)) ?_
      rintro u k3 ⟨rfl, q4, hb, v', hg', hov, hne⟩
      simp only [go_sem, simprocAttr, hg']
      exact ⟨_, rfl, hov.weaken fun j hj => Nat.le_trans Q.1 hj, Q.trans q4⟩
    · rw [if_neg hox, if_neg hox]
      simp only [go_sem, simprocAttr]
      exact ⟨_, rfl, .nil _ _ _, Q⟩
  · rw [if_neg hh]
    simp only [go_sem, simprocAttr]
    exact ⟨_, rfl, .nil _ _ _, q.push' _⟩
end
end Go.Proofs.Ytfdbadpiklmbaaa
