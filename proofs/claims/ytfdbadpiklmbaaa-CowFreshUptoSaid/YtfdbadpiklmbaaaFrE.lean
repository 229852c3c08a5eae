/- cow: the forest's calls: which nodes are new. -/
import Derived.Test.YtfdbadpiklmbaaaFrD
set_option linter.unusedSimpArgs false
set_option linter.unusedVariables false
set_option linter.unnecessarySimpa false
set_option maxRecDepth 100000
namespace Go.Proofs.Ytfdbadpiklmbaaa
open Go.AM
/-- A forest, with its trees' roots. -/
def FoP (own : Nat → Nat) (h : AHeap) (id : Nat) (ps : List (Option Nat)) (ts : List T) : Prop := own id = 1 ∧ ∃ v, h.get id = .cells [v] .rw ∧ blk v ≠ some id ∧ FoC own h ps ts v
theorem FT.split_all {o : Int} : ∀ {t : FT}, t.all Ext.ok → (FT.split o t).1.all Ext.ok ∧ (FT.split o t).2.all Ext.ok
  | .nil, _ => ⟨trivial, trivial⟩
  | .node f l x r, ⟨hl, hx, hr⟩ => by
    have h1 := FT.split_all (o := o) hl
    have h2 := FT.split_all (o := o) hr
    have jn : ∀ {a : FT} {y : Ext} {b : FT}, a.all Ext.ok → y.ok → b.all Ext.ok → (FT.join a y b).all Ext.ok := fun {a y b} k1 k2 k3 => by
      rw [FT.all_list, FT.join_list]
      intro z hz
      rcases List.mem_append.1 hz with hz | hz
      · exact FT.all_list.1 k1 z hz
      · rcases List.mem_cons.1 hz with rfl | hz
        · exact k2
        · exact FT.all_list.1 k3 z hz
    have hx' := hx
    unfold Ext.ok at hx'
    unfold FT.split
    split
    · exact ⟨h1.1, jn h1.2 hx hr⟩
    split
    · exact ⟨jn hl hx h2.1, h2.2⟩
    · exact ⟨jn hl (Ext.ok_clip hx (by unfold Ext.lies; omega)) trivial, jn trivial (Ext.ok_clip hx (by unfold Ext.lies; omega)) hr⟩


section
variable {own own' own'' : Nat → Nat} {h h' h'' h0 : AHeap} {S S' Z : Nat → Prop} {id : Nat} {ts : List T} {ps : List (Option Nat)} {v : Value}
theorem FoP.fo (ha : FoP own h id ps ts) : FoAt own h id ts := ⟨ha.1, ha.2.choose, ps, ha.2.choose_spec⟩
theorem FoAt.fp (ha : FoAt own h id ts) : ∃ ps, FoP own h id ps ts := by obtain ⟨h1, v, ps, c⟩ := ha; exact ⟨ps, h1, v, c⟩
theorem FoP.mono (ha : FoP own h id ps ts) (hn : h.next ≤ h'.next) (hm : ∀ t, t = 1 ∨ t = 2 → ∀ j, tg own t j → j < h.next → tg own' t j ∧ h'.get j = h.get j) : FoP own' h' id ps ts := by
  have hlt := ha.fo.lt
  obtain ⟨h1, v, hg, hne, c⟩ := ha
  exact ⟨(hm 1 (.inl rfl) id h1 hlt).1, v, (hm 1 (.inl rfl) id h1 hlt).2.trans hg, hne, c.mono hn hm⟩
theorem FoP.quiet (ha : FoP own h id ps ts) (q : h.quiet h') (t : Nat) : FoP (bump own h t) h' id ps ts := ha.mono q.1 fun _ _ => quiet_other q
theorem find_p (hP : FoP own h id ps ts) (hp : ts ≠ []) {root : Int} : Does Try.prog 29 #[.pointer (some ⟨id, 0, none⟩), .int .i64 root] h
    (fun u h' => h.quiet h' ∧ ((Has ts root ∧ ∃ (t : T) (p : Option Addr) (r : Option Nat), p = (r.map fun id => ⟨id, 0, none⟩) ∧ ps[root.toNat]? = some r ∧ ts[root.toNat]? = some t ∧ TrAt (tg own 2) h t (.pointer p) ∧ u = .tuple #[.agg #[.pointer p], .int .i64 0]) ∨ (¬ Has ts root ∧ u = .tuple #[.agg #[.pointer none], .int .i64 9]))) := by
  have ha := hP.fo
  have hlt := ha.lt
  have ha0 := ha
  obtain ⟨h1, v, hg, hne, c⟩ := hP
  obtain ⟨a, cp, rfl⟩ := c.l.slz.shape
  have hlen := c.l.slz.len
  have hn := c.n
  have q1 := AHeap.quiet.push h (.cells [.pointer none] .rw)
  have ha1 : FoAt (bump own h 0) (h.push (.cells [.pointer none] .rw)) id ts := ha0.quiet q1 0
  have hg1 : (h.push (.cells [.pointer none] .rw)).get id = _ := (q1.2 id hlt).trans hg
  refine spec_go mixed Try.func29 rfl Try.results29 (n := Try.f29.ntmps) (by kernel_rfl) (by simp) ?_
  simp only [go_sem, simprocAttr]
  refine cl_spec (fok_ok ha1 hp) (fun _ _ _ hc => absurd hc (by decide +kernel)) ?_
  rintro u k ⟨rfl, hk⟩
  obtain rfl : _ = k := hk.symm
  by_cases c1 : root < 0
  · simp only [go_sem, simprocAttr, decide_eq_true c1]
    exact .inr (fun e => by have := e.1; omega)
  by_cases c2 : (ps.length : Int) ≤ root
  · simp only [go_sem, simprocAttr, decide_eq_false c1, hg1, decide_eq_true c2]
    exact .inr (fun e => by have := e.2; omega)
  · obtain ⟨i, rfl⟩ := Int.eq_ofNat_of_zero_le (show 0 ≤ root by omega)
    have hi : i < ps.length := by omega
    obtain ⟨b, off, sp, cc, md, w, p, hA, hz, hgb, hpi, hR, hcc⟩ := c.l.slz.at1 rfl hi
    obtain rfl : w = _ := by simpa using (show [w] = [_] from hR)
    have hti : i < ts.length := by omega
    have htr := c.t i ts[i] p (List.getElem?_eq_getElem hti) hpi
    have hb : b < h.next := AHeap.lt_of_alive h (by rw [hgb]; simp)
    have hgb1 : (h.push (.cells [.pointer none] .rw)).get b = _ := (q1.2 b hb).trans hgb
    have c3 : ¬ ps.length ≤ i := by omega
    simp only [go_sem, simprocAttr, decide_eq_false c1, hg1, decide_eq_false c3]
    have hle : off + i + 1 ≤ cc.length := (List.getElem?_eq_some_iff.1 hcc).1
    have hdt : (cc.drop (off + i)).take 1 = [.pointer (p.map fun id => ⟨id, 0, none⟩)] := by rw [drop_cons hcc]; rfl
    simp only [go_sem, simprocAttr, hg1, hA, hgb1, hle, hdt, hi]
    exact .inl ⟨⟨by omega, by omega⟩, ts[i], _, p, rfl, hpi, List.getElem?_eq_getElem hti, htr, rfl⟩
theorem add_p (hP : FoP own h id ps ts) (hp : ts ≠ []) {t : T} {p : Option Nat} (ht : TrAt (tg own 2) h t (.pointer (p.map fun id => ⟨id, 0, none⟩))) (hl : ts.length ≤ 1099511627776) : Does Try.prog 32 #[.pointer (some ⟨id, 0, none⟩), .pointer (p.map fun id => ⟨id, 0, none⟩)] h
    (fun u h' => u = .tuple #[.int .i64 ts.length, .int .i64 0] ∧ ∃ own', FoP own' h' id (ps ++ [p]) (ts ++ [t]) ∧ Kp own h own' h') := by
  have hlt := hP.fo.lt
  obtain ⟨h1, v, hg, hne, c⟩ := hP
  obtain ⟨a, cp, rfl⟩ := c.l.slz.shape
  have hlen := c.l.slz.len
  have hn := c.n
  obtain ⟨v', h', e, o', f, hnew, a2, n2, c2, rfl⟩ := c.l.app2 (y := p) (cs := [.pointer (p.map fun id => ⟨id, 0, none⟩)]) (bytes := 8) (fun e => e) 1 rfl (fun _ => rfl) (by omega) (by omega)
  have F : Fw (tg own 1) h h' := f.mono fun j _ e => (c.l.blkz e).1
  have hg' : h'.get id = _ := (f.2 id hlt hne).trans hg
  have hl' : id < h'.next := by have := F.1; omega
  have gs := fun o => AHeap.get_set_self h' o hl'
  have hlen2 := o'.slz.len
  have en : n2 = ps.length + 1 := by rw [hlen2.1]; simp
  subst en
  have e1 : IntKind.i64.wrap (((ps.length + 1 : Nat) : Int) - 1) = ts.length := by rw [wi64] <;> omega
  have hne' : blk (.slice a2 (ps.length + 1) c2) ≠ some id := by
    rcases hnew with hn | ⟨ob, hn, hge⟩
    · rw [hn]; exact hne
    · rw [hn]; intro e; cases e; omega
  refine spec_go mixed Try.func32 rfl Try.results32 (n := Try.f32.ntmps) (by kernel_rfl) (by simp) ?_
  simp only [go_sem, simprocAttr, hg, e, hg', gs, e1]
  refine ⟨bump own h 1, ⟨(bump_lt hlt).trans h1, _, gs _, hne', ⟨.inl ((o'.set hne' _).weaken fun _ => bump_up), by simp [hn], fun i t' p' h2 h3 => ?_⟩⟩, (Kp.fw (f := F)).trans (Kp.set ((bump_lt hlt).trans h1) _)⟩
  have mv : ∀ {t v}, TrAt (tg own 2) h t v → TrAt (tg (bump own h 1) 2) (h'.set id (.cells [.slice a2 (ps.length + 1) c2] .rw)) t v := fun {t v} ht => ht.mono fun j hj hl => ⟨bump_tg hj hl, (AHeap.get_set_ne _ _ (by rintro rfl; have : own id = 2 := hj; omega)).trans (F.2 j hl (fun e => by have h4 : own j = 2 := hj; have h5 : own j = 1 := e; omega))⟩
  by_cases hi : i < ts.length
  · rw [List.getElem?_append_left hi] at h2
    rw [List.getElem?_append_left (by omega)] at h3
    exact mv (c.t i t' p' h2 h3)
  · have : i = ts.length := by
      have := (List.getElem?_eq_some_iff.1 h2).1
      simp at this; omega
    subst this
    have e3 : t = t' := by simpa using h2
    have e4 : p = p' := by rw [← hn] at h3; simpa using h3
    subst e3; subst e4
    exact mv ht

theorem putF_p (ha : FoP own h id ps ts) (hp : ts ≠ []) (hok : okF ts) (hl : ts.length ≤ 1099511627776) {root : Int} {x : Ext} (hx : x.inI) : Does Try.prog 11 #[.pointer (some ⟨id, 0, none⟩), .int .i64 root, x.ag] h
    (fun u h' => u = .tuple #[.int .i64 (F.put ts root x).1.1, .int .i64 (F.put ts root x).1.2] ∧ ∃ own', Kp own h own' h' ∧ ((Has ts root ∧ x.ok ∧ ∃ (t : T) (pa p : Option Nat) (La : List Nat), ts[root.toNat]? = some t ∧ ps[root.toNat]? = some pa ∧ IdAt h' t (.pointer (pa.map fun id => ⟨id, 0, none⟩)) La ∧ FoP own' h' id (ps ++ [p]) (ts ++ [Tput t x]) ∧ FAt (· ∈ La) (tg own' 2) h' (FTput t.old x) (.pointer (p.map fun id => ⟨id, 0, none⟩))) ∨ (¬ (Has ts root ∧ x.ok) ∧ FoP own' h' id ps ts))) := by
  have q1 := AHeap.quiet.push h (.cells x.cs .rw)
  have g1 : (h.push (.cells x.cs .rw)).get h.next = .cells x.cs .rw := AHeap.get_push_self _ _
  have n1 : (h.push (.cells x.cs .rw)).next = h.next + 1 := by simp
  unfold Ext.cs at q1 g1 n1
  unfold F.put
  refine spec_go mixed Try.func11 rfl Try.results11 (n := Try.f11.ntmps) (by kernel_rfl) (by simp) ?_
  simp only [go_sem, simprocAttr, Ext.ag]
  generalize h.push (.cells [.int .i64 x.off, .int .i64 x.len, .int .i64 x.phys, .int .i64 x.birth] .rw) = h1 at q1 g1 n1 ⊢
  have ha1 := ha.quiet q1 2
  have kp1 := Kp.quiet (own := own) q1 2
  generalize bump own h 2 = ow at ha1 kp1
  refine cl_spec (find_p ha1 hp) (fun _ _ _ hc => absurd hc (by decide +kernel)) ?_
  rintro u k ⟨q, ⟨hh, t, p, pa, epa, hpa, hti, htr, rfl⟩ | ⟨hh, rfl⟩⟩
  · rw [if_pos hh]
    have htd : ts.getD root.toNat .nil = t := by rw [List.getD, hti]; rfl
    have hot := hok t (List.mem_of_getElem? hti)
    have gk := (q.2 h.next (by omega)).trans g1
    have gp : ∀ o, (k.push o).get h.next = _ := fun o => (AHeap.get_push_lt _ _ (by have := q.1; omega)).trans gk
    simp only [go_sem, simprocAttr, gp]
    refine cl_gen fun k1 e1 => ?_
    have q2 : k.quiet k1 := by rw [e1]; simp only [go_sem, simprocAttr]
    have g2 : k1.get k.next = .cells [.pointer p] .rw := by rw [e1]; simp only [go_sem, simprocAttr]
    have g3 : k1.get (k.next + 1) = .cells x.cs .rw := by rw [e1]; simp only [go_sem, simprocAttr, Ext.cs]
    have n2 : k1.next = k.next + 2 := by rw [e1]; simp
    clear e1
    have hsl : IsSl rExt (fun _ => True) k1 [x] (.slice (some ⟨k.next + 1, 0, none⟩) 1 1) := .fresh (css := [x.cs]) (.cons (rExt_iff.2 ⟨rfl, hx⟩) .nil) rfl (by decide) trivial g3 (by simp)
    refine cl_spec (Right_ok hsl) (fun _ _ _ hc => absurd hc (by decide +kernel)) ?_
    rintro u k2 ⟨⟨b, rfl, hb⟩, q3⟩
    have Q := q.trans (q2.trans q3)
    have hR : RightL [x] ↔ x.ok := ⟨fun e => e.2.1.1, fun e => ⟨by simp, ⟨e, by have := e; unfold Ext.ok at this; omega, trivial⟩, trivial⟩⟩
    have g2' := (q3.2 k.next (by omega)).trans g2
    have gx := (Q.2 h.next (by omega)).trans g1
    by_cases hox : x.ok
    · rw [if_pos hox, htd]
      obtain rfl : b = true := hb.2 (hR.2 hox)
      have hox' := hox
      unfold Ext.ok at hox'
      have e1 : IntKind.i64.wrap (x.off + x.len) = x.off + x.len := by rw [wi64] <;> omega
      simp only [go_sem, simprocAttr, g2', gx]
      have htk : TrAt (tg (bump ow h1 2) 2) k2 t (.pointer p) := htr.mono (fun j hj hl => quiet_other Q j hj hl)
      have hnk : New (tg (bump ow h1 2) 2) k2 := fun j hj => bump_ge (Nat.le_trans Q.1 hj)
      obtain ⟨ot, st⟩ := hot
      obtain ⟨La, iL, oL⟩ := htr.ids
      have hfk := FAt.old (O := (· ∈ La)) htk (iL.quiet Q) (fun j hj => hj)
      have es : t.old.size = t.size := by rw [← FT.er_size, T.old_er]
      have ot' : t.old.all Ext.ok := by rw [← FT.er_all, T.old_er]; exact ot
      have s1 := FT.split_size x.off t.old
      have s2 := FT.split_size (x.off + x.len) (FT.split x.off t.old).2
      obtain ⟨oa, ob⟩ := FT.split_all (o := x.off) ot'
      obtain ⟨oc, od⟩ := FT.split_all (o := x.off + x.len) ob
      refine cl_spec (split_f (o := x.off) (by omega) t.old hnk hfk ot' (by omega)) (fun _ _ _ hc => absurd hc (by decide +kernel)) ?_
      rintro u k3 ⟨w1, w2, rfl, t1, t2, q4⟩
      obtain ⟨pw1, rfl, _⟩ := t1.ptr
      have gx3 := (q4.2 h.next (by have := Q.1; omega)).trans gx
      simp only [go_sem, simprocAttr, gx3, e1]
      refine cl_spec (split_f (o := x.off + x.len) (by omega) _ (hnk.quiet q4) t2 ob (by omega)) (fun _ _ _ hc => absurd hc (by decide +kernel)) ?_
      rintro u k4 ⟨w3, w4, rfl, t3, t4, q5⟩
      obtain ⟨pw4, rfl, _⟩ := t4.ptr
      have gx4 := (q5.2 h.next (by have := Q.1; have := q4.1; omega)).trans gx3
      simp only [go_sem, simprocAttr, gx4]
      refine cl_spec (put_f (x := x) ((hnk.quiet q4).quiet q5) (t1.quiet q5) t4 oa od hox (by omega)) (fun _ _ _ hc => absurd hc (by decide +kernel)) ?_
      rintro u k5 ⟨t5, q6⟩
      obtain ⟨p5, rfl⟩ := t5.pm
      have Q6 := Q.trans (q4.trans (q5.trans q6))
      simp only [go_sem, simprocAttr]
      refine cl_spec (add_p (t := Tput t x) (ha1.quiet Q6 2) hp (by have := t5.tr; rw [show FT.put _ _ _ = FTput t.old x from rfl, FTput_er, T.old_er] at this; exact this) hl) (fun _ _ _ hc => absurd hc (by decide +kernel)) ?_
      rintro u k6 ⟨rfl, ow6, hf6, kp6⟩
      simp only [go_sem, simprocAttr]
      have KP := (Kp.quiet (own := ow) Q6 2).trans kp6
      subst epa
      exact ⟨ow6, kp1.trans KP, .inl ⟨hh, hox, t, pa, p5, La, hti, hpa, iL.keep (fun j hj => (KP.other (s := 2) (by decide) j (oL j hj) (iL.lt j hj)).2), hf6, (t5.mono fun j hj hl => by exact kp6.other (s := 2) (by decide) j hj hl)⟩⟩
    · rw [if_neg hox]
      obtain rfl : b = false := by cases b with | false => rfl | true => exact absurd (hR.1 (hb.1 rfl)) hox
      simp only [go_sem, simprocAttr]
      exact ⟨_, kp1.trans (Kp.quiet Q 2), .inr ⟨fun e => hox e.2, ha1.quiet Q 2⟩⟩
  · rw [if_neg hh]
    simp only [go_sem, simprocAttr]
    exact ⟨_, kp1.trans ((Kp.quiet q 2).trans (Kp.quiet (AHeap.quiet.push _ _) 2)), .inr ⟨fun e => hh e.1, (ha1.quiet q 2).quiet (AHeap.quiet.push _ _) 2⟩⟩
theorem cutF_p (ha : FoP own h id ps ts) (hp : ts ≠ []) (hok : okF ts) (hl : ts.length ≤ 1099511627776) {root o n : Int} (ho : inI o) (hn : inI n) : Does Try.prog 35 #[.pointer (some ⟨id, 0, none⟩), .int .i64 root, .int .i64 o, .int .i64 n] h
    (fun u h' => u = .tuple #[.int .i64 (F.cut ts root o n).1.1, .int .i64 (F.cut ts root o n).1.2] ∧ ∃ own', Kp own h own' h' ∧ ((Has ts root ∧ Blks o n ∧ ∃ (t : T) (pa p : Option Nat) (La : List Nat), ts[root.toNat]? = some t ∧ ps[root.toNat]? = some pa ∧ IdAt h' t (.pointer (pa.map fun id => ⟨id, 0, none⟩)) La ∧ FoP own' h' id (ps ++ [p]) (ts ++ [Tcut t o n]) ∧ FAt (· ∈ La) (tg own' 2) h' (FTcut t.old o n) (.pointer (p.map fun id => ⟨id, 0, none⟩))) ∨ (¬ (Has ts root ∧ Blks o n) ∧ FoP own' h' id ps ts))) := by
  unfold F.cut
  refine spec_go mixed Try.func35 rfl Try.results35 (n := Try.f35.ntmps) (by kernel_rfl) (by simp) ?_
  simp only [go_sem, simprocAttr]
  refine cl_spec (find_p ha hp) (fun _ _ _ hc => absurd hc (by decide +kernel)) ?_
  rintro u k ⟨q, ⟨hh, t, p, pa, epa, hpa, hti, htr, rfl⟩ | ⟨hh, rfl⟩⟩
  · rw [if_pos hh]
    have htd : ts.getD root.toNat .nil = t := by rw [List.getD, hti]; rfl
    have hot := hok t (List.mem_of_getElem? hti)
    simp only [go_sem, simprocAttr]
    refine cl_gen fun k1 e1 => ?_
    have q2 : k.quiet k1 := by rw [e1]; simp only [go_sem, simprocAttr]
    have g2 : k1.get k.next = .cells [.pointer p] .rw := by rw [e1]; simp only [go_sem, simprocAttr]
    have n2 : k1.next = k.next + 1 := by rw [e1]; simp
    clear e1
    refine cl_spec (Part_nil hn ho) (fun _ _ _ hc => absurd hc (by decide +kernel)) ?_
    rintro u k2 ⟨rfl, q3⟩
    have Q := q.trans (q2.trans q3)
    have g2' := (q3.2 k.next (by omega)).trans g2
    by_cases hox : Blks o n
    · rw [if_pos hox, if_pos hox, htd]
      have hox' := hox
      unfold Blks at hox'
      have e1 : IntKind.i64.wrap (o + n) = o + n := by rw [wi64] <;> omega
      simp only [go_sem, simprocAttr, g2']
      have htk : TrAt (tg (bump own h 2) 2) k2 t (.pointer p) := htr.mono (fun j hj hl => quiet_other Q j hj hl)
      have hnk : New (tg (bump own h 2) 2) k2 := fun j hj => bump_ge (Nat.le_trans Q.1 hj)
      obtain ⟨ot, st⟩ := hot
      obtain ⟨La, iL, oL⟩ := htr.ids
      have hfk := FAt.old (O := (· ∈ La)) htk (iL.quiet Q) (fun j hj => hj)
      have es : t.old.size = t.size := by rw [← FT.er_size, T.old_er]
      have ot' : t.old.all Ext.ok := by rw [← FT.er_all, T.old_er]; exact ot
      have s1 := FT.split_size o t.old
      have s2 := FT.split_size (o + n) (FT.split o t.old).2
      obtain ⟨oa, ob⟩ := FT.split_all (o := o) ot'
      obtain ⟨oc, od⟩ := FT.split_all (o := o + n) ob
      refine cl_spec (split_f (o := o) (by omega) t.old hnk hfk ot' (by omega)) (fun _ _ _ hc => absurd hc (by decide +kernel)) ?_
      rintro u k3 ⟨w1, w2, rfl, t1, t2, q4⟩
      obtain ⟨pw1, rfl, _⟩ := t1.ptr
      simp only [go_sem, simprocAttr, e1]
      refine cl_spec (split_f (o := o + n) (by omega) _ (hnk.quiet q4) t2 ob (by omega)) (fun _ _ _ hc => absurd hc (by decide +kernel)) ?_
      rintro u k4 ⟨w3, w4, rfl, t3, t4, q5⟩
      obtain ⟨pw4, rfl, _⟩ := t4.ptr
      simp only [go_sem, simprocAttr]
      refine cl_spec (both_f ((hnk.quiet q4).quiet q5) (t1.quiet q5) t4 (by omega)) (fun _ _ _ hc => absurd hc (by decide +kernel)) ?_
      rintro u k5 ⟨t5, q6⟩
      obtain ⟨p5, rfl⟩ := t5.pm
      have Q6 := Q.trans (q4.trans (q5.trans q6))
      simp only [go_sem, simprocAttr]
      refine cl_spec (add_p (t := Tcut t o n) (ha.quiet Q6 2) hp (by have := t5.tr; rw [show FT.both _ _ = FTcut t.old o n from rfl, FTcut_er, T.old_er] at this; exact this) hl) (fun _ _ _ hc => absurd hc (by decide +kernel)) ?_
      rintro u k6 ⟨rfl, ow6, hf6, kp6⟩
      simp only [go_sem, simprocAttr]
      have KP := (Kp.quiet (own := own) Q6 2).trans kp6
      subst epa
      exact ⟨ow6, KP, .inl ⟨hh, hox, t, pa, p5, La, hti, hpa, iL.keep (fun j hj => (KP.other (s := 2) (by decide) j (oL j hj) (iL.lt j hj)).2), hf6, (t5.mono fun j hj hl => by exact kp6.other (s := 2) (by decide) j hj hl)⟩⟩
    · rw [if_neg hox, if_neg hox]
      simp only [go_sem, simprocAttr]
      exact ⟨_, Kp.quiet Q 2, .inr ⟨fun e => hox e.2, ha.quiet Q 2⟩⟩
  · rw [if_neg hh]
    simp only [go_sem, simprocAttr]
    exact ⟨_, (Kp.quiet q 2).trans (Kp.quiet (AHeap.quiet.push _ _) 2), .inr ⟨fun e => hh e.1, (ha.quiet q 2).quiet (AHeap.quiet.push _ _) 2⟩⟩
theorem does_p (ha : FoP own h id ps ts) (g : GF ts) (hl : ts.length ≤ 1000000) {a : Act} (hk : a.kind ≤ 255) (hr : inI a.root) (hx : a.x.inI) : Does Try.prog 16 #[.pointer (some ⟨id, 0, none⟩), .agg a.cs.toArray] h
    (fun u h' => u = .tuple #[.int .i64 (F.does ts a).1.1, .int .i64 (F.does ts a).1.2] ∧ ∃ own', Kp own h own' h' ∧ (((F.does ts a).1.2 = 0 ∧ Has ts a.root ∧ ∃ (t : T) (pa p : Option Nat) (La : List Nat) (f : FT), ts[a.root.toNat]? = some t ∧ ps[a.root.toNat]? = some pa ∧ IdAt h' t (.pointer (pa.map fun id => ⟨id, 0, none⟩)) La ∧ FoP own' h' id (ps ++ [p]) (ts ++ [f.er]) ∧ (F.does ts a) = ((((ts.length : Nat) : Int), (0 : Int)), ts ++ [f.er]) ∧ FAt (· ∈ La) (tg own' 2) h' f (.pointer (p.map fun id => ⟨id, 0, none⟩)) ∧ f.fresh ≤ 16 * (t.depth + f.depth + 2)) ∨ ((F.does ts a).1.2 ≠ 0 ∧ (F.does ts a).2 = ts ∧ FoP own' h' id ps ts))) := by
  have tm : Int.tmod (a.kind : Int) 2 = ((a.kind % 2 : Nat) : Int) := rfl
  refine spec_go mixed Try.func16 rfl Try.results16 (n := Try.f16.ntmps) (by kernel_rfl) (by simp) ?_
  simp only [go_sem, simprocAttr, Act.cs]
  refine cnd_gen fun k1 e1 => ?_
  have q1 : h.quiet k1 := by rw [e1]; simp only [go_sem, simprocAttr]
  have g1 : k1.get h.next = .cells a.cs .rw := by rw [e1]; simp only [go_sem, simprocAttr, Act.cs]
  clear e1
  unfold Act.cs at g1
  have ha1 := ha.quiet q1 0
  have kp1 := Kp.quiet (own := own) q1 0
  unfold F.does
  refine cnd_decide (fun c => ?_) (fun c => ?_)
  · rw [if_pos (by omega)]
    simp only [go_sem, simprocAttr, g1]
    have hp := putF_p ha1 g.1 g.ok (by omega) (root := a.root) hx
    unfold Ext.ag at hp
    refine cl_spec hp (fun _ _ _ hc => absurd hc (by decide +kernel)) ?_
    rintro u k ⟨rfl, ow, kp, ⟨hh, hox, t, pa, p, La, hti, hpa, iL, fp, fa⟩ | ⟨hn, fp⟩⟩
    · have htd : ts.getD a.root.toNat .nil = t := by rw [List.getD, hti]; rfl
      have gt := g.2 t (List.mem_of_getElem? hti)
      have ef : (FTput t.old a.x).er = Tput t a.x := by rw [FTput_er, T.old_er]
      have hb : t.old.bal := by unfold FT.bal; rw [T.old_er]; exact gt.2
      have eF : F.put ts a.root a.x = ((((ts.length : Nat) : Int), (0 : Int)), ts ++ [(FTput t.old a.x).er]) := by simp only [F.put, if_pos hh, if_pos hox, htd, ef]
      have fr := FTput_fresh (t := t.old) (x := a.x) hb t.old_fresh
      rw [show t.old.depth = t.depth by rw [← FT.er_depth, T.old_er]] at fr
      simp only [go_sem, simprocAttr]
      exact ⟨ow, kp1.trans kp, .inl ⟨by rw [eF], hh, t, pa, p, La, _, hti, hpa, iL, by rw [ef]; exact fp, eF, fa, fr⟩⟩
    · have eF : (F.put ts a.root a.x).1.2 ≠ 0 ∧ (F.put ts a.root a.x).2 = ts := by
        unfold F.put
        split
        · rename_i n1
          split
          · rename_i n2
            exact absurd ⟨n1, n2⟩ hn
          · exact ⟨by simp, rfl⟩
        · exact ⟨by simp, rfl⟩
      simp only [go_sem, simprocAttr]
      exact ⟨ow, kp1.trans kp, .inr ⟨eF.1, eF.2, fp⟩⟩
  · rw [if_neg (by omega)]
    simp only [go_sem, simprocAttr, g1]
    refine cl_spec (cutF_p ha1 g.1 g.ok (by omega) (root := a.root) hx.1 hx.2.1) (fun _ _ _ hc => absurd hc (by decide +kernel)) ?_
    rintro u k ⟨rfl, ow, kp, ⟨hh, hox, t, pa, p, La, hti, hpa, iL, fp, fa⟩ | ⟨hn, fp⟩⟩
    · have htd : ts.getD a.root.toNat .nil = t := by rw [List.getD, hti]; rfl
      have gt := g.2 t (List.mem_of_getElem? hti)
      have ef : (FTcut t.old a.x.off a.x.len).er = Tcut t a.x.off a.x.len := by rw [FTcut_er, T.old_er]
      have hb : t.old.bal := by unfold FT.bal; rw [T.old_er]; exact gt.2
      have eF : F.cut ts a.root a.x.off a.x.len = ((((ts.length : Nat) : Int), (0 : Int)), ts ++ [(FTcut t.old a.x.off a.x.len).er]) := by simp only [F.cut, if_pos hh, if_pos hox, htd, ef]
      have fr := FTcut_fresh (t := t.old) (o := a.x.off) (n := a.x.len) hb t.old_fresh
      rw [show t.old.depth = t.depth by rw [← FT.er_depth, T.old_er]] at fr
      simp only [go_sem, simprocAttr]
      exact ⟨ow, kp1.trans kp, .inl ⟨by rw [eF], hh, t, pa, p, La, _, hti, hpa, iL, by rw [ef]; exact fp, eF, fa, fr⟩⟩
    · have eF : (F.cut ts a.root a.x.off a.x.len).1.2 ≠ 0 ∧ (F.cut ts a.root a.x.off a.x.len).2 = ts := by
        unfold F.cut
        split
        · rename_i n1
          split
          · rename_i n2
            exact absurd ⟨n1, n2⟩ hn
          · exact ⟨by simp, rfl⟩
        · exact ⟨by simp, rfl⟩
      simp only [go_sem, simprocAttr]
      exact ⟨ow, kp1.trans kp, .inr ⟨eF.1, eF.2, fp⟩⟩
end
end Go.Proofs.Ytfdbadpiklmbaaa
