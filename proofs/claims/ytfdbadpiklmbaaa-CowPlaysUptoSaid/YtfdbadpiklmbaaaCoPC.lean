/- cow: the document's forest. -/
import Derived.Test.YtfdbadpiklmbaaaCoPB
set_option linter.unusedSimpArgs false
set_option linter.unusedVariables false
set_option linter.unnecessarySimpa false
set_option maxRecDepth 100000
namespace Go.Proofs.Ytfdbadpiklmbaaa
open Go.AM

theorem rV_plain {S : Nat → Prop} {k k' : AHeap} {x : Value} {c : List Value} (e : rV.R S k x c) : rV.R (fun _ => False) k' x c := e
/-- The document's forest: a list of lists. -/
def RfAt (own : Nat → Nat) (h : AHeap) (id : Nat) (ls : List (List Ext)) : Prop :=
  own id = 5 ∧ ∃ lv vs, h.get id = .cells [lv] .rw ∧ IsSl rV (tg own 4) h vs lv ∧ vs.length = ls.length ∧ ∀ (i : Nat) (l : List Ext) (v : Value), ls[i]? = some l → vs[i]? = some v → IsSl rExt (tg own 3) h l v
/-- What is none of the document's forest's own stays. -/
def Kq (own : Nat → Nat) (h : AHeap) (own' : Nat → Nat) (h' : AHeap) : Prop := h.next ≤ h'.next ∧ ∀ j, j < h.next → own' j = own j ∧ (own j ≠ 5 → h'.get j = h.get j)
section
variable {own own' own'' : Nat → Nat} {h h' h'' h0 : AHeap} {S S' Z : Nat → Prop} {id : Nat} {ts : List T} {v lv : Value} {vs : List Value} {ls : List (List Ext)}
theorem Kq.trans (a : Kq own h own' h') (b : Kq own' h' own'' h'') : Kq own h own'' h'' :=
  ⟨Nat.le_trans a.1 b.1, fun j hj => ⟨((b.2 j (Nat.lt_of_lt_of_le hj a.1)).1).trans (a.2 j hj).1, fun e => ((b.2 j (Nat.lt_of_lt_of_le hj a.1)).2 (fun e2 => e ((a.2 j hj).1.symm.trans e2))).trans ((a.2 j hj).2 e)⟩⟩
theorem Kq.quiet (q : h.quiet h') (t : Nat) : Kq own h (bump own h t) h' := ⟨q.1, fun j hj => ⟨bump_lt hj, fun _ => q.2 j hj⟩⟩
theorem Kq.set (ho : own id = 5) (o : AObj) : Kq own h own (h.set id o) := ⟨by simp, fun j _ => ⟨rfl, fun e => AHeap.get_set_ne _ _ (by rintro rfl; exact e ho)⟩⟩
theorem Kq.other (k : Kq own h own' h') {s : Nat} (hs : s ≠ 5) : ∀ j, tg own s j → j < h.next → tg own' s j ∧ h'.get j = h.get j :=
  fun j hj hl => ⟨(k.2 j hl).1.trans hj, (k.2 j hl).2 (fun e => hs (hj.symm.trans e))⟩
theorem RfAt.lt (ha : RfAt own h id ls) : id < h.next := by obtain ⟨_, v, ps, hg, _⟩ := ha; exact AHeap.lt_of_alive h (by rw [hg]; simp)
theorem RfAt.mono (ha : RfAt own h id ls) (hm : ∀ t, t = 3 ∨ t = 4 ∨ t = 5 → ∀ j, tg own t j → j < h.next → tg own' t j ∧ h'.get j = h.get j) : RfAt own' h' id ls := by
  have hlt := ha.lt
  obtain ⟨h5, lv, vs, hg, hv, hn, hl⟩ := ha
  exact ⟨(hm 5 (by omega) id h5 hlt).1, lv, vs, (hm 5 (by omega) id h5 hlt).2.trans hg, hv.mono (hm 4 (by omega)), hn, fun i l v h1 h2 => (hl i l v h1 h2).mono (hm 3 (by omega))⟩
theorem RfAt.quiet (ha : RfAt own h id ls) (q : h.quiet h') (t : Nat) : RfAt (bump own h t) h' id ls := ha.mono fun _ _ => quiet_other q
theorem RfAt.kp (ha : RfAt own h id ls) (k : Kp own h own' h') : RfAt own' h' id ls := ha.mono fun t ht => k.other (by omega)
theorem FoAt.kq (ha : FoAt own h id ts) (k : Kq own h own' h') : FoAt own' h' id ts := ha.mono k.1 fun t ht => k.other (by omega)
def HasL (ls : List (List Ext)) (root : Int) : Prop := 0 ≤ root ∧ root < ls.length
instance (ls : List (List Ext)) (root : Int) : Decidable (HasL ls root) := inferInstanceAs (Decidable (_ ∧ _))
theorem rHas_ok (ha : RfAt own h id ls) {root : Int} : Does Try.prog 27 #[.pointer (some ⟨id, 0, none⟩), .int .i64 root] h (fun u h' => u = .bool (decide (HasL ls root)) ∧ h' = h) := by
  obtain ⟨h5, lv, vs, hg, hv, hn, hl⟩ := ha
  obtain ⟨a, c, rfl⟩ := hv.shape
  refine spec_go mixed Try.func27 rfl Try.results27 (n := Try.f27.ntmps) (by kernel_rfl) (by simp) ?_
  by_cases c1 : 0 ≤ root
  · by_cases c2 : root < vs.length
    · simp only [go_sem, simprocAttr, decide_eq_true c1, hg, decide_eq_true c2]
      exact congrArg Value.bool (decide_eq_true ⟨c1, by omega⟩).symm
    · simp only [go_sem, simprocAttr, decide_eq_true c1, hg, decide_eq_false c2]
      exact congrArg Value.bool (decide_eq_false (fun e => c2 (by have := e.2; omega))).symm
  · simp only [go_sem, simprocAttr, decide_eq_false c1]
    exact congrArg Value.bool (decide_eq_false (fun e => c1 e.1)).symm
theorem rNewF_ok : Does Try.prog 20 #[] h (fun u h' => ∃ b, u = .agg #[.slice (some ⟨b, 0, none⟩) 1 1] ∧ h.next ≤ b ∧ h'.get b = .cells [.slice none 0 0] .rw ∧ h.quiet h') := by
  refine spec_go mixed Try.func20 rfl Try.results20 (n := Try.f20.ntmps) (by kernel_rfl) (by simp) ?_
  simp only [go_sem, simprocAttr]
  exact ⟨h.next + 1, rfl, by omega, by simp only [go_sem, simprocAttr]⟩
theorem adds_ok (ha : RfAt own h id ls) {l : List Ext} (hl : IsSl rExt (tg own 3) h l v) (hn : ls.length ≤ 1000000) : Does Try.prog 60 #[.pointer (some ⟨id, 0, none⟩), v, .int .i64 0] h
    (fun u h' => u = .tuple #[.int .i64 ls.length, .int .i64 0] ∧ ∃ own', RfAt own' h' id (ls ++ [l]) ∧ Kq own h own' h') := by
  have hlt := ha.lt
  obtain ⟨h5, lv, vs, hg, hv, hvn, hle⟩ := ha
  obtain ⟨a, c, rfl⟩ := hv.shape
  obtain ⟨av, cv, rfl⟩ := hl.shape
  have hvl := hv.len
  obtain ⟨css, ec, lc⟩ := hv.acells 1 rfl
  obtain ⟨w0, k0, e0, L0, f0, n0⟩ := (Lst.nil rV 0 (fun _ => False) h).app (ys := vs) (css' := css) 1 rfl (bytes := 24) (n := vs.length) (lc.mono fun _ _ _ _ e => rV.weaken (rV_plain e) fun _ e => e.elim) rfl (by simp; omega) (by simp; omega) (Nat.zero_le _)
  rw [List.nil_append] at L0
  have Q0 : h.quiet k0 := f0.quiet (fun j _ e => by cases e)
  have o0 : OwnL rV (h.next ≤ ·) k0 vs w0 := ⟨L0, fun j hj => by
    rcases n0 with n0 | ⟨ob, n0, hge⟩
    · rw [n0] at hj; cases hj
    · rw [n0] at hj; cases hj; exact hge⟩
  obtain ⟨a0, c0, rfl⟩ := o0.sl.shape
  obtain ⟨w1, k1, e1, o1, f1, _, a1, n1, c1, rfl⟩ := o0.app2 (bytes := 24) (y := .slice av l.length cv) (cs := [.slice av l.length cv]) 1 rfl (fun _ => ⟨rfl, _, _, _, rfl⟩) (by omega) (by omega)
  have Q1 : h.quiet k1 := Fw.behind Q0 f1 (fun j e => o0.2 j e)
  have hg1 := (Q1.2 id hlt).trans hg
  have hl1 : id < k1.next := by have := Q1.1; omega
  have gs := fun o => AHeap.get_set_self k1 o hl1
  have hn1 := o1.sl.len
  have en : n1 = vs.length + 1 := by rw [hn1.1]; simp
  subst en
  have ew : IntKind.i64.wrap (((vs.length + 1 : Nat) : Int) - 1) = ls.length := by rw [wi64] <;> omega
  refine spec_go mixed Try.func60 rfl Try.results60 (n := Try.f60.ntmps) (by kernel_rfl) (by simp) ?_
  simp only [go_sem, simprocAttr, hg, ec, lc.ones, e0, e1, hg1, gs, ew]
  refine ⟨bump own h 4, ⟨(bump_lt hlt).trans h5, _, vs ++ [.slice av l.length cv], gs _, ?_, by simp [hvn], fun i l' v' h1 h2 => ?_⟩, (Kq.quiet Q1 4).trans (.set ((bump_lt hlt).trans h5) _)⟩
  · have ob : blk (.slice a1 (vs.length + 1) c1) ≠ some id := fun e => by
      have := o1.2 id e
      rcases this with e | e
      · omega
      · have := Q0.1; omega
    exact (o1.set ob _).slz.mono fun j hj hl => ⟨bump_ge (by rcases hj with e | e; exact e; exact Nat.le_trans Q0.1 e), rfl⟩
  · have mv : ∀ {l v}, IsSl rExt (tg own 3) h l v → IsSl rExt (tg (bump own h 4) 3) (k1.set id (.cells [.slice a1 (vs.length + 1) c1] .rw)) l v := fun {l v} hl => hl.mono fun j hj hlj => ⟨bump_tg hj hlj, (AHeap.get_set_ne _ _ (by rintro rfl; have : own id = 3 := hj; omega)).trans (Q1.2 j hlj)⟩
    by_cases hi : i < ls.length
    · rw [List.getElem?_append_left hi] at h1
      rw [List.getElem?_append_left (by omega)] at h2
      exact mv (hle i l' v' h1 h2)
    · have : i = ls.length := by
        have := (List.getElem?_eq_some_iff.1 h1).1
        simp at this; omega
      subst this
      have e3 : l = l' := by simpa using h1
      have e4 : Value.slice av l.length cv = v' := by rw [← hvn] at h2; simpa using h2
      subst e3; subst e4
      exact mv hl
theorem addsE_ok {e : Int} (he : e ≠ 0) : Does Try.prog 60 #[.pointer (some ⟨id, 0, none⟩), v, .int .i64 e] h (fun u h' => u = .tuple #[.int .i64 0, .int .i64 e] ∧ h' = h) := by
  have he' : (e = 0) = False := eq_false he
  refine spec_go mixed Try.func60 rfl Try.results60 (n := Try.f60.ntmps) (by kernel_rfl) (by simp) ?_
  simp only [go_sem, simprocAttr, he']
theorem hasL_iff {root : Int} : HasL (ts.map T.list) root ↔ Has ts root := by unfold HasL Has; rw [List.length_map]
theorem rputF_ok (ha : RfAt own h id (ts.map T.list)) (g : GF ts) (hl : ts.length ≤ 1000000) {root : Int} {x : Ext} (hx : x.inI) : Does Try.prog 39 #[.pointer (some ⟨id, 0, none⟩), .int .i64 root, x.ag] h
    (fun u h' => u = .tuple #[.int .i64 (F.put ts root x).1.1, .int .i64 (F.put ts root x).1.2] ∧ ∃ own', RfAt own' h' id ((F.put ts root x).2.map T.list) ∧ Kq own h own' h') := by
  have q1 := AHeap.quiet.push h (.cells x.cs .rw)
  have g1 : (h.push (.cells x.cs .rw)).get h.next = .cells x.cs .rw := AHeap.get_push_self _ _
  unfold Ext.cs at q1 g1
  have n1 : (h.push (.cells [.int .i64 x.off, .int .i64 x.len, .int .i64 x.phys, .int .i64 x.birth] .rw)).next = h.next + 1 := by simp
  unfold F.put
  refine spec_go mixed Try.func39 rfl Try.results39 (n := Try.f39.ntmps) (by kernel_rfl) (by simp) ?_
  simp only [go_sem, simprocAttr, Ext.ag]
  generalize h.push (.cells [.int .i64 x.off, .int .i64 x.len, .int .i64 x.phys, .int .i64 x.birth] .rw) = h1 at q1 g1 n1 ⊢
  have ha1 := ha.quiet q1 0
  have kp1 := Kq.quiet (own := own) q1 0
  generalize bump own h 0 = ow at ha1 kp1
  refine cl_spec (rHas_ok ha1) (fun _ _ _ hc => absurd hc (by decide +kernel)) ?_
  rintro u k ⟨rfl, hk⟩
  obtain rfl : h1 = k := hk.symm
  by_cases hh : Has ts root
  · rw [if_pos hh]
    have hh2 : HasL (ts.map T.list) root := hasL_iff.2 hh
    have hh' := hh
    unfold Has at hh'
    obtain ⟨r, rfl⟩ := Int.eq_ofNat_of_zero_le hh'.1
    have hr : r < ts.length := by omega
    have hti : ts[r]? = some ts[r] := List.getElem?_eq_getElem hr
    have gt := g.2 _ (List.mem_of_getElem? hti)
    have htd : ts.getD r .nil = ts[r] := by rw [List.getD, hti]; rfl
    have ha1' := ha1
    obtain ⟨h5, lv, vs, hg, hv, hvn, hle⟩ := ha1'
    obtain ⟨a, c, rfl⟩ := hv.shape
    rw [List.length_map] at hvn
    have hrv : r < vs.length := by omega
    obtain ⟨b8, off8, sp8, cc8, md8, w8, x8, hA8, _, hg8, hx8, ⟨hR8, _⟩, hcc8⟩ := hv.at1 rfl hrv
    obtain rfl : w8 = x8 := by simpa using hR8
    have hsl := hle r ts[r].list w8 (by rw [List.getElem?_map, hti]; rfl) hx8
    simp only [go_sem, simprocAttr, decide_eq_true hh2, hg, hA8, hg8, hcc8, hrv, g1]
    have hp := rPut_ok hsl gt.1 hx
    unfold Ext.ag at hp
    refine cl_spec hp (fun _ _ _ hc => absurd hc (by decide +kernel)) ?_
    rintro u k ⟨w, rfl, ho, hno, q⟩
    by_cases hox : x.ok
    · rw [if_pos hox, if_pos hox]
      have hoL := ho hox
      obtain ⟨_, e4⟩ := Tput_good gt hox
      simp only [go_sem, simprocAttr]
      have hf2 := ha1.quiet q 3
      have hsl2 : IsSl rExt (tg (bump ow h1 3) 3) k (putL ts[r].list x) w := hoL.slz.mono fun j hj _ => ⟨bump_ge hj, rfl⟩
      refine cl_spec (adds_ok hf2 hsl2 (by rw [List.length_map]; exact hl)) (fun _ _ _ hc => absurd hc (by decide +kernel)) ?_
      rintro u k2 ⟨rfl, ow2, hf3, kq⟩
      simp only [go_sem, simprocAttr, List.length_map]
      refine ⟨ow2, ?_, kp1.trans ((Kq.quiet q 3).trans kq)⟩
      rw [htd, List.map_append, List.map_cons, List.map_nil, e4]; exact hf3
    · rw [if_neg hox, if_neg hox]
      simp only [go_sem, simprocAttr]
      refine cl_spec (addsE_ok (by decide)) (fun _ _ _ hc => absurd hc (by decide +kernel)) ?_
      rintro u k2 ⟨rfl, hk⟩
      obtain rfl : k = k2 := hk.symm
      simp only [go_sem, simprocAttr]
      exact ⟨_, ha1.quiet q 0, kp1.trans (Kq.quiet q 0)⟩
  · rw [if_neg hh]
    have hh2 : ¬ HasL (ts.map T.list) root := fun e => hh (hasL_iff.1 e)
    simp only [go_sem, simprocAttr, decide_eq_false hh2]
    exact ⟨ow, ha1, kp1⟩
theorem rcutF_ok (ha : RfAt own h id (ts.map T.list)) (g : GF ts) (hl : ts.length ≤ 1000000) {root o n : Int} (ho : inI o) (hn : inI n) : Does Try.prog 40 #[.pointer (some ⟨id, 0, none⟩), .int .i64 root, .int .i64 o, .int .i64 n] h
    (fun u h' => u = .tuple #[.int .i64 (F.cut ts root o n).1.1, .int .i64 (F.cut ts root o n).1.2] ∧ ∃ own', RfAt own' h' id ((F.cut ts root o n).2.map T.list) ∧ Kq own h own' h') := by
  unfold F.cut
  refine spec_go mixed Try.func40 rfl Try.results40 (n := Try.f40.ntmps) (by kernel_rfl) (by simp) ?_
  simp only [go_sem, simprocAttr]
  refine cl_spec (rHas_ok ha) (fun _ _ _ hc => absurd hc (by decide +kernel)) ?_
  rintro u k ⟨rfl, hk⟩
  obtain rfl : h = k := hk.symm
  by_cases hh : Has ts root
  · rw [if_pos hh]
    have hh2 : HasL (ts.map T.list) root := hasL_iff.2 hh
    have hh' := hh
    unfold Has at hh'
    obtain ⟨r, rfl⟩ := Int.eq_ofNat_of_zero_le hh'.1
    have hr : r < ts.length := by omega
    have hti : ts[r]? = some ts[r] := List.getElem?_eq_getElem hr
    have gt := g.2 _ (List.mem_of_getElem? hti)
    have htd : ts.getD r .nil = ts[r] := by rw [List.getD, hti]; rfl
    have ha1' := ha
    obtain ⟨h5, lv, vs, hg, hv, hvn, hle⟩ := ha1'
    obtain ⟨a, c, rfl⟩ := hv.shape
    rw [List.length_map] at hvn
    have hrv : r < vs.length := by omega
    obtain ⟨b8, off8, sp8, cc8, md8, w8, x8, hA8, _, hg8, hx8, ⟨hR8, _⟩, hcc8⟩ := hv.at1 rfl hrv
    obtain rfl : w8 = x8 := by simpa using hR8
    have hsl := hle r ts[r].list w8 (by rw [List.getElem?_map, hti]; rfl) hx8
    simp only [go_sem, simprocAttr, decide_eq_true hh2, hg, hA8, hg8, hcc8, hrv]
    refine cl_spec (rCut_ok hsl gt.1 ho hn) (fun _ _ _ hc => absurd hc (by decide +kernel)) ?_
    rintro u k ⟨w, rfl, ho', hno, q⟩
    by_cases hox : Blks o n
    · rw [if_pos hox, if_pos hox]
      have hoL := ho' hox
      obtain ⟨_, e4⟩ := Tcut_good gt hox
      simp only [go_sem, simprocAttr]
      have hf2 := ha.quiet q 3
      have hsl2 : IsSl rExt (tg (bump own h 3) 3) k (cutL ts[r].list o n) w := hoL.slz.mono fun j hj _ => ⟨bump_ge hj, rfl⟩
      refine cl_spec (adds_ok hf2 hsl2 (by rw [List.length_map]; exact hl)) (fun _ _ _ hc => absurd hc (by decide +kernel)) ?_
      rintro u k2 ⟨rfl, ow2, hf3, kq⟩
      simp only [go_sem, simprocAttr, List.length_map]
      refine ⟨ow2, ?_, (Kq.quiet q 3).trans kq⟩
      rw [htd, List.map_append, List.map_cons, List.map_nil, e4]; exact hf3
    · rw [if_neg hox, if_neg hox]
      simp only [go_sem, simprocAttr]
      refine cl_spec (addsE_ok (by decide)) (fun _ _ _ hc => absurd hc (by decide +kernel)) ?_
      rintro u k2 ⟨rfl, hk⟩
      obtain rfl : k = k2 := hk.symm
      simp only [go_sem, simprocAttr]
      exact ⟨_, ha.quiet q 0, Kq.quiet q 0⟩
  · rw [if_neg hh]
    have hh2 : ¬ HasL (ts.map T.list) root := fun e => hh (hasL_iff.1 e)
    simp only [go_sem, simprocAttr, decide_eq_false hh2]
    exact ⟨own, ha, Nat.le_refl _, fun _ _ => ⟨rfl, fun _ => rfl⟩⟩
theorem would_ok (ha : RfAt own h id (ts.map T.list)) (g : GF ts) (hl : ts.length ≤ 1000000) {a : Act} (hx : a.x.inI) : Does Try.prog 21 #[.pointer (some ⟨id, 0, none⟩), .agg a.cs.toArray] h
    (fun u h' => u = .tuple #[.int .i64 (F.does ts a).1.1, .int .i64 (F.does ts a).1.2] ∧ ∃ own', RfAt own' h' id ((F.does ts a).2.map T.list) ∧ Kq own h own' h') := by
  have tm : Int.tmod (a.kind : Int) 2 = ((a.kind % 2 : Nat) : Int) := rfl
  refine spec_go mixed Try.func21 rfl Try.results21 (n := Try.f21.ntmps) (by kernel_rfl) (by simp) ?_
  simp only [go_sem, simprocAttr, Act.cs]
  refine cnd_gen fun k1 e1 => ?_
  have q1 : h.quiet k1 := by rw [e1]; simp only [go_sem, simprocAttr]
  have g1 : k1.get h.next = .cells a.cs .rw := by rw [e1]; simp only [go_sem, simprocAttr, Act.cs]
  clear e1
  unfold Act.cs at g1
  have ha1 := ha.quiet q1 0
  have kp1 := Kq.quiet (own := own) q1 0
  unfold F.does
  refine cnd_decide (fun c => ?_) (fun c => ?_)
  · rw [if_pos (by omega)]
    simp only [go_sem, simprocAttr, g1]
    have hp := rputF_ok ha1 g hl (root := a.root) hx
    unfold Ext.ag at hp
    refine cl_spec hp (fun _ _ _ hc => absurd hc (by decide +kernel)) ?_
    rintro u k ⟨rfl, ow, hf, kp⟩
    simp only [go_sem, simprocAttr]
    exact ⟨ow, hf, kp1.trans kp⟩
  · rw [if_neg (by omega)]
    simp only [go_sem, simprocAttr, g1]
    refine cl_spec (rcutF_ok ha1 g hl (root := a.root) hx.1 hx.2.1) (fun _ _ _ hc => absurd hc (by decide +kernel)) ?_
    rintro u k ⟨rfl, ow, hf, kp⟩
    simp only [go_sem, simprocAttr]
    exact ⟨ow, hf, kp1.trans kp⟩
end
end Go.Proofs.Ytfdbadpiklmbaaa
