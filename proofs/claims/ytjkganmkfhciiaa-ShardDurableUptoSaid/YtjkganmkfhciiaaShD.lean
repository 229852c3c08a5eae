/- shard: what is read of a shard; what is done to it. -/
import Derived.Test.YtjkganmkfhciiaaShP
set_option linter.unusedSimpArgs false
set_option linter.unusedVariables false
set_option linter.unnecessarySimpa false
set_option maxRecDepth 100000
namespace Go.Proofs.Ytjkganmkfhciiaa
open Go.AM

/-- What is read of a volume. -/
def readL (v : List Nat) (off n : Int) : List Nat × Int := if 1024 < v.length then ([], 6) else if ¬ (0 ≤ off ∧ 0 ≤ n ∧ n ≤ v.length ∧ off ≤ v.length - n) then ([], 1) else ((v.drop off.toNat).take n.toNat, 0)
theorem lst_words {h h' : AHeap} {xs : List Nat} {v : Value} (hl : Lst rW h.next (fun _ => False) h' xs v) : Words (h.next ≤ ·) h' xs v := hl.isSl (fun _ e _ => e.elim) (fun _ e => e)
section
variable {own own' own'' : Nat → Nat} {h h' h'' : AHeap} {S : Nat → Prop} {m : Sm} {id : Nat} {v : Value} {b : Nat}
theorem bread_ok {ws : List Nat} (hv : Words S h ws v) {off n : Int} (h1 : inJ off) (h2 : inJ n) : Does Try.prog 30 #[v, .int .i64 off, .int .i64 n] h
    (fun u h' => ∃ w, u = .tuple #[w, .int .i64 (readL ws off n).2] ∧ Words (h.next ≤ ·) h' (readL ws off n).1 w ∧ h.quiet h') := by
  obtain ⟨a, c, rfl⟩ := hv.shape
  have hl := hv.len
  unfold readL
  refine spec_go mixed Try.func30 rfl Try.results30 (n := Try.f30.ntmps) (by kernel_rfl) (by simp) ?_
  simp only [go_sem, simprocAttr]
  by_cases c1 : 1024 < ws.length
  · have c1' : (1024 : Int) < ws.length := by omega
    simp only [go_sem, simprocAttr, c1', c1, decide_true, if_true]
    exact ⟨_, rfl, .nil _ _ _⟩
  · have c1' : ¬ (1024 : Int) < ws.length := by omega
    simp only [go_sem, simprocAttr, c1', c1, decide_false, if_false]
    refine cl_spec (lies_ok (by unfold inJ; omega) h1 h2) (fun _ _ _ hc => absurd hc (by decide +kernel)) ?_
    rintro u k ⟨rfl, rfl⟩
    by_cases c2 : 0 ≤ off ∧ 0 ≤ n ∧ n ≤ ws.length ∧ off ≤ ws.length - n
    · have e1 : IntKind.i64.wrap (off + n) = off + n := by rw [wi64] <;> omega
      obtain ⟨a', cap', es, hs⟩ := hv.sliceI 1 rfl (l := off) (m := off + n) c2.1 (by omega) (by omega)
      simp only [go_sem, simprocAttr, decide_eq_true c2, e1, if_neg (Decidable.not_not.2 c2), es]
      have en : (off + n).toNat - off.toNat = n.toNat := by omega
      rw [en] at hs ⊢
      refine cl_spec (cloneW_ok hs (by have := hs.len; omega)) (fun _ _ _ hc => absurd hc (by decide +kernel)) ?_
      rintro u k1 ⟨q1, l1⟩
      obtain ⟨au, cu, rfl, _⟩ := l1.len
      simp only [go_sem, simprocAttr]
      exact ⟨_, rfl, lst_words l1, q1⟩
    · simp only [go_sem, simprocAttr, decide_eq_false c2, if_pos c2]
      exact ⟨_, rfl, .nil _ _ _⟩
theorem wv_words {vs : List Nat} {j : Nat} {n : Nat} (hn : vs.length = n) (hl : n ≤ 1024) (hb : ∀ x ∈ vs, (x : Int) ≤ IntKind.u64.max) (hg : h'.get j = .cells (wv vs) .rw) (hj : S j) : Words S h' vs (.slice (some ⟨j, 0, none⟩) n n) :=
  .fresh (css := vs.map fun n => [.int .u64 (n : Nat)]) (nat_all2 hb) hn (by omega) hj hg (by rw [nat_flat]; rfl)
theorem kput_vals {us : List Nat} (hu : ∀ x ∈ us, (x : Int) ≤ IntKind.u64.max) {x : Ext} {v : List Nat} (hv : ∀ x ∈ v, (x : Int) ≤ IntKind.u64.max) (k : Nat) : ∀ y ∈ kput us x v k, (y : Int) ≤ IntKind.u64.max := by
  unfold kput
  split
  · rename_i h
    intro y hy
    rcases List.mem_or_eq_of_mem_set hy with hy | rfl
    · exact hv y hy
    · rw [List.getD, List.getElem?_eq_getElem h]; exact hu _ (List.getElem_mem h)
  · exact hv
theorem viewL_vals {us : List Nat} (hu : ∀ x ∈ us, (x : Int) ≤ IntKind.u64.max) (n : Nat) (l : List Ext) : ∀ y ∈ viewL us n l, (y : Int) ≤ IntKind.u64.max := by
  have ks : ∀ (x : Ext) (l : List Nat) (v : List Nat), (∀ x ∈ v, (x : Int) ≤ IntKind.u64.max) → ∀ y ∈ l.foldl (kput us x) v, (y : Int) ≤ IntKind.u64.max := by
    intro x l
    induction l with
    | nil => intro v hv; exact hv
    | cons k l ih => intro v hv; exact ih _ (kput_vals hu hv k)
  have xs : ∀ (l : List Ext) (v : List Nat), (∀ x ∈ v, (x : Int) ≤ IntKind.u64.max) → ∀ y ∈ l.foldl (xput us) v, (y : Int) ≤ IntKind.u64.max := by
    intro l
    induction l with
    | nil => intro v hv; exact hv
    | cons x l ih => intro v hv; exact ih _ (ks x _ v hv)
  refine xs l _ fun y hy => ?_
  obtain rfl := List.eq_of_mem_replicate hy
  decide
theorem viewL_len (us : List Nat) (n : Nat) (l : List Ext) : (viewL us n l).length = n := by
  have ks : ∀ (x : Ext) (l : List Nat) (v : List Nat), (l.foldl (kput us x) v).length = v.length := by
    intro x l
    induction l with
    | nil => intro v; rfl
    | cons k l ih => intro v; rw [List.foldl_cons, ih, kput_len]
  have xs : ∀ (l : List Ext) (v : List Nat), (l.foldl (xput us) v).length = v.length := by
    intro l
    induction l with
    | nil => intro v; rfl
    | cons x l ih => intro v; rw [List.foldl_cons, ih]; exact ks x _ v
  exact (xs l _).trans (List.length_replicate ..)
theorem Sm.vol_len (m : Sm) (r : Int) : (m.vol r).length = m.n.toNat := viewL_len _ _ _
theorem List_ok {fid : Nat} {ts : List T} (ha : FoAt own h fid ts) (hp : ts ≠ []) (hok : okF ts) {root : Int} : Does Try.prog 44 #[.pointer (some ⟨fid, 0, none⟩), .int .i64 root] h
    (fun u h' => ∃ v, u = .tuple #[v, .int .i64 (F.part ts root 0 1024).2] ∧ OwnL rExt (h.next ≤ ·) h' (F.part ts root 0 1024).1 v ∧ h.quiet h') := by
  refine spec_go mixed Try.func44 rfl Try.results44 (n := Try.f44.ntmps) (by kernel_rfl) (by simp) ?_
  simp only [go_sem, simprocAttr]
  refine cl_spec (partF_ok ha hp hok (by unfold inI; omega) (by unfold inI; omega)) (fun _ _ _ hc => absurd hc (by decide +kernel)) ?_
  rintro u k ⟨v, rfl, o, q⟩
  obtain ⟨av, cv, rfl⟩ := o.sl.shape
  simp only [go_sem, simprocAttr]
  exact ⟨_, rfl, o, q⟩
theorem svolume_ok (a : ShAt own h id m) (g : m.good b) {root : Int} (hr : Has m.ts root) : Does Try.prog 31 #[.pointer (some ⟨id, 0, none⟩), .int .i64 root] h
    (fun u h' => Words (h.next ≤ ·) h' (m.vol root) u ∧ h.quiet h') := by
  have hl := a.lt
  obtain ⟨ho, fid, uv, ov, mid, rv, hg, c⟩ := a
  have hun := c.un
  obtain ⟨au, cu, rfl⟩ := c.un.sl.shape
  unfold shC at hg
  refine spec_go mixed Try.func31 rfl Try.results31 (n := Try.f31.ntmps) (by kernel_rfl) (by simp) ?_
  simp only [go_sem, simprocAttr, hg]
  refine cl_spec (List_ok c.fo g.c.ne g.c.okF) (fun _ _ _ hc => absurd hc (by decide +kernel)) ?_
  rintro u k ⟨w, rfl, o, q⟩
  rw [g.c.part hr] at o
  have hg1 := (q.2 _ hl).trans hg
  obtain ⟨gt, ft⟩ := g.c.get hr
  obtain ⟨aw, cw, rfl⟩ := o.sl.shape
  simp only [go_sem, simprocAttr, hg1]
  refine cl_spec (View_ok (n := m.n) o.slz (hun.slz.quiet q) gt.1 ⟨g.c.n0, g.c.n1⟩ fun x hx => (ft x hx).1) (fun _ _ _ hc => absurd hc (by decide +kernel)) ?_
  rintro u k1 ⟨j, rfl, hj, gj, q1⟩
  simp only [go_sem, simprocAttr]
  refine ⟨?_, q.trans q1⟩
  have e : m.vol root = viewL m.us m.n.toNat (m.ts.getD root.toNat .nil).list := by unfold Sm.vol; rw [g.c.part hr]
  rw [e]
  exact wv_words (viewL_len _ _ _) (by have := g.c.n1; omega) (viewL_vals (fun x hx => hun.slz.vals rfl x hx) _ _) gj (Nat.le_trans q.1 hj)
theorem sRead_ok (a : ShAt own h id m) (g : m.good b) {off n : Int} (h1 : inJ off) (h2 : inJ n) : Does Try.prog 12 #[.pointer (some ⟨id, 0, none⟩), .int .i64 off, .int .i64 n] h
    (fun u h' => ∃ w, u = .tuple #[w, .int .i64 (readL (m.vol m.now) off n).2] ∧ Words (h.next ≤ ·) h' (readL (m.vol m.now) off n).1 w ∧ h.quiet h') := by
  refine spec_go mixed Try.func12 rfl Try.results12 (n := Try.f12.ntmps) (by kernel_rfl) (by simp) ?_
  simp only [go_sem, simprocAttr]
  refine cl_spec (sok_ok a) (fun _ _ _ hc => absurd hc (by decide +kernel)) ?_
  rintro u k ⟨rfl, rfl⟩
  have a0 := a
  obtain ⟨ho, fid, uv, ov, mid, rv, hg, c⟩ := a
  unfold shC at hg
  simp only [go_sem, simprocAttr, hg]
  refine cl_spec (svolume_ok a0 g g.now) (fun _ _ _ hc => absurd hc (by decide +kernel)) ?_
  rintro u k1 ⟨w1, q1⟩
  obtain ⟨aw, cw, rfl⟩ := w1.shape
  simp only [go_sem, simprocAttr]
  refine cl_spec (bread_ok w1 h1 h2) (fun _ _ _ hc => absurd hc (by decide +kernel)) ?_
  rintro u k2 ⟨w, rfl, w2, q2⟩
  obtain ⟨aw2, cw2, rfl⟩ := w2.shape
  simp only [go_sem, simprocAttr]
  exact ⟨_, rfl, w2.weaken fun j hj => Nat.le_trans q1.1 hj, q1.trans q2⟩
theorem sLook_ok (a : ShAt own h id m) (g : m.good b) {x off n : Int} (h1 : inJ off) (h2 : inJ n) : Does Try.prog 15 #[.pointer (some ⟨id, 0, none⟩), .int .i64 x, .int .i64 off, .int .i64 n] h
    (fun u h' => ∃ w, u = .tuple #[w, .int .i64 (if (m.find x).2 ≠ 0 then (m.find x).2 else (readL (m.vol (m.find x).1) off n).2)] ∧ Words (h.next ≤ ·) h' (if (m.find x).2 ≠ 0 then [] else (readL (m.vol (m.find x).1) off n).1) w ∧ h.quiet h') := by
  refine spec_go mixed Try.func15 rfl Try.results15 (n := Try.f15.ntmps) (by kernel_rfl) (by simp) ?_
  simp only [go_sem, simprocAttr]
  refine cl_spec (sfind_ok a) (fun _ _ _ hc => absurd hc (by decide +kernel)) ?_
  rintro u k ⟨rfl, rfl⟩
  by_cases e0 : (m.find x).2 = 0
  · simp only [go_sem, simprocAttr, e0]
    refine cl_spec (svolume_ok a g (find_has g e0)) (fun _ _ _ hc => absurd hc (by decide +kernel)) ?_
    rintro u k1 ⟨w1, q1⟩
    obtain ⟨aw, cw, rfl⟩ := w1.shape
    simp only [go_sem, simprocAttr]
    refine cl_spec (bread_ok w1 h1 h2) (fun _ _ _ hc => absurd hc (by decide +kernel)) ?_
    rintro u k2 ⟨w, rfl, w2, q2⟩
    obtain ⟨aw2, cw2, rfl⟩ := w2.shape
    simp only [go_sem, simprocAttr]
    exact ⟨_, rfl, w2.weaken fun j hj => Nat.le_trans q1.1 hj, q1.trans q2⟩
  · simp only [go_sem, simprocAttr, e0]
    exact ⟨_, rfl, .nil _ _ _⟩
theorem sdone_ok (a : ShAt own h id m) (g : m.good b) (hb : b ≤ 1073741824) {root : Int} (hr : Has m.ts root) {o : Bop} (f : o.fits m.n) (hi : o.inI) (hv : Words S h o.data v) (hS : ∀ j, S j → own j ≠ 1 ∧ own j ≠ 6 ∧ own j ≠ 7) : Does Try.prog 38 #[.pointer (some ⟨id, 0, none⟩), .int .i64 root, .agg (o.cs v).toArray] h
    (fun u h' => u = .int .i64 m.ts.length ∧ ∃ own', ShAt own' h' id (m.done root o) ∧ Ks (fun t => t = 1 ∨ t = 6 ∨ t = 7) own h own' h') := by
  obtain ⟨av, cv, rfl⟩ := hv.shape
  refine spec_go mixed Try.func38 rfl Try.results38 (n := Try.f38.ntmps) (by kernel_rfl) (by simp) ?_
  simp only [go_sem, simprocAttr, bo_len, bo_one, bo_take, bo_put]
  have q0 : h.quiet (h.push (.cells (o.cs (.slice av o.data.length cv)) .rw)) := .push _ _
  have g0 : (h.push (.cells (o.cs (.slice av o.data.length cv)) .rw)).get h.next = .cells (o.cs (.slice av o.data.length cv)) .rw := by simp
  generalize h.push (.cells (o.cs (.slice av o.data.length cv)) .rw) = k at q0 g0
  refine cl_spec (Range_ok (hv.quiet q0)) (fun _ _ _ hc => absurd hc (by decide +kernel)) ?_
  rintro u k1 ⟨rfl, q1⟩
  have l0 := AHeap.lt_of_alive k (i := h.next) (by rw [g0]; simp)
  have g1 := (q1.2 _ l0).trans g0
  have Q := q0.trans q1
  have hl := a.lt
  obtain ⟨ho, fid, uv, ov, mid, rv, hg, c⟩ := a
  have c1 := c.ks (T := fun _ => False) (.quiet Q 0) (fun _ e => e.elim)
  have kq : Ks (fun t => t = 1 ∨ t = 6 ∨ t = 7) own h (bump own h 0) k1 := .quiet Q 0
  have hg1 := (Q.2 _ hl).trans hg
  have hl1 : id < k1.next := Nat.lt_of_lt_of_le hl Q.1
  have ho1 : bump own h 0 id = 6 := (bump_lt hl).trans ho
  have hb2 : m.ts.length ≤ 1099511627776 := by have := g.b2; omega
  obtain ⟨au, cu, rfl⟩ := c1.un.sl.shape
  unfold shC at hg1
  have ge := f.1
  have hn := g.c.n1
  rcases f.kd with ⟨h1, h2, h3⟩ | ⟨h1, h2⟩
  · rw [h2] at ge ⊢
    dsimp only at ge
    have hcut : F.cut m.ts root o.off o.ln = (((m.ts.length : Int), 0), m.ts ++ [m.tree root o]) := by
      unfold F.cut Sm.tree
      rw [if_pos hr, if_pos (by unfold Blks; omega), if_pos h1]
    simp only [go_sem, simprocAttr, g1, bo_0, h1, hg1]
    refine cl_spec (cutF_ok c1.fo g.c.ne g.c.okF hb2 (o := o.off) (n := o.ln) (by unfold inI; omega) (by unfold inI; omega)) (fun _ _ _ hc => absurd hc (by decide +kernel)) ?_
    rw [hcut]
    rintro u k2 ⟨rfl, ow2, fo2, kp2⟩
    simp only [go_sem, simprocAttr]
    have kk : Ks (· = 1) (bump own h 0) k1 ow2 k2 := .kp kp2 rfl
    refine ⟨ow2, ⟨(kk.2 id hl1).1.trans ho1, fid, _, ov, mid, rv, ((kk.2 id hl1).2 (by rw [ho1]; decide)).trans hg1, fo2, ?_, c1.op.ks kk (by decide) (by decide), c1.mp.ks kk (by decide), c1.od.ks kk (by decide)⟩, kq.trans (kk.weaken fun t e => .inl e)⟩
    show OwnL rW (tg ow2 7) k2 (m.us ++ o.dat) _
    unfold Bop.dat
    rw [if_pos h1, List.append_nil]
    exact c1.un.mono kk.1 (kk.tg (by decide))
  · rw [h2] at ge ⊢
    dsimp only at ge
    have h1' : ¬ o.kd = 2 := by omega
    have hx := g.ext hb f h1
    simp only [go_sem, simprocAttr, g1, bo_0, h1, hg1]
    have hput : F.put m.ts root ⟨o.off, o.data.length, m.us.length, m.gen⟩ = (((m.ts.length : Int), 0), m.ts ++ [m.tree root o]) := by
      unfold F.put Sm.tree
      rw [if_pos hr, if_pos hx, if_neg h1']
    refine cl_spec (putF_ok c1.fo g.c.ne g.c.okF hb2 (x := ⟨o.off, o.data.length, m.us.length, m.gen⟩) hx.inI) (fun _ _ _ hc => absurd hc (by decide +kernel)) ?_
    rw [hput]
    rintro u k2 ⟨rfl, ow2, fo2, kp2⟩
    have kk : Ks (· = 1) (bump own h 0) k1 ow2 k2 := .kp kp2 rfl
    have un2 := c1.un.mono kk.1 (kk.tg (s := 7) (by decide))
    have hg2 := ((kk.2 id hl1).2 (by rw [ho1]; decide)).trans hg1
    have hl2 : id < k2.next := Nat.lt_of_lt_of_le hl1 kk.1
    have ho2 := (kk.2 id hl1).1.trans ho1
    have l1 := Nat.lt_of_lt_of_le l0 q1.1
    have g2 := ((kk.2 h.next l1).2 (by rw [bump_ge (Nat.le_refl _)]; decide)).trans g1
    have hv2 : Words S k2 o.data (.slice av o.data.length cv) := (hv.quiet Q).mono fun j hj hl => ⟨hj, (kk.2 j hl).2 (by
      by_cases hjl : j < h.next
      · rw [bump_lt hjl]; exact (hS j hj).1
      · rw [bump_ge (by omega)]; decide)⟩
    obtain ⟨css, e1, ha⟩ := hv2.acells 1 rfl
    simp only [go_sem, simprocAttr, g2, bo_3, hg2, e1, ha.ones]
    have bu := g.b1
    have bd := f.dat
    obtain ⟨v', k3, e3, l3, f3, nb⟩ := un2.1.app 1 rfl (bytes := 8) (n := o.data.length) (ys := o.data) (css' := o.data.map fun n => [.int .u64 (n : Nat)]) (nat_all2 fun n hn => hv2.vals rfl n hn) rfl (by omega) (by omega) (Nat.zero_le _)
    rw [nat_flat, ← (nat_cells ha).1] at e3
    have k23 : Ks (· = 7) ow2 k2 (bump ow2 k2 7) k3 := Ks.fw (T := (· = 7)) (own := ow2) f3 (fun j _ e => un2.2 j e) 7
    have hu3 : OwnL rW (tg (bump ow2 k2 7) 7) k3 (m.us ++ o.data) v' := ⟨l3, fun j hj => by
      rcases nb with nb | ⟨ob, nb, hge⟩
      · rw [nb] at hj; exact (bump_lt (un2.lt hj)).trans (un2.2 j hj)
      · rw [nb] at hj; cases hj; exact bump_ge hge⟩
    obtain ⟨a3, c3, rfl⟩ := hu3.sl.shape
    have hg3 := ((k23.2 id hl2).2 (by rw [ho2]; decide)).trans hg2
    have ho3 := (k23.2 id hl2).1.trans ho2
    have hl3 : id < k3.next := Nat.lt_of_lt_of_le hl2 k23.1
    simp only [go_sem, simprocAttr, e3, hg3]
    have k34 : Ks (· = 6) (bump ow2 k2 7) k3 (bump ow2 k2 7) (k3.set id (.cells (shC (m.done root o) fid (.slice a3 (m.us ++ o.data).length c3) ov mid rv) .rw)) := .set (T := (· = 6)) ho3 _
    refine ⟨bump ow2 k2 7, ⟨ho3, fid, _, ov, mid, rv, AHeap.get_set_self _ _ hl3, ?_⟩, kq.trans ((kk.weaken fun t e => .inl e).trans ((k23.weaken fun t e => .inr (.inr e)).trans (k34.weaken fun t e => .inr (.inl e))))⟩
    refine ⟨(fo2.ks k23 (by decide) (by decide)).ks k34 (by decide) (by decide), ?_, ((c1.op.ks kk (by decide) (by decide)).ks k23 (by decide) (by decide)).ks k34 (by decide) (by decide), ((c1.mp.ks kk (by decide)).ks k23 (by decide)).ks k34 (by decide), ((c1.od.ks kk (by decide)).ks k23 (by decide)).ks k34 (by decide)⟩
    show OwnL rW _ _ (m.us ++ o.dat) _
    rw [bd.1]
    exact hu3.mono k34.1 (k34.tg (by decide))
end
end Go.Proofs.Ytjkganmkfhciiaa
