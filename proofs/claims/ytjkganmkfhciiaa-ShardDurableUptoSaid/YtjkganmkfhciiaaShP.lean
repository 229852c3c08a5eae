/- shard: the plain law: a shard's calls, and what stays right. -/
import Derived.Test.YtjkganmkfhciiaaShC
set_option linter.unusedSimpArgs false
set_option linter.unusedVariables false
set_option linter.unnecessarySimpa false
set_option maxRecDepth 100000
namespace Go.Proofs.Ytjkganmkfhciiaa
open Go.AM

/-- Extents that lie within so many blocks, and so many units. -/
def Fit (n u : Int) (l : List Ext) : Prop := ∀ x ∈ l, x.off + x.len ≤ n ∧ x.phys + x.len ≤ u
theorem Fit.mono {n u u' : Int} {l : List Ext} (f : Fit n u l) (h : u ≤ u') : Fit n u' l := fun x hx => ⟨(f x hx).1, Int.le_trans (f x hx).2 h⟩
theorem Fit.append {n u : Int} {a b : List Ext} (f : Fit n u a) (g : Fit n u b) : Fit n u (a ++ b) := fun x hx => (List.mem_append.1 hx).elim (f x) (g x)
theorem Fit.part {n u : Int} {l : List Ext} (f : Fit n u l) (hok : ∀ x ∈ l, x.ok) (a b : Int) : Fit n u (partL a b l) := fun y hy => by
  obtain ⟨x, hx, hl, rfl⟩ := partL_mem.1 hy
  have h1 := f x hx
  have h2 := hok x hx
  unfold Ext.ok at h2
  unfold Ext.lies at hl
  unfold Ext.clip
  dsimp only
  omega
theorem Fit.jstep {n u : Int} {out : List Ext} {y : Ext} (f : Fit n u out) (g : y.off + y.len ≤ n ∧ y.phys + y.len ≤ u) : Fit n u (jstep out y) := by
  have hy : Fit n u [y] := fun x hx => by obtain rfl : x = y := by simpa using hx
                                          exact g
  unfold Proofs.Ytjkganmkfhciiaa.jstep
  split
  · rename_i z hz
    split
    · rename_i hm
      refine Fit.append (fun x hx => f x (List.dropLast_subset _ hx)) fun x hx => ?_
      obtain rfl : x = z.with y := by simpa using hx
      have := f z (List.mem_of_getLast? hz)
      unfold Ext.meets at hm
      unfold Ext.with
      dsimp only
      omega
    · exact f.append hy
  · exact f.append hy
theorem Fit.join {n u : Int} : ∀ (l : List Ext) {out : List Ext}, Fit n u out → Fit n u l → Fit n u (l.foldl Proofs.Ytjkganmkfhciiaa.jstep out)
  | [], _, f, _ => f
  | y :: l, _, f, g => Fit.join l (f.jstep (g y (by simp))) fun x hx => g x (by simp [hx])

/-- What is done by an op. -/
def Sm.tree (m : Sm) (root : Int) (o : Bop) : T := if o.kd = 2 then Tcut (m.ts.getD root.toNat .nil) o.off o.ln else Tput (m.ts.getD root.toNat .nil) ⟨o.off, o.data.length, m.us.length, m.gen⟩
def Bop.dat (o : Bop) : List Nat := if o.kd = 2 then [] else o.data
def Sm.done (m : Sm) (root : Int) (o : Bop) : Sm := { m with ts := m.ts ++ [m.tree root o], us := m.us ++ o.dat }
def Sm.go (m : Sm) (o : Bop) : Sm := { m.done m.now o with now := m.ts.length }
def Sm.doOp (m : Sm) (o : Bop) : Int × Sm := if ¬ o.fits m.n then (1, m) else if m.frozen then (11, m) else if 256 ≤ m.opn.length then (6, m) else (0, { m.go o with opn := m.opn ++ [o] })
def Sm.flush (m : Sm) : Sm := { m with sure := m.now, opn := [] }
def Sm.snap (m : Sm) (id : Int) : Int × Sm := if id < 1 then (1, m) else if (m.find id).2 = 0 then (10, m) else if 32 ≤ m.snaps.length then (6, m) else (0, { m.flush with snaps := m.snaps ++ [(id, m.now)], gen := m.gen + 1 })
def Sm.delete (m : Sm) (id : Int) : Int × Sm := if (m.find id).2 ≠ 0 then ((m.find id).2, m) else (0, { m with snaps := delS m.snaps id })
def Sm.rollback (m : Sm) (id : Int) : Int × Sm := (if (m.find id).2 ≠ 0 then (m.find id).2 else if m.frozen then 11 else 0, if (m.find id).2 ≠ 0 ∨ m.frozen = true then m else { m with now := (m.find id).1, sure := (m.find id).1, opn := [] })
def Sm.replay (m : Sm) : List Bop → List Bool → Sm
  | [], _ => m
  | _ :: _, [] => m
  | o :: os, k :: ks => (if k then m.go o else m).replay os ks
def Sm.crash (m : Sm) (keep : List Bool) : Sm := { (({ m with now := m.sure } : Sm).replay m.opn keep).flush with frozen := false }
structure SAct where
  kd : Nat
  op : Bop
  id : Int
  yes : Bool
  keep : List Bool
def Sm.act (m : Sm) (a : SAct) : Int × Sm :=
  if a.kd % 8 = 0 then m.doOp a.op else if a.kd % 8 = 1 then (0, m.flush) else if a.kd % 8 = 2 then (0, { m with frozen := a.yes }) else if a.kd % 8 = 3 then m.snap a.id else
  if a.kd % 8 = 4 then m.delete a.id else if a.kd % 8 = 5 then m.rollback a.id else if a.kd % 8 = 6 then (0, m.crash a.keep) else (0, m)

/-- The trees and the units are right. -/
structure Core (n : Int) (ts : List T) (us : List Nat) : Prop where
  n0 : 0 ≤ n
  n1 : n ≤ 1024
  z : ts[0]? = some .nil
  g : ∀ t ∈ ts, GT t ∧ Fit n us.length t.list
structure Sm.good (m : Sm) (b : Nat) : Prop where
  c : Core m.n m.ts m.us
  now : Has m.ts m.now
  sure : Has m.ts m.sure
  sn : ∀ p ∈ m.snaps, Has m.ts p.2 ∧ 1 ≤ p.1 ∧ inI p.1
  nd : (m.snaps.map Prod.fst).Nodup
  sl : m.snaps.length ≤ 32
  op : ∀ o ∈ m.opn, o.fits m.n
  ol : m.opn.length ≤ 256
  g0 : 0 ≤ m.gen
  b1 : m.us.length + 64 * m.opn.length ≤ 128 * b
  b2 : m.ts.length + m.opn.length ≤ 1 + 2 * b
  b3 : m.gen ≤ b
theorem Core.get {n : Int} {ts : List T} {us : List Nat} (c : Core n ts us) {root : Int} (h : Has ts root) : GT (ts.getD root.toNat .nil) ∧ Fit n us.length (ts.getD root.toNat .nil).list := by
  unfold Has at h
  have hl : root.toNat < ts.length := by omega
  rw [List.getD, List.getElem?_eq_getElem hl]
  exact c.g _ (List.getElem_mem hl)
theorem Core.ne {n : Int} {ts : List T} {us : List Nat} (c : Core n ts us) : ts ≠ [] := fun e => by have := c.z; rw [e] at this; simp at this
theorem Core.okF {n : Int} {ts : List T} {us : List Nat} (c : Core n ts us) : okF ts := fun t ht => (c.g t ht).1.okT
theorem Core.has0 {n : Int} {ts : List T} {us : List Nat} (c : Core n ts us) : Has ts 0 := by have := List.length_pos_iff.2 c.ne; unfold Has; omega
theorem GoodL.all {l : List Ext} (g : GoodL l) : partL 0 1024 l = l := partL_all fun x hx => by have := g.1 x hx; exact ⟨this, by unfold Ext.ok at this; omega, by unfold Ext.ok at this; omega⟩
theorem Core.part {n : Int} {ts : List T} {us : List Nat} (c : Core n ts us) {root : Int} (h : Has ts root) : F.part ts root 0 1024 = ((ts.getD root.toNat .nil).list, 0) := by
  have hg := (c.get h).1
  unfold F.part
  rw [if_pos h, if_pos (by unfold Blks; omega)]
  have e := T.parts_eq 0 1024 (a := ts.getD root.toNat .nil) hg.1
  rw [hg.1.all] at e
  rw [show (0 : Int) + 1024 = 1024 from rfl, e]
theorem Bop.fits.kd {n : Int} {o : Bop} (f : o.fits n) : (o.kd = 2 ∧ o.rng = (o.off, o.ln) ∧ o.data = []) ∨ (o.kd = 1 ∧ o.rng = (o.off, (o.data.length : Int))) := by
  rcases f.2 with ⟨h1, h2⟩ | ⟨h1, _⟩
  · exact .inl ⟨h1, by unfold Bop.rng; rw [if_neg (by omega), if_pos h1], List.eq_nil_of_length_eq_zero h2⟩
  · exact .inr ⟨h1, by unfold Bop.rng; rw [if_pos h1]⟩
theorem Bop.fits.dat {n : Int} {o : Bop} (f : o.fits n) : o.dat = o.data ∧ o.data.length ≤ 64 := by
  unfold Bop.dat
  rcases f.kd with ⟨h1, _, h3⟩ | ⟨h1, h2⟩
  · rw [if_pos h1, h3]; exact ⟨rfl, by simp⟩
  · rw [if_neg (by omega)]
    have := f.2
    rw [h2] at this
    dsimp only at this
    exact ⟨rfl, by omega⟩
theorem Sm.good.ext {m : Sm} {b : Nat} (g : m.good b) (hb : b ≤ 1073741824) {o : Bop} (f : o.fits m.n) (h1 : o.kd = 1) : Ext.ok ⟨o.off, o.data.length, m.us.length, m.gen⟩ := by
  have := f.1
  have h2 := f.dat.2
  rcases f.kd with ⟨h3, _⟩ | ⟨_, h4⟩
  · omega
  · rw [h4] at this
    have := g.b1; have := g.b3; have := g.g0; have := g.c.n1
    unfold Ext.ok
    dsimp only at *
    omega
theorem Sm.good.core {m : Sm} {b : Nat} (g : m.good b) (hb : b ≤ 1073741824) {o : Bop} (f : o.fits m.n) {root : Int} (h : Has m.ts root) : Core m.n (m.done root o).ts (m.done root o).us := by
  obtain ⟨gt, ft⟩ := g.c.get h
  have ge := f.1
  have hn := g.c.n1
  refine ⟨g.c.n0, hn, ?_, fun t ht => ?_⟩
  · show (m.ts ++ [_])[0]? = _
    rw [List.getElem?_append_left (List.length_pos_iff.2 g.c.ne)]; exact g.c.z
  · have hu : (m.us.length : Int) ≤ ((m.us ++ o.dat).length : Nat) := by rw [List.length_append]; omega
    rcases List.mem_append.1 ht with ht | ht
    · exact ⟨(g.c.g t ht).1, (g.c.g t ht).2.mono hu⟩
    · obtain rfl : t = m.tree root o := by simpa using ht
      unfold Sm.tree
      rcases f.kd with ⟨h1, h2, h3⟩ | ⟨h1, h2⟩
      · rw [h2] at ge
        dsimp only at ge
        rw [if_pos h1]
        obtain ⟨a, e⟩ := Tcut_good (o := o.off) (n := o.ln) gt (by unfold Blks; omega)
        refine ⟨a, ?_⟩
        rw [e]
        exact ((ft.part gt.1.1 _ _).append (ft.part gt.1.1 _ _)).mono hu
      · rw [h2] at ge
        dsimp only at ge
        rw [if_neg (by omega)]
        obtain ⟨a, e⟩ := Tput_good gt (g.ext hb f h1)
        refine ⟨a, ?_⟩
        rw [e]
        unfold putL joinL
        have hd : (m.done root o).us.length = m.us.length + o.data.length := by show (m.us ++ o.dat).length = _; rw [List.length_append, f.dat.1]
        refine Fit.join _ (fun x hx => by cases hx) (Fit.append (Fit.append ((ft.part gt.1.1 _ _).mono hu) fun x hx => ?_) ((ft.part gt.1.1 _ _).mono hu))
        obtain rfl : x = _ := by simpa using hx
        dsimp only
        rw [hd]
        omega
theorem Has.mono {ts : List T} {root : Int} (h : Has ts root) (l : List T) : Has (ts ++ l) root := by unfold Has at *; rw [List.length_append]; omega
theorem Sm.good.mono {m : Sm} {b c : Nat} (g : m.good b) (h : b ≤ c) : m.good c := by
  obtain ⟨a1, a2, a3, a4, a5, a6, a7, a8, a9, a10, a11, a12⟩ := g
  exact ⟨a1, a2, a3, a4, a5, a6, a7, a8, a9, by omega, by omega, by omega⟩
theorem Sm.good.flush {m : Sm} {b : Nat} (g : m.good b) : m.flush.good b := by
  obtain ⟨a1, a2, a3, a4, a5, a6, a7, a8, a9, a10, a11, a12⟩ := g
  exact ⟨a1, a2, a2, a4, a5, a6, fun o ho => (by cases ho), Nat.zero_le _, a9, by simp only [Sm.flush, List.length_nil]; omega, by simp only [Sm.flush, List.length_nil]; omega, a12⟩
theorem lookS_mem : ∀ {l : List (Int × Int)} {n r : Int}, lookS l n = some r → (n, r) ∈ l
  | [], _, _, h => by cases h
  | p :: l, n, r, h => by
    unfold lookS at h
    split at h
    · rename_i e; cases h; rw [e]; simp
    · exact List.mem_cons_of_mem _ (lookS_mem h)
theorem lookS_none : ∀ {l : List (Int × Int)} {n : Int}, lookS l n = none ↔ n ∉ l.map Prod.fst
  | [], _ => by simp [lookS]
  | p :: l, n => by
    unfold lookS
    split
    · rename_i e; simp [e]
    · rename_i e; rw [lookS_none]; simp [e]
theorem delS_sub : ∀ (l : List (Int × Int)) (n : Int), (delS l n).Sublist l
  | [], _ => .slnil
  | p :: l, n => by
    unfold delS
    split
    · exact List.sublist_cons_self _ _
    · exact (delS_sub l n).cons_cons _
theorem find_has {m : Sm} {b : Nat} (g : m.good b) {x : Int} (h : (m.find x).2 = 0) : Has m.ts (m.find x).1 := by
  unfold Sm.find at *
  split at h
  · rename_i r hr; exact (g.sn _ (lookS_mem hr)).1
  · cases h
/-- An op more, of those that are open: one open op less. -/
theorem Sm.good.go {m : Sm} {b : Nat} (g : m.good b) (hb : b ≤ 1073741824) {o : Bop} (f : o.fits m.n) {k : Nat} (h1 : m.us.length + o.data.length + 64 * k ≤ 128 * b) (h2 : m.ts.length + 1 + k ≤ 1 + 2 * b) (l : List Bop) (hl : l.length = k) (hk : k ≤ 256) (ho : ∀ o ∈ l, o.fits m.n) : ({ m.go o with opn := l } : Sm).good b := by
  have c := g.core hb f g.now
  refine ⟨c, ?_, g.sure.mono _, fun p hp => ⟨(g.sn p hp).1.mono _, (g.sn p hp).2⟩, g.nd, g.sl, ho, by show l.length ≤ 256; omega, g.g0, ?_, ?_, g.b3⟩
  · show Has (m.ts ++ [_]) (m.ts.length : Int); unfold Has; rw [List.length_append]; simp only [List.length_cons, List.length_nil]; omega
  · show (m.us ++ o.dat).length + 64 * l.length ≤ _; rw [List.length_append, f.dat.1]; omega
  · show (m.ts ++ [_]).length + l.length ≤ _; rw [List.length_append]; simp; omega
theorem Sm.good.doOp {m : Sm} {b : Nat} (g : m.good b) (hb : b < 1073741824) (o : Bop) : (m.doOp o).2.good (b + 1) := by
  unfold Sm.doOp
  split
  · exact g.mono (by omega)
  split
  · exact g.mono (by omega)
  split
  · exact g.mono (by omega)
  rename_i f _ h3
  have f := Decidable.not_not.1 f
  have := f.dat.2; have := g.b1; have := g.b2
  exact (g.mono (Nat.le_succ b)).go (by omega) f (k := m.opn.length + 1) (by omega) (by omega) _ (by simp) (by omega) fun x hx => by
    rcases List.mem_append.1 hx with hx | hx
    · exact g.op x hx
    · obtain rfl : x = o := by simpa using hx
      exact f
theorem Sm.replay_good {b : Nat} (hb : b ≤ 1073741824) : ∀ (os : List Bop) (ks : List Bool) (m : Sm), m.opn = os → m.good b → ({ m.replay os ks with opn := [] } : Sm).good b
  | [], ks, m, e, g => by
    unfold Sm.replay
    cases m; cases e; exact g
  | o :: os, [], m, e, g => by
    unfold Sm.replay
    obtain ⟨a1, a2, a3, a4, a5, a6, a7, a8, a9, a10, a11, a12⟩ := g
    exact ⟨a1, a2, a3, a4, a5, a6, fun o ho => (by cases ho), Nat.zero_le _, a9, by dsimp only [List.length_nil]; omega, by dsimp only [List.length_nil]; omega, a12⟩
  | o :: os, k :: ks, m, e, g => by
    have hop : ∀ x ∈ os, x.fits m.n := fun x hx => g.op x (by rw [e]; simp [hx])
    have h1 := g.b1; have h2 := g.b2; have h3 := g.ol
    rw [e, List.length_cons] at h1 h2 h3
    have frame : ∀ (m' : Sm) (l : List Bop), ({ m'.replay l ks with opn := [] } : Sm) = { ({ m' with opn := l } : Sm).replay l ks with opn := [] } := by
      have key : ∀ (os : List Bop) (ks : List Bool) (m' : Sm) (l : List Bop), ({ m'.replay os ks with opn := [] } : Sm) = { ({ m' with opn := l } : Sm).replay os ks with opn := [] } := by
        intro os
        induction os with
        | nil => intro ks m' l; unfold Sm.replay; rfl
        | cons o os ih =>
          intro ks m' l
          cases ks with
          | nil => unfold Sm.replay; rfl
          | cons k ks =>
            unfold Sm.replay
            cases k with
            | true => exact ih ks (m'.go o) l
            | false => exact ih ks m' l
      intro m' l
      exact key l ks m' l
    unfold Sm.replay
    rw [frame]
    refine Sm.replay_good hb os ks _ rfl ?_
    cases k with
    | true =>
      have f := g.op o (by rw [e]; simp)
      have := f.dat.2
      exact g.go hb f (k := os.length) (by omega) (by omega) os rfl (by omega) hop
    | false =>
      obtain ⟨a1, a2, a3, a4, a5, a6, a7, a8, a9, a10, a11, a12⟩ := g
      rw [if_neg Bool.false_ne_true]
      exact ⟨a1, a2, a3, a4, a5, a6, hop, by dsimp only; omega, a9, by dsimp only; omega, by dsimp only; omega, a12⟩
theorem Sm.good.crash {m : Sm} {b : Nat} (g : m.good b) (hb : b ≤ 1073741824) (keep : List Bool) : (m.crash keep).good b := by
  have g1 : ({ m with now := m.sure } : Sm).good b := by
    obtain ⟨a1, a2, a3, a4, a5, a6, a7, a8, a9, a10, a11, a12⟩ := g
    exact ⟨a1, a3, a3, a4, a5, a6, a7, a8, a9, a10, a11, a12⟩
  have g2 := (Sm.replay_good hb m.opn keep { m with now := m.sure } rfl g1).flush
  obtain ⟨a1, a2, a3, a4, a5, a6, a7, a8, a9, a10, a11, a12⟩ := g2
  exact ⟨a1, a2, a3, a4, a5, a6, a7, a8, a9, a10, a11, a12⟩
theorem Sm.good.snap {m : Sm} {b : Nat} (g : m.good b) {x : Int} (hx : inI x) : (m.snap x).2.good (b + 1) := by
  unfold Sm.snap
  split
  · exact g.mono (by omega)
  split
  · exact g.mono (by omega)
  split
  · exact g.mono (by omega)
  rename_i h1 h2 h3
  have hn : lookS m.snaps x = none := by
    unfold Sm.find at h2
    split at h2
    · exact absurd rfl h2
    · assumption
  obtain ⟨a1, a2, a3, a4, a5, a6, a7, a8, a9, a10, a11, a12⟩ := g.flush
  refine ⟨a1, a2, a3, fun p hp => ?_, ?_, ?_, a7, a8, by dsimp only; exact Int.le_trans g.g0 (by omega), by simp only [Sm.flush, List.length_nil] at a10 ⊢; omega, by simp only [Sm.flush, List.length_nil] at a11 ⊢; omega, by dsimp only; have := g.b3; omega⟩
  · rcases List.mem_append.1 hp with hp | hp
    · exact a4 p hp
    · obtain rfl : p = (x, m.now) := by simpa using hp
      exact ⟨g.now, by omega, hx⟩
  · show ((m.snaps ++ [(x, m.now)]).map Prod.fst).Nodup
    rw [List.map_append, List.nodup_append]
    refine ⟨g.nd, by simp, fun a ha b' hb' e => ?_⟩
    obtain rfl : b' = x := by simpa using hb'
    exact lookS_none.1 hn (e ▸ ha)
  · show (m.snaps ++ [(x, m.now)]).length ≤ 32
    rw [List.length_append]; simp; omega
theorem Sm.good.delete {m : Sm} {b : Nat} (g : m.good b) (x : Int) : (m.delete x).2.good b := by
  unfold Sm.delete
  split
  · exact g
  have s := delS_sub m.snaps x
  obtain ⟨a1, a2, a3, a4, a5, a6, a7, a8, a9, a10, a11, a12⟩ := g
  exact ⟨a1, a2, a3, fun p hp => a4 p (s.subset hp), a5.sublist (s.map _), Nat.le_trans s.length_le a6, a7, a8, a9, a10, a11, a12⟩
theorem Sm.good.rollback {m : Sm} {b : Nat} (g : m.good b) (x : Int) : (m.rollback x).2.good b := by
  unfold Sm.rollback
  dsimp only
  split
  · exact g
  rename_i h
  have hh := find_has g (Decidable.not_not.1 fun e => h (.inl e))
  obtain ⟨a1, a2, a3, a4, a5, a6, a7, a8, a9, a10, a11, a12⟩ := g
  exact ⟨a1, hh, hh, a4, a5, a6, fun o ho => (by cases ho), Nat.zero_le _, a9, by dsimp only [List.length_nil]; omega, by dsimp only [List.length_nil]; omega, a12⟩
theorem Sm.good.act {m : Sm} {b : Nat} (g : m.good b) (hb : b < 1073741824) {a : SAct} (hx : inI a.id) : (m.act a).2.good (b + 1) := by
  unfold Sm.act
  split
  · exact g.doOp hb a.op
  split
  · exact g.flush.mono (by omega)
  split
  · obtain ⟨a1, a2, a3, a4, a5, a6, a7, a8, a9, a10, a11, a12⟩ := g
    exact ⟨a1, a2, a3, a4, a5, a6, a7, a8, a9, by dsimp only; omega, by dsimp only; omega, by dsimp only; omega⟩
  split
  · exact g.snap hx
  split
  · exact (g.delete _).mono (by omega)
  split
  · exact (g.rollback _).mono (by omega)
  split
  · exact (g.crash (by omega) _).mono (by omega)
  · exact g.mono (by omega)
def Sm.new (n : Int) : Sm := ⟨n, [.nil], [], 0, 0, 0, [], [], false⟩
theorem Sm.new_good {n : Int} (h0 : 0 ≤ n) (h1 : n ≤ 1024) : (Sm.new n).good 0 := by
  refine ⟨⟨h0, h1, rfl, fun t ht => ?_⟩, by simp [Sm.new, Has], by simp [Sm.new, Has], fun p hp => (by cases hp), .nil, Nat.zero_le _, fun p hp => (by cases hp), Nat.zero_le _, Int.le_refl _, by simp [Sm.new], by simp [Sm.new], by simp [Sm.new]⟩
  obtain rfl : t = .nil := by simpa [Sm.new] using ht
  exact ⟨GT.nil, fun x hx => by cases hx⟩
end Go.Proofs.Ytjkganmkfhciiaa
