/- volume: what a script's acts do to the plain model. -/
import Derived.Test.YtedpfdflolkpeaaGreatDoorVoJ
set_option linter.unusedSimpArgs false
set_option linter.unusedVariables false
set_option linter.unnecessarySimpa false
set_option maxRecDepth 100000
namespace Go.Proofs.YtedpfdflolkpeaaGreatDoor
open Go.AM

/-! What a shard has at a block, behind a call. -/
theorem Sm.val_same {m m' : Sm} (h1 : m'.us = m.us) (h2 : m'.n = m.n) (h3 : m'.ts = m.ts) (h4 : m'.now = m.now) (j : Nat) : m'.val j = m.val j := by
  unfold Sm.val Sm.vol; rw [h1, h2, h3, h4]
theorem flush_val (m : Sm) (j : Nat) : m.flush.val j = m.val j := Sm.val_same rfl rfl rfl rfl j
theorem freeze_val (m : Sm) (b : Bool) (j : Nat) : ({ m with frozen := b } : Sm).val j = m.val j := Sm.val_same rfl rfl rfl rfl j
theorem snap_val (m : Sm) (x : Int) (j : Nat) : (m.snap x).2.val j = m.val j := by
  unfold Sm.snap
  repeat' split
  all_goals first | rfl | exact Sm.val_same rfl rfl rfl rfl j
theorem delete_val (m : Sm) (x : Int) (j : Nat) : (m.delete x).2.val j = m.val j := by
  unfold Sm.delete
  split
  · rfl
  · exact Sm.val_same rfl rfl rfl rfl j
theorem doOp_val {m : Sm} {b : Nat} (g : m.good b) (hb : b ≤ 1073741824) {o : Bop} (h : (m.doOp o).1 = 0) {j : Nat} (hj : j < m.n.toNat) :
    (m.doOp o).2.val j = if o.off.toNat ≤ j ∧ j < o.off.toNat + o.rng.2.toNat then o.val j else m.val j := by
  unfold Sm.doOp at *
  split at h
  · cases h
  split at h
  · cases h
  split at h
  · cases h
  rename_i f h2 h3
  rw [if_neg f, if_neg h2, if_neg h3]
  have f := Decidable.not_not.1 f
  have e := vol_done g hb f (root := m.now) g.now
  have : ({ m.go o with opn := m.opn ++ [o] } : Sm).val j = (o.app (m.vol m.now)).getD j 0 := by
    rw [← e]; rfl
  rw [this]
  exact app_get (by rw [m.vol_len]; exact hj)
theorem crash_flush_val {m : Sm} (keep : List Bool) (h : m.opn = []) (hs : m.sure = m.now) (j : Nat) : (m.crash keep).val j = m.val j := by
  unfold Sm.crash
  rw [h]
  unfold Sm.replay
  have e : ({ m with now := m.sure } : Sm).val j = m.val j := Sm.val_same (m := m) (m' := { m with now := m.sure }) rfl rfl rfl hs j
  exact e
/-- What is flushed stays. -/
def Sm.firm (m : Sm) : Prop := m.opn = [] ∧ m.sure = m.now
theorem flush_firm (m : Sm) : m.flush.firm := ⟨rfl, rfl⟩
theorem crash_firm (m : Sm) (keep : List Bool) : (m.crash keep).firm := ⟨rfl, rfl⟩

/-! Blocks that are copied. -/
theorem doOp_ok {m : Sm} {o : Bop} (f : o.fits m.n) (hz : m.frozen = false) (hl : m.opn.length < 256) : m.doOp o = (0, { m.go o with opn := m.opn ++ [o] }) := by
  unfold Sm.doOp
  rw [if_neg (fun e => e f), hz, if_neg (by decide), if_neg (by omega)]
theorem getD_sub (d : List Nat) (a n i : Nat) (h : i < n) : ((d.drop a).take n).getD i 0 = d.getD (a + i) 0 := by
  rw [List.getD, List.getD, List.getElem?_take, if_pos h, List.getElem?_drop]
theorem cpN_val {m : Sm} {b : Nat} {f : Int} {d : List Nat} (hb : b + 40 ≤ 1073741824) (hf : 0 ≤ f) (hn : f + d.length ≤ m.n) (hn2 : m.n ≤ 1024) {V : Nat → Nat} (g : m.good b) (hz : m.frozen = false) (ho : m.opn.length ≤ 1) (hv : ∀ j, j < m.n.toNat → m.val j = V j) :
    ∀ r, r ≤ (d.length + 63) / 64 → (cpN m f d r).good (b + r) ∧ (cpN m f d r).n = m.n ∧ (cpN m f d r).frozen = false ∧ (cpN m f d r).opn.length ≤ 1 + r ∧
      ∀ j, j < m.n.toNat → (cpN m f d r).val j = if f.toNat ≤ j ∧ j < f.toNat + min (64 * r) d.length then d.getD (j - f.toNat) 0 else V j
  | 0, _ => ⟨g, rfl, hz, ho, fun j hj => by rw [if_neg (by omega)]; exact hv j hj⟩
  | r + 1, hr => by
    obtain ⟨g1, n1, z1, o1, v1⟩ := cpN_val hb hf hn hn2 g hz ho hv r (by omega)
    have hlt : 64 * r < d.length := by omega
    obtain ⟨o, ho'⟩ : ∃ o : Bop, ⟨1, f + (64 * r : Nat), 0, (d.drop (64 * r)).take 64⟩ = o := ⟨_, rfl⟩
    have hdl : ((d.drop (64 * r)).take 64).length = min 64 (d.length - 64 * r) := by simp
    have hrng : o.rng = (f + (64 * r : Nat), (((d.drop (64 * r)).take 64).length : Int)) := by rw [← ho']; rfl
    have hfit : o.fits m.n := by
      rw [← ho']
      unfold Bop.fits Bop.rng
      dsimp only
      rw [if_pos rfl]
      dsimp only
      refine ⟨by omega, .inr ⟨rfl, by omega, by omega⟩⟩
    have e1 : (cpN m f d r).doOp o = (0, { (cpN m f d r).go o with opn := (cpN m f d r).opn ++ [o] }) := doOp_ok (by rw [n1]; exact hfit) z1 (by omega)
    have e2 : cpN m f d (r + 1) = ((cpN m f d r).doOp o).2 := by rw [← ho']; rfl
    rw [e2]
    refine ⟨g1.doOp (by omega) o, (doOp_n _ _).trans n1, by rw [e1]; exact z1, by rw [e1]; simp only [List.length_append, List.length_singleton]; omega, fun j hj => ?_⟩
    rw [doOp_val g1 (by omega) (by rw [e1]) (by rw [n1]; exact hj), v1 j hj, hrng]
    have ho1 : o.off = f + (64 * r : Nat) := by rw [← ho']
    have ho2 : ∀ i, o.val i = ((d.drop (64 * r)).take 64).getD (i - o.off.toNat) 0 := fun i => by rw [← ho']; rfl
    rw [ho1]
    dsimp only
    by_cases c1 : (f + ((64 * r : Nat) : Int)).toNat ≤ j ∧ j < (f + ((64 * r : Nat) : Int)).toNat + (((d.drop (64 * r)).take 64).length : Int).toNat
    · rw [if_pos c1, if_pos (by omega), ho2, ho1, getD_sub _ _ _ _ (by omega)]
      congr 1; omega
    · rw [if_neg c1]
      by_cases c2 : f.toNat ≤ j ∧ j < f.toNat + min (64 * r) d.length
      · rw [if_pos c2, if_pos (by omega)]
      · rw [if_neg c2, if_neg (by omega)]
theorem copied_val {m : Sm} {b : Nat} {f : Int} {d : List Nat} (hb : b + 41 ≤ 1073741824) (hf : 0 ≤ f) (hd : 1 ≤ d.length) (hn : f + d.length ≤ m.n) (g : m.good b) (hz : m.frozen = false) :
    (copied m f d).good (b + 20) ∧ (copied m f d).n = m.n ∧ ∀ j, j < m.n.toNat → (copied m f d).val j = if f.toNat ≤ j ∧ j < f.toNat + d.length then d.getD (j - f.toNat) 0 else m.val j := by
  have hn2 := g.c.n1
  have gf := g.flush
  have hrng : (⟨2, f, d.length, []⟩ : Bop).rng = (f, (d.length : Int)) := rfl
  have hfit : (⟨2, f, d.length, []⟩ : Bop).fits m.flush.n := by
    unfold Bop.fits
    rw [hrng]
    dsimp only
    have e0 : m.flush.n = m.n := rfl
    have n0 := g.c.n0
    exact ⟨by omega, .inl ⟨rfl, rfl⟩⟩
  have e1 := doOp_ok hfit hz (Nat.zero_lt_succ 255)
  have g1 : (m.flush.doOp ⟨2, f, d.length, []⟩).2.good (b + 1) := gf.doOp (by omega) _
  have v1 : ∀ j, j < m.n.toNat → (m.flush.doOp ⟨2, f, d.length, []⟩).2.val j = if f.toNat ≤ j ∧ j < f.toNat + d.length then 0 else m.val j := fun j hj => by
    rw [doOp_val gf (by omega) (by rw [e1]) hj, hrng, flush_val]
    dsimp only
    by_cases c : f.toNat ≤ j ∧ j < f.toNat + d.length
    · rw [if_pos (by omega), if_pos c]; rfl
    · rw [if_neg (by omega), if_neg c]
  obtain ⟨m1, hm1⟩ : ∃ m1, (m.flush.doOp ⟨2, f, d.length, []⟩).2 = m1 := ⟨_, rfl⟩
  have n1 : m1.n = m.n := by rw [← hm1]; exact doOp_n _ _
  have z1 : m1.frozen = false := by rw [← hm1, e1]; exact hz
  have o1 : m1.opn.length ≤ 1 := by rw [← hm1, e1]; simp [Sm.flush]
  rw [hm1] at g1 v1
  obtain ⟨g2, n2, _, _, v2⟩ := cpN_val (V := fun j => if f.toNat ≤ j ∧ j < f.toNat + d.length then 0 else m.val j) (b := b + 1) (by omega) hf (by omega) (by omega) g1 z1 o1 (by rw [n1]; exact v1) ((d.length + 63) / 64) (Nat.le_refl _)
  unfold copied
  rw [hm1]
  refine ⟨g2.flush.mono (by omega), n2.trans n1, fun j hj => ?_⟩
  rw [flush_val, v2 j (by rw [n1]; exact hj)]
  by_cases c : f.toNat ≤ j ∧ j < f.toNat + d.length
  · rw [if_pos (by omega), if_pos c]
  · rw [if_neg (by omega), if_neg c, if_neg c]

/-! The volume's acts. -/
/-- The same map, and the same at each block. -/
def Vm.like (v w : Vm) : Prop := w.mp = v.mp ∧ ∀ k, k < 16 → ∀ j, j < v.mp.n.toNat → (w.sh k).val j = (v.sh k).val j
theorem Vm.like.refl (v : Vm) : v.like v := ⟨rfl, fun _ _ _ _ => rfl⟩
theorem Vm.like.trans {a b c : Vm} (h : a.like b) (k : b.like c) : a.like c := ⟨k.1.trans h.1, fun i hi j hj => (k.2 i hi j (by rw [h.1]; exact hj)).trans (h.2 i hi j hj)⟩
theorem Vm.like.shows {v w : Vm} {b : Nat} (h : v.like w) (g : v.good b) : w.shows = v.shows := by
  refine shows_eq (by rw [h.1]) fun j hj => ?_
  rw [h.1]
  exact h.2 _ (nodeAt_lt g.mp (j := j) (by omega) (by omega)).1 j hj
theorem Vm.upd_like {v : Vm} {k : Nat} {f : Sm → Sm} (h : k < 16 → ∀ j, j < v.mp.n.toNat → (f (v.sh k)).val j = (v.sh k).val j) : v.like (v.upd k f) := by
  refine ⟨rfl, fun i hi j hj => ?_⟩
  unfold Vm.upd
  by_cases e : i = k
  · subst e; rw [v.set_eq]; exact h hi j hj
  · rw [v.set_ne e]
theorem Vm.upd_good {v : Vm} {b c : Nat} (g : v.good b) (hc : b ≤ c) {k : Nat} {f : Sm → Sm} (hg : k < 16 → (f (v.sh k)).good c) (hn : (f (v.sh k)).n = (v.sh k).n) : (v.upd k f).good c := by
  refine ⟨g.mp, fun i hi => ?_⟩
  unfold Vm.upd
  by_cases e : i = k
  · subst e; rw [v.set_eq]; exact ⟨hg hi, hn.trans (g.sh _ hi).2⟩
  · rw [v.set_ne e]; exact ⟨(g.sh i hi).1.mono hc, (g.sh i hi).2⟩
theorem Vm.upd_mp (v : Vm) (k : Nat) (f : Sm → Sm) : (v.upd k f).mp = v.mp := rfl
theorem Vm.upd_ne (v : Vm) {k i : Nat} (f : Sm → Sm) (h : i ≠ k) : (v.upd k f).sh i = v.sh i := v.set_ne h _
theorem Vm.upd_eq (v : Vm) (k : Nat) (f : Sm → Sm) : (v.upd k f).sh k = f (v.sh k) := v.set_eq _ _
theorem flushL_like : ∀ (ks : List Nat) (v : Vm), v.like (v.flushL ks)
  | [], v => .refl v
  | k :: ks, v => (Vm.upd_like fun _ j _ => flush_val _ j).trans (flushL_like ks (v.upd k Sm.flush))
theorem flushL_good {b : Nat} : ∀ (ks : List Nat) (v : Vm), v.good b → (v.flushL ks).good b
  | [], v, g => g
  | k :: ks, v, g => flushL_good ks (v.upd k Sm.flush) (Vm.upd_good g (Nat.le_refl _) (fun hk => (g.sh k hk).1.flush) rfl)
theorem flushL_firm : ∀ (ks : List Nat) (v : Vm) (i : Nat), (i ∈ ks ∨ (v.sh i).firm) → ((v.flushL ks).sh i).firm
  | [], v, i, h => h.elim (fun e => by cases e) fun e => e
  | k :: ks, v, i, h => by
    refine flushL_firm ks (v.upd k Sm.flush) i ?_
    by_cases e : i = k
    · subst e; rw [v.upd_eq]; exact .inr (flush_firm _)
    · rw [v.upd_ne _ e]
      rcases h with h | h
      · rcases List.mem_cons.1 h with h | h
        · exact absurd h e
        · exact .inl h
      · exact .inr h
theorem flush_like (v : Vm) (ns : List Int) : v.like (v.flush ns).2 := by
  unfold Vm.flush
  repeat' split
  · exact flushL_like _ _
  · exact flushL_like _ _
  · exact .refl _
theorem flush_good {v : Vm} {b : Nat} (g : v.good b) (ns : List Int) : (v.flush ns).2.good b := by
  unfold Vm.flush
  repeat' split
  · exact flushL_good _ _ g
  · exact flushL_good _ _ g
  · exact g
theorem freeze_like (v : Vm) (n : Int) (y : Bool) : v.like (v.freeze n y).2 := by
  unfold Vm.freeze
  split
  · exact Vm.upd_like fun _ j _ => freeze_val _ y j
  · exact .refl _
theorem snap_like (v : Vm) (n x : Int) : v.like (v.snap n x).2 := by
  unfold Vm.snap
  split
  · exact Vm.upd_like fun _ j _ => snap_val _ x j
  · exact .refl _
theorem delete_like (v : Vm) (n x : Int) : v.like (v.delete n x).2 := by
  unfold Vm.delete
  split
  · exact Vm.upd_like fun _ j _ => delete_val _ x j
  · exact .refl _
theorem crash_err_like (v : Vm) (n : Int) (ks : List Bool) (h : (v.crash n ks).1 ≠ 0) : (v.crash n ks).2 = v := by
  unfold Vm.crash at *
  split at h
  · exact absurd rfl h
  · rename_i h1; rw [if_neg h1]
theorem crash_n (m : Sm) (ks : List Bool) : (m.crash ks).n = m.n := by
  unfold Sm.crash Sm.flush
  exact replay_n _ _ _
theorem crash_good {v : Vm} {b : Nat} (g : v.good b) (hb : b ≤ 1073741824) (n : Int) (ks : List Bool) : (v.crash n ks).2.good b := by
  unfold Vm.crash
  split
  · exact Vm.upd_good (f := fun m => m.crash ks) g (Nat.le_refl _) (fun hk => (g.sh _ hk).1.crash hb ks) (show ((v.sh n.toNat).crash ks).n = _ from crash_n _ _)
  · exact g
theorem snap_n (m : Sm) (x : Int) : (m.snap x).2.n = m.n := by
  unfold Sm.snap Sm.flush
  repeat' split
  all_goals rfl
theorem delete_n (m : Sm) (x : Int) : (m.delete x).2.n = m.n := by unfold Sm.delete; split <;> rfl
theorem freeze_sgood {m : Sm} {b : Nat} (g : m.good b) (y : Bool) : ({ m with frozen := y } : Sm).good b := by
  obtain ⟨x1, x2, x3, x4, x5, x6, x7, x8, x9, x10, x11, x12⟩ := g
  exact ⟨x1, x2, x3, x4, x5, x6, x7, x8, x9, x10, x11, x12⟩
theorem turn_split_like {v : Vm} {b : Nat} (g : v.good b) (x : Int) : (v.turn (v.mp.split x)).2.good b ∧ (v.turn (v.mp.split x)).2.shows = v.shows ∧ (v.turn (v.mp.split x)).2.mp.n = v.mp.n ∧ (v.turn (v.mp.split x)).2.mp.ver = v.mp.ver + (if (v.turn (v.mp.split x)).1 = 0 then 1 else 0) := by
  unfold Vm.turn
  dsimp only
  by_cases h : (v.mp.split x).2 = 0
  · rw [if_pos h, if_pos h]
    obtain ⟨t1, t2, t3, t4⟩ := Pl.SMap.split_turned h
    refine ⟨⟨t1, fun k hk => ⟨(g.sh k hk).1, (g.sh k hk).2.trans t3.symm⟩⟩, shows_eq t3 fun j hj => ?_, t3, t2⟩
    have : nodeAt (v.mp.split x).1 j = nodeAt v.mp j := t4 j (by omega)
    dsimp only
    rw [this]
  · rw [if_neg h, if_neg h]
    exact ⟨g, rfl, rfl, by omega⟩
theorem turn_merge_like {v : Vm} {b : Nat} (g : v.good b) (x : Int) : (v.turn (v.mp.merge x)).2.good b ∧ (v.turn (v.mp.merge x)).2.shows = v.shows ∧ (v.turn (v.mp.merge x)).2.mp.n = v.mp.n ∧ (v.turn (v.mp.merge x)).2.mp.ver = v.mp.ver + (if (v.turn (v.mp.merge x)).1 = 0 then 1 else 0) := by
  unfold Vm.turn
  dsimp only
  by_cases h : (v.mp.merge x).2 = 0
  · rw [if_pos h, if_pos h]
    obtain ⟨t1, t2, t3, t4⟩ := Pl.SMap.merge_turned h
    refine ⟨⟨t1, fun k hk => ⟨(g.sh k hk).1, (g.sh k hk).2.trans t3.symm⟩⟩, shows_eq t3 fun j hj => ?_, t3, t2⟩
    have : nodeAt (v.mp.merge x).1 j = nodeAt v.mp j := t4 j (by omega)
    dsimp only
    rw [this]
  · rw [if_neg h, if_neg h]
    exact ⟨g, rfl, rfl, by omega⟩
theorem move_like {v : Vm} {b : Nat} (g : v.good b) (hb : b + 41 ≤ 1073741824) (x n : Int) : (v.move x n).2.good (b + 20) ∧ (v.move x n).2.shows = v.shows ∧ (v.move x n).2.mp.n = v.mp.n ∧ (v.move x n).2.mp.ver = v.mp.ver + (if (v.move x n).1 = 0 then 1 else 0) := by
  unfold Vm.move
  by_cases h : (v.mp.move x n).2 = 0
  · rw [if_neg (fun e => e h)]
    dsimp only
    obtain ⟨p, hr, hbk, hfi, hpi, hno, hne, e1, e2, hr', hv', hn', hnd⟩ := Pl.SMap.move_ok h
    have hz : (v.mp.find x).2 = 0 := by unfold Pl.SMap.find; rw [if_pos hr, if_pos hbk]
    obtain ⟨p', hp', hpa, e3, e4, e5, e6, e7, e8⟩ := (Pl.SMap.find_of hz).2.2.2.2
    rw [hpi] at hp'; cases hp'
    rw [hpa]
    split
    · exact ⟨g.mono (by omega), rfl, rfl, by dsimp only; omega⟩
    rename_i hfz
    split
    · exact ⟨g.mono (by omega), rfl, rfl, by dsimp only; omega⟩
    rename_i hop
    have kf : p.node.toNat < 16 := by omega
    have kt : n.toNat < 16 := by omega
    have hkk : p.node.toNat ≠ n.toNat := by omega
    have gf := g.sh _ kf
    have gt := g.sh _ kt
    have hN := g.mp.1.2.2.2.1
    -- what is copied
    have hD : v.copyD p.node.toNat p = (((v.sh p.node.toNat).vol (v.sh p.node.toNat).now).drop p.frm.toNat).take (p.to - p.frm).toNat := by
      unfold Vm.copyD readL
      have hvl := (v.sh p.node.toNat).vol_len (v.sh p.node.toNat).now
      rw [gf.2] at hvl
      rw [if_neg (by omega), if_neg (by omega)]
    have hvl := (v.sh p.node.toNat).vol_len (v.sh p.node.toNat).now
    rw [gf.2] at hvl
    have hdl : (v.copyD p.node.toNat p).length = (p.to - p.frm).toNat := by rw [hD]; simp only [List.length_take, List.length_drop]; omega
    have hdv : ∀ i, i < (p.to - p.frm).toNat → (v.copyD p.node.toNat p).getD i 0 = (v.sh p.node.toNat).val (p.frm.toNat + i) := fun i hi => by rw [hD, getD_sub _ _ _ _ hi]; rfl
    obtain ⟨cg, cn, cv⟩ := copied_val (m := v.sh n.toNat) (b := b) (f := p.frm) (d := v.copyD p.node.toNat p) hb e6 (by omega) (by rw [gt.2]; omega) gt.1 (by
      cases hz : (v.sh n.toNat).frozen with
      | true => exact absurd (.inr hz) hfz
      | false => rfl)
    rw [gt.2] at cv cn
    have shk : ∀ k, (v.copies p.node.toNat n.toNat p).sh k = if k = p.node.toNat then (v.sh k).flush else if k = n.toNat then copied (v.sh n.toNat) p.frm (v.copyD p.node.toNat p) else v.sh k := fun k => by
      unfold Vm.copies Vm.upd
      by_cases c1 : k = p.node.toNat
      · rw [if_pos c1, c1, Vm.set_eq, Vm.set_ne _ hkk]
      · rw [if_neg c1, Vm.set_ne _ c1]
        by_cases c2 : k = n.toNat
        · rw [if_pos c2, c2, Vm.set_eq]
        · rw [if_neg c2, Vm.set_ne _ c2]
    refine ⟨⟨hr', fun k hk => ?_⟩, shows_eq hn' fun j hj => ?_, hn', by rw [hv', if_pos rfl]⟩
    · dsimp only
      rw [shk, hn']
      split
      · exact ⟨(g.sh k hk).1.flush.mono (by omega), (g.sh k hk).2⟩
      · split
        · exact ⟨cg, cn⟩
        · exact ⟨(g.sh k hk).1.mono (by omega), (g.sh k hk).2⟩
    · dsimp only
      have hnj : nodeAt (v.mp.move x n).1 j = if p.frm ≤ (j : Int) ∧ (j : Int) < p.to then n.toNat else nodeAt v.mp j := hnd j (by omega)
      rw [hnj, shk]
      by_cases c : p.frm ≤ (j : Int) ∧ (j : Int) < p.to
      · rw [if_pos c, if_neg (Ne.symm hkk), if_pos rfl, cv j hj, if_pos (by omega), hdv _ (by omega), nodeAt_of g.mp hpi c.1 c.2]
        congr 1; omega
      · rw [if_neg c]
        by_cases c1 : nodeAt v.mp j = p.node.toNat
        · rw [if_pos c1, flush_val]
        · rw [if_neg c1]
          by_cases c2 : nodeAt v.mp j = n.toNat
          · rw [if_pos c2, cv j hj, if_neg (by omega), c2]
          · rw [if_neg c2]
  · rw [if_pos h]
    exact ⟨g.mono (by omega), rfl, rfl, by dsimp only; rw [if_neg h]; omega⟩

/-! A script's acts. -/
structure VAct where
  kd : Nat
  late : Int
  at_ : Int
  node : Int
  op : Pl.Op
  keep : List Bool
  yes : Bool
def VAct.inI (a : VAct) : Prop := Proofs.YtedpfdflolkpeaaGreatDoor.inI a.late ∧ Proofs.YtedpfdflolkpeaaGreatDoor.inI a.at_ ∧ Proofs.YtedpfdflolkpeaaGreatDoor.inI a.node ∧ a.op.ok ∧ a.kd < 256
def Vm.act (v : Vm) (a : VAct) : Int × Vm :=
  if a.kd % 10 = 0 then v.do (IntKind.i64.wrap (v.mp.ver - a.late)) a.op else if a.kd % 10 = 1 then v.flush (if a.node < 0 then [] else [a.node]) else if a.kd % 10 = 2 then v.turn (v.mp.split a.at_) else if a.kd % 10 = 3 then v.turn (v.mp.merge a.at_) else
  if a.kd % 10 = 4 then v.move a.at_ a.node else if a.kd % 10 = 5 then v.crash a.node a.keep else if a.kd % 10 = 6 then v.freeze a.node a.yes else if a.kd % 10 = 7 then v.snap a.node a.at_ else if a.kd % 10 = 8 then v.delete a.node a.at_ else
  ((v.read (IntKind.i64.wrap (v.mp.ver - a.late)) a.at_ a.op.len).2, v)
theorem do_good {v : Vm} {b : Nat} (g : v.good b) (hb : b + 16 ≤ 1073741824) (ver : Int) (o : Pl.Op) : (v.do ver o).2.good (b + 16) ∧ (v.do ver o).2.mp = v.mp := by
  unfold Vm.do
  repeat' split
  · exact ⟨g.mono (by omega), rfl⟩
  · exact ⟨g.mono (by omega), rfl⟩
  · exact ⟨g.mono (by omega), rfl⟩
  · refine ⟨Vm.good.doL (c := b) g (by have := segs_ge (m := v.mp) (o := o); omega) hb fun p hp => ?_, Vm.doL_mp _ _⟩
    have := ops_node hp
    omega
/-- An act: it stays right, and has as many blocks; its map's version. -/
theorem act_good {v : Vm} {b : Nat} (g : v.good b) (hb : b + 41 ≤ 1073741824) {a : VAct} (ha : inI a.at_) : (v.act a).2.good (b + 20) ∧ (v.act a).2.mp.n = v.mp.n := by
  unfold Vm.act
  by_cases k0 : a.kd % 10 = 0
  · rw [if_pos k0]
    obtain ⟨g1, g2⟩ := do_good g (by omega) (IntKind.i64.wrap (v.mp.ver - a.late)) a.op
    exact ⟨g1.mono (by omega), by rw [g2]⟩
  rw [if_neg k0]
  by_cases k1 : a.kd % 10 = 1
  · rw [if_pos k1]
    exact ⟨(flush_good g _).mono (by omega), by rw [(flush_like v _).1]⟩
  rw [if_neg k1]
  by_cases k2 : a.kd % 10 = 2
  · rw [if_pos k2]
    have := turn_split_like g a.at_
    exact ⟨this.1.mono (by omega), this.2.2.1⟩
  rw [if_neg k2]
  by_cases k3 : a.kd % 10 = 3
  · rw [if_pos k3]
    have := turn_merge_like g a.at_
    exact ⟨this.1.mono (by omega), this.2.2.1⟩
  rw [if_neg k3]
  by_cases k4 : a.kd % 10 = 4
  · rw [if_pos k4]
    have := move_like g hb a.at_ a.node
    exact ⟨this.1, this.2.2.1⟩
  rw [if_neg k4]
  by_cases k5 : a.kd % 10 = 5
  · rw [if_pos k5]
    refine ⟨(crash_good g (by omega) a.node a.keep).mono (by omega), ?_⟩
    unfold Vm.crash; split <;> rfl
  rw [if_neg k5]
  by_cases k6 : a.kd % 10 = 6
  · rw [if_pos k6]
    refine ⟨?_, by rw [(freeze_like v _ _).1]⟩
    unfold Vm.freeze
    split
    · exact Vm.upd_good (c := b + 20) (f := fun m => { m with frozen := a.yes }) g (by omega) (fun hk => (freeze_sgood (g.sh _ hk).1 a.yes).mono (by omega)) rfl
    · exact g.mono (by omega)
  rw [if_neg k6]
  by_cases k7 : a.kd % 10 = 7
  · rw [if_pos k7]
    refine ⟨?_, by rw [(snap_like v _ _).1]⟩
    unfold Vm.snap
    split
    · exact Vm.upd_good (c := b + 20) (f := fun m => (m.snap a.at_).2) g (by omega) (fun hk => ((g.sh _ hk).1.snap ha).mono (by omega)) (show ((v.sh a.node.toNat).snap a.at_).2.n = _ from snap_n _ _)
    · exact g.mono (by omega)
  rw [if_neg k7]
  by_cases k8 : a.kd % 10 = 8
  · rw [if_pos k8]
    refine ⟨?_, by rw [(delete_like v _ _).1]⟩
    unfold Vm.delete
    split
    · exact Vm.upd_good (c := b + 20) (f := fun m => (m.delete a.at_).2) g (by omega) (fun hk => ((g.sh _ hk).1.delete a.at_).mono (by omega)) (show ((v.sh a.node.toNat).delete a.at_).2.n = _ from delete_n _ _)
    · exact g.mono (by omega)
  rw [if_neg k8]
  exact ⟨g.mono (by omega), rfl⟩
/-- An act that is refused, or that does not do and crashes no node, turns nothing that is shown; a map's turn makes the next version. -/
theorem act_shows {v : Vm} {b : Nat} (g : v.good b) (hb : b + 41 ≤ 1073741824) {a : VAct} (h : (v.act a).1 ≠ 0 ∨ (a.kd % 10 ≠ 0 ∧ a.kd % 10 ≠ 5)) :
    (v.act a).2.shows = v.shows ∧ (v.act a).2.mp.ver = v.mp.ver + (if 2 ≤ a.kd % 10 ∧ a.kd % 10 ≤ 4 ∧ (v.act a).1 = 0 then 1 else 0) := by
  unfold Vm.act at *
  by_cases k0 : a.kd % 10 = 0
  · rw [if_pos k0] at h ⊢
    rw [if_neg (by omega)]
    have h1 : (v.do (IntKind.i64.wrap (v.mp.ver - a.late)) a.op).1 ≠ 0 := h.elim id fun e => absurd k0 e.1
    have : (v.do (IntKind.i64.wrap (v.mp.ver - a.late)) a.op).2 = v := by
      unfold Vm.do at h1 ⊢
      by_cases c1 : IntKind.i64.wrap (v.mp.ver - a.late) ≠ v.mp.ver
      · rw [if_pos c1]
      · rw [if_neg c1] at h1 ⊢
        by_cases c2 : v.mp.err a.op ≠ 0
        · rw [if_pos c2]
        · rw [if_neg c2] at h1 ⊢
          by_cases c3 : v.may (v.mp.ops a.op) ≠ 0
          · rw [if_pos c3]
          · rw [if_neg c3] at h1; exact absurd rfl h1
    rw [this]
    exact ⟨rfl, by omega⟩
  rw [if_neg k0] at h ⊢
  by_cases k1 : a.kd % 10 = 1
  · rw [if_pos k1]
    exact ⟨(flush_like v _).shows g, by rw [(flush_like v _).1, if_neg (by omega)]; omega⟩
  rw [if_neg k1] at h ⊢
  by_cases k2 : a.kd % 10 = 2
  · rw [if_pos k2]
    have := turn_split_like g a.at_
    refine ⟨this.2.1, ?_⟩
    rw [this.2.2.2]
    by_cases c : (v.turn (v.mp.split a.at_)).1 = 0
    · rw [if_pos c, if_pos ⟨by omega, by omega, c⟩]
    · rw [if_neg c, if_neg (fun e => c e.2.2)]
  rw [if_neg k2] at h ⊢
  by_cases k3 : a.kd % 10 = 3
  · rw [if_pos k3]
    have := turn_merge_like g a.at_
    refine ⟨this.2.1, ?_⟩
    rw [this.2.2.2]
    by_cases c : (v.turn (v.mp.merge a.at_)).1 = 0
    · rw [if_pos c, if_pos ⟨by omega, by omega, c⟩]
    · rw [if_neg c, if_neg (fun e => c e.2.2)]
  rw [if_neg k3] at h ⊢
  by_cases k4 : a.kd % 10 = 4
  · rw [if_pos k4]
    have := move_like g hb a.at_ a.node
    refine ⟨this.2.1, ?_⟩
    rw [this.2.2.2]
    by_cases c : (v.move a.at_ a.node).1 = 0
    · rw [if_pos c, if_pos ⟨by omega, by omega, c⟩]
    · rw [if_neg c, if_neg (fun e => c e.2.2)]
  rw [if_neg k4] at h ⊢
  by_cases k5 : a.kd % 10 = 5
  · rw [if_pos k5] at h ⊢
    have h1 : (v.crash a.node a.keep).1 ≠ 0 := h.elim id fun e => absurd k5 e.2
    rw [crash_err_like v _ _ h1, if_neg (by omega)]
    exact ⟨rfl, by omega⟩
  rw [if_neg k5]
  by_cases k6 : a.kd % 10 = 6
  · rw [if_pos k6]
    exact ⟨(freeze_like v _ _).shows g, by rw [(freeze_like v _ _).1, if_neg (by omega)]; omega⟩
  rw [if_neg k6]
  by_cases k7 : a.kd % 10 = 7
  · rw [if_pos k7]
    exact ⟨(snap_like v _ _).shows g, by rw [(snap_like v _ _).1, if_neg (by omega)]; omega⟩
  rw [if_neg k7]
  by_cases k8 : a.kd % 10 = 8
  · rw [if_pos k8]
    exact ⟨(delete_like v _ _).shows g, by rw [(delete_like v _ _).1, if_neg (by omega)]; omega⟩
  rw [if_neg k8, if_neg (by omega)]
  exact ⟨rfl, by dsimp only; omega⟩
/-- What is read of all. -/
theorem read_all {v : Vm} {b : Nat} (g : v.good b) : v.read v.mp.ver 0 v.mp.n = (v.shows, 0) := by
  unfold Vm.read
  have h := g.mp.1
  rw [if_neg (fun e => e rfl), if_pos]
  · congr 1
    rw [show ((0 : Int)).toNat = 0 from rfl, List.drop_zero, List.take_of_length_le (by rw [v.shows_len]; exact Nat.le_refl _)]
  · unfold Pl.Op.right Pl.rdOp Pl.lies
    exact ⟨⟨by omega, by omega⟩, .inl ⟨rfl, rfl, by dsimp only; omega, by dsimp only; omega⟩⟩
theorem late_ver {v : Vm} {b : Nat} (g : v.good b) {l : Int} (hl : inI l) : IntKind.i64.wrap (v.mp.ver - l) = v.mp.ver ↔ l = 0 := by
  have h := g.mp.1
  unfold inI at hl
  have e : IntKind.i64.wrap (v.mp.ver - l) = (v.mp.ver - l + 9223372036854775808) % 18446744073709551616 - 9223372036854775808 := by
    simp [IntKind.wrap, IntKind.bits, IntKind.signed]
    omega
  rw [e]
  omega
theorem act_late {v : Vm} {b : Nat} (g : v.good b) {a : VAct} (hl : inI a.late) (h0 : a.late ≠ 0) (hk : a.kd % 10 = 0 ∨ a.kd % 10 = 9) : (v.act a).1 = 13 := by
  have hv : IntKind.i64.wrap (v.mp.ver - a.late) ≠ v.mp.ver := fun e => h0 ((late_ver g hl).1 e)
  unfold Vm.act
  rcases hk with hk | hk
  · rw [if_pos hk]; unfold Vm.do; rw [if_pos hv]
  · rw [if_neg (by omega), if_neg (by omega), if_neg (by omega), if_neg (by omega), if_neg (by omega), if_neg (by omega), if_neg (by omega), if_neg (by omega), if_neg (by omega)]
    unfold Vm.read; rw [if_pos hv]
end Go.Proofs.YtedpfdflolkpeaaGreatDoor
