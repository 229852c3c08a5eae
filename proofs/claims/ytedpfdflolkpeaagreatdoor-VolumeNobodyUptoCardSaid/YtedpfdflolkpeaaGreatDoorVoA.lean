/- volume: the plain model: a map over shards, and what it shows. -/
import Derived.Test.YtedpfdflolkpeaaGreatDoorVoP
import Derived.Test.YtedpfdflolkpeaaGreatDoorVoT
set_option linter.unusedSimpArgs false
set_option linter.unusedVariables false
set_option linter.unnecessarySimpa false
set_option maxRecDepth 100000
namespace Go.Proofs.YtedpfdflolkpeaaGreatDoor
open Go.AM

/-- An op of a part, as a shard takes it. -/
def Pl.Op.b (o : Pl.Op) : Bop := ⟨o.kind, o.off, o.len, o.data⟩
structure Vm where
  mp : Pl.SMap
  sh : Nat → Sm
def Vm.set (v : Vm) (k : Nat) (m : Sm) : Vm := { v with sh := fun i => if i = k then m else v.sh i }
theorem Vm.set_eq (v : Vm) (k : Nat) (m : Sm) : (v.set k m).sh k = m := if_pos rfl
theorem Vm.set_ne (v : Vm) {k i : Nat} (h : i ≠ k) (m : Sm) : (v.set k m).sh i = v.sh i := if_neg h
theorem Vm.set_mp (v : Vm) (k : Nat) (m : Sm) : (v.set k m).mp = v.mp := rfl
/-- The node of a block. -/
def nodeAt (m : Pl.SMap) (j : Int) : Nat := ((m.ps[Pl.idxP j m.ps]?).elim 0 (·.node)).toNat
/-- What a shard has at a block. -/
def Sm.val (m : Sm) (j : Nat) : Nat := (m.vol m.now).getD j 0
/-- What the volume shows. -/
def Vm.shows (v : Vm) : List Nat := (List.range v.mp.n.toNat).map fun (j : Nat) => (v.sh (nodeAt v.mp j)).val j
structure Vm.good (v : Vm) (b : Nat) : Prop where
  mp : v.mp.right
  sh : ∀ k, k < 16 → (v.sh k).good b ∧ (v.sh k).n = v.mp.n
theorem Vm.good.mono {v : Vm} {b c : Nat} (g : v.good b) (h : b ≤ c) : v.good c := ⟨g.mp, fun k hk => ⟨(g.sh k hk).1.mono h, (g.sh k hk).2⟩⟩
theorem Vm.good.set {v : Vm} {b : Nat} (g : v.good b) {k : Nat} {m : Sm} (gm : m.good b) (hn : m.n = v.mp.n) : (v.set k m).good b :=
  ⟨g.mp, fun i hi => by
    by_cases e : i = k
    · subst e; rw [v.set_eq]; exact ⟨gm, hn⟩
    · rw [v.set_ne e]; exact g.sh i hi⟩
theorem Vm.shows_len (v : Vm) : v.shows.length = v.mp.n.toNat := by simp [Vm.shows]
theorem Vm.shows_get (v : Vm) {j : Nat} (h : j < v.mp.n.toNat) : v.shows[j]? = some ((v.sh (nodeAt v.mp j)).val j) := by
  unfold Vm.shows
  rw [List.getElem?_map, List.getElem?_range h]; rfl
theorem shows_eq {v w : Vm} (hn : w.mp.n = v.mp.n) (h : ∀ j, j < v.mp.n.toNat → (w.sh (nodeAt w.mp j)).val j = (v.sh (nodeAt v.mp j)).val j) : w.shows = v.shows := by
  unfold Vm.shows
  rw [hn]
  exact List.map_congr_left fun j hj => h j (List.mem_range.1 hj)
theorem nodeAt_of {m : Pl.SMap} (hr : m.right) {i : Nat} {p : Pl.Piece} (hp : m.ps[i]? = some p) {j : Int} (h1 : p.frm ≤ j) (h2 : j < p.to) : nodeAt m j = p.node.toNat := by
  unfold nodeAt
  rw [(Pl.chain_uniq hr.2 hp h1 h2).1, hp]; rfl
theorem nodeAt_lt {m : Pl.SMap} (hr : m.right) {j : Int} (h1 : 0 ≤ j) (h2 : j < m.n) : nodeAt m j < 16 ∧ ∃ p, m.ps[Pl.idxP j m.ps]? = some p ∧ p.frm ≤ j ∧ j < p.to ∧ nodeAt m j = p.node.toNat ∧ 0 ≤ p.node ∧ p.node < 16 := by
  obtain ⟨p, e1, e2, e3, _, _, _, e4, e5⟩ := Pl.chain_idx hr.2 h1 h2
  have : nodeAt m j = p.node.toNat := by unfold nodeAt; rw [e1]; rfl
  exact ⟨by omega, p, e1, e2, e3, this, e4, e5⟩

/-! What is read. -/
theorem segs_ok {m : Pl.SMap} (hr : m.right) {a b : Int} (h0 : 0 ≤ a) (hb : b ≤ m.n) {s : Nat × Int × Int × Int} (hs : s ∈ Pl.segs 0 m.ps a b) :
    ∃ p, m.ps[s.1]? = some p ∧ s.2.1 = p.node ∧ 0 ≤ p.node ∧ p.node < 16 ∧ p.frm ≤ s.2.2.1 ∧ s.2.2.2 ≤ p.to ∧ a ≤ s.2.2.1 ∧ s.2.2.2 ≤ b ∧ s.2.2.1 < s.2.2.2 := by
  obtain ⟨p, _, e2, e3, e4, e5, e6⟩ := Pl.segs_mem hs
  rw [Nat.sub_zero] at e2
  have hc := Pl.chain_uniq hr.2 e2 (f := s.2.2.1) (by omega) (by omega)
  obtain ⟨q, k1, _, _, _, _, _, k4, k5⟩ := Pl.chain_idx hr.2 hc.2.1 hc.2.2.1
  rw [hc.1, e2] at k1
  cases k1
  exact ⟨p, e2, e3, k4, k5, by omega, by omega, by omega, by omega, e6⟩
/-- What is read of a part. -/
def Vm.part (v : Vm) (p : Pl.Part) : List Nat := (readL ((v.sh p.node.toNat).vol (v.sh p.node.toNat).now) p.op.off p.op.len).1
theorem drop_take_eq {xs ys : List Nat} {f k : Nat} (hl : xs.length = ys.length) (h : ∀ j, f ≤ j → j < f + k → xs[j]? = ys[j]?) : (xs.drop f).take k = (ys.drop f).take k := by
  apply List.ext_getElem?
  intro j
  rw [List.getElem?_take, List.getElem?_take]
  split
  · rw [List.getElem?_drop, List.getElem?_drop]; exact h _ (by omega) (by omega)
  · rfl
theorem vol_get {m : Sm} {b : Nat} (g : m.good b) {j : Nat} (hj : j < m.n.toNat) : (m.vol m.now)[j]? = some (m.val j) := by
  unfold Sm.val
  rw [List.getD, List.getElem?_eq_getElem (by rw [m.vol_len]; exact hj)]; rfl
theorem read_seg {v : Vm} {b : Nat} (g : v.good b) {a c : Int} (h0 : 0 ≤ a) (hc : c ≤ v.mp.n) {s : Nat × Int × Int × Int} (hs : s ∈ Pl.segs 0 v.mp.ps a c) :
    readL ((v.sh s.2.1.toNat).vol (v.sh s.2.1.toNat).now) s.2.2.1 (s.2.2.2 - s.2.2.1) = ((v.shows.drop s.2.2.1.toNat).take (s.2.2.2 - s.2.2.1).toNat, 0) := by
  obtain ⟨p, e1, e2, e3, e4, e5, e6, e7, e8, e9⟩ := segs_ok g.mp h0 hc hs
  have hk : s.2.1.toNat < 16 := by omega
  have gk := g.sh _ hk
  have hn := g.mp.1
  have hl : ((v.sh s.2.1.toNat).vol (v.sh s.2.1.toNat).now).length = v.mp.n.toNat := by rw [Sm.vol_len, gk.2]
  unfold readL
  rw [if_neg (by omega), if_neg (by omega)]
  congr 1
  refine drop_take_eq (by rw [hl, v.shows_len]) fun j h1 h2 => ?_
  rw [v.shows_get (by omega), vol_get gk.1 (by rw [gk.2]; omega), nodeAt_of g.mp e1 (j := j) (by omega) (by omega), e2]
theorem reads_eq {v : Vm} {b : Nat} (g : v.good b) {off n : Int} (hr : (Pl.rdOp off n).right v.mp.n) :
    ((v.mp.reads off n).map v.part).flatten = (v.shows.drop off.toNat).take n.toNat ∧ Pl.lensD ((v.mp.reads off n).map v.part) = Pl.lensP (v.mp.reads off n) := by
  have hl := Pl.Op.range_right hr
  have er : (Pl.rdOp off n).range = (off, n) := Pl.Op.range2 rfl
  rw [er] at hl
  dsimp only at hl
  unfold Pl.SMap.reads
  rw [if_pos ⟨g.mp, hr⟩]
  have key : ∀ s ∈ Pl.segs 0 v.mp.ps off (off + n), v.part ⟨s.1, s.2.1, Pl.Op.cut ⟨0, off, n, []⟩ s.2.2.1 (s.2.2.2 - s.2.2.1)⟩ = (v.shows.drop s.2.2.1.toNat).take (s.2.2.2 - s.2.2.1).toNat := fun s hs => by
    unfold Vm.part
    rw [Pl.rdcut]
    dsimp only
    rw [read_seg g hl.2.2.1 hl.2.2.2.2 hs]
  constructor
  · rw [Pl.mkParts, List.map_map, List.map_congr_left (g := fun s => (v.shows.drop s.2.2.1.toNat).take (s.2.2.2 - s.2.2.1).toNat) (by intro s hs; exact key s hs), Pl.segs_read v.shows g.mp.2 (Int.le_refl 0) _ rfl hl.2.2.1 (by omega) hl.2.2.2.2]
    congr 1; omega
  · unfold Pl.lensD Pl.lensP Pl.mkParts
    rw [List.map_map, List.map_map, List.map_map]
    refine List.map_congr_left fun s hs => ?_
    simp only [Function.comp]
    rw [key s hs, Pl.rdcut]
    obtain ⟨p, e1, e2, e3, e4, e5, e6, e7, e8, e9⟩ := segs_ok g.mp hl.2.2.1 hl.2.2.2.2 hs
    rw [List.length_take, List.length_drop, v.shows_len]
    dsimp only
    omega
/-- What a read answers. -/
def Vm.read (v : Vm) (ver off n : Int) : List Nat × Int :=
  if ver ≠ v.mp.ver then ([], 13) else if (Pl.rdOp off n).right v.mp.n then ((v.shows.drop off.toNat).take n.toNat, 0) else ([], 9)
theorem join_eq {v : Vm} {b : Nat} (g : v.good b) {off n : Int} : v.mp.join off n ((v.mp.reads off n).map v.part) = v.read v.mp.ver off n := by
  unfold Pl.SMap.join Vm.read Pl.SMap.err
  rw [if_pos g.mp]
  have hv : ¬ v.mp.ver ≠ v.mp.ver := fun e => e rfl
  rw [if_neg hv]
  by_cases hr : (Pl.rdOp off n).right v.mp.n
  · rw [if_pos hr, if_pos hr, if_neg (by decide), if_pos (reads_eq g hr).2.symm, (reads_eq g hr).1]
  · rw [if_neg hr, if_neg hr, if_pos (by decide)]

/-! What is done. -/
def may1 (v : Vm) : List Pl.Part → Int
  | [] => 0
  | p :: l => if (v.sh p.node.toNat).frozen then 11 else if 256 ≤ (v.sh p.node.toNat).opn.length then 6 else may1 v l
def cntN (l : List Pl.Part) (x : Int) : Nat := (l.filter fun p => decide (p.node = x)).length
def may2 (v : Vm) : List Pl.Part → List Pl.Part → Int
  | _, [] => 0
  | pre, p :: l => if 256 < (v.sh p.node.toNat).opn.length + (cntN pre p.node + 1) then 6 else may2 v (pre ++ [p]) l
def Vm.may (v : Vm) (l : List Pl.Part) : Int := if may1 v l ≠ 0 then may1 v l else may2 v [] l
def Vm.one (v : Vm) (p : Pl.Part) : Vm := v.set p.node.toNat ((v.sh p.node.toNat).doOp p.op.b).2
def Vm.doL (v : Vm) (l : List Pl.Part) : Vm := l.foldl Vm.one v
def Vm.do (v : Vm) (ver : Int) (o : Pl.Op) : Int × Vm :=
  if ver ≠ v.mp.ver then (13, v) else if v.mp.err o ≠ 0 then (v.mp.err o, v) else if v.may (v.mp.ops o) ≠ 0 then (v.may (v.mp.ops o), v) else (0, v.doL (v.mp.ops o))
theorem doOp_n (m : Sm) (o : Bop) : (m.doOp o).2.n = m.n := by unfold Sm.doOp; split; rfl; split; rfl; split <;> rfl
theorem Vm.one_mp (v : Vm) (p : Pl.Part) : (v.one p).mp = v.mp := rfl
theorem Vm.good.one {v : Vm} {b : Nat} (g : v.good b) (hb : b < 1073741824) {p : Pl.Part} (hp : p.node.toNat < 16) : (v.one p).good (b + 1) :=
  (g.mono (Nat.le_succ b)).set ((g.sh _ hp).1.doOp hb _) ((doOp_n _ _).trans (g.sh _ hp).2)
theorem Vm.good.doL {b : Nat} : ∀ {l : List Pl.Part} {v : Vm} {c : Nat}, v.good c → c + l.length ≤ b → b ≤ 1073741824 → (∀ p ∈ l, p.node.toNat < 16) → (v.doL l).good b
  | [], _, _, g, hc, _, _ => g.mono (by simpa using hc)
  | p :: l, v, c, g, hc, hb, hp => by
    simp only [List.length_cons] at hc
    exact Vm.good.doL (l := l) (g.one (by omega) (hp p (by simp))) (by omega) hb fun q hq => hp q (by simp [hq])
theorem Vm.doL_mp : ∀ (l : List Pl.Part) (v : Vm), (v.doL l).mp = v.mp
  | [], _ => rfl
  | p :: l, v => Vm.doL_mp l (v.one p)
theorem ops_node {m : Pl.SMap} {o : Pl.Op} {p : Pl.Part} (hp : p ∈ m.ops o) : 0 ≤ p.node ∧ p.node < 16 := by
  unfold Pl.SMap.ops at hp
  split at hp
  · rename_i hr
    unfold Pl.SMap.parts Pl.mkParts at hp
    obtain ⟨s, hs, rfl⟩ := List.mem_map.1 hp
    have hl := Pl.Op.range_right hr.2
    obtain ⟨q, _, e2, e3, e4, _⟩ := segs_ok hr.1 hl.2.2.1 hl.2.2.2.2 hs
    exact ⟨by dsimp only; omega, by dsimp only; omega⟩
  · cases hp
end Go.Proofs.YtedpfdflolkpeaaGreatDoor
