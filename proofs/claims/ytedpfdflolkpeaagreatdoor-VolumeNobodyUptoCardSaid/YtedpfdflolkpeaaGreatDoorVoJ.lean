/- volume: copies, Move, New: the walk. -/
import Derived.Test.YtedpfdflolkpeaaGreatDoorVoI
set_option linter.unusedSimpArgs false
set_option linter.unusedVariables false
set_option linter.unnecessarySimpa false
set_option maxRecDepth 100000
namespace Go.Proofs.YtedpfdflolkpeaaGreatDoor
open Go.AM
/-- A shard behind so many writes of blocks that are copied. -/
def cpN (m : Sm) (f : Int) (d : List Nat) : Nat → Sm
  | 0 => m
  | r + 1 => ((cpN m f d r).doOp ⟨1, f + (64 * r : Nat), 0, (d.drop (64 * r)).take 64⟩).2
def copied (m : Sm) (f : Int) (d : List Nat) : Sm := (cpN (m.flush.doOp ⟨2, f, d.length, []⟩).2 f d ((d.length + 63) / 64)).flush
def Vm.copyD (v : Vm) (kf : Nat) (p : Pl.Piece) : List Nat := (readL ((v.sh kf).vol (v.sh kf).now) p.frm (p.to - p.frm)).1
def Vm.copies (v : Vm) (kf kt : Nat) (p : Pl.Piece) : Vm := (v.set kt (copied (v.sh kt) p.frm (v.copyD kf p))).upd kf Sm.flush
def Vm.move (v : Vm) (block node : Int) : Int × Vm :=
  if (v.mp.move block node).2 ≠ 0 then ((v.mp.move block node).2, v) else
  let p := Pl.pieceAt v.mp (v.mp.find block).1.toNat
  if (v.sh p.node.toNat).frozen = true ∨ (v.sh node.toNat).frozen = true then (11, v) else
  if 200 < (v.sh p.node.toNat).opn.length ∨ 200 < (v.sh node.toNat).opn.length then (6, v) else (0, { v.copies p.node.toNat node.toNat p with mp := (v.mp.move block node).1 })
theorem cpN_good {b : Nat} {f : Int} {d : List Nat} : ∀ (r : Nat) {m : Sm} {c : Nat}, m.good c → c + r ≤ b → b ≤ 1073741824 → (cpN m f d r).good (c + r)
  | 0, _, _, g, _, _ => g
  | r + 1, m, c, g, h1, h2 => (cpN_good (b := b) r g (by omega) h2).doOp (by omega) _
theorem cpN_n (m : Sm) (f : Int) (d : List Nat) : ∀ r, (cpN m f d r).n = m.n
  | 0 => rfl
  | r + 1 => (doOp_n _ _).trans (cpN_n m f d r)
section
variable {ow ow' ow'' : Nat → Nat → Nat} {h h' h'' : AHeap} {id : Nat} {v : Vm} {S : Nat → Prop} {b : Nat}
theorem set_set (v : Vm) (k : Nat) (m m' : Sm) : (v.set k m).set k m' = v.set k m' := by
  unfold Vm.set
  congr 1
  funext i
  dsimp only
  split <;> rfl
theorem copies_ok {pv sv : Value} {ids : Nat → Nat} (c : VC ow h id v pv sv ids) (g : v.good b) (hb : b + 20 ≤ 1073741824) {kf kt : Nat} (hf : kf < 16) (ht : kt < 16) {p : Pl.Piece} (hne : kf ≠ kt) (h0 : 0 ≤ p.frm) (h1 : p.frm ≤ p.to) (h2 : p.to ≤ v.mp.n) (hn : v.mp.n ≤ 1024) :
    Does Tryz.prog 64 #[.pointer (some ⟨ids kf, 0, none⟩), .pointer (some ⟨ids kt, 0, none⟩), .agg #[.int .i64 p.frm, .int .i64 p.to, .int .i64 p.node]] h (fun u h' => u = .tuple #[] ∧ ∃ ow', VC ow' h' id (v.copies kf kt p) pv sv ids ∧ VKs id ow h ow' h') := by
  refine spec_go mixed Tryz.func64 rfl Tryz.results64 (n := Tryz.f64.ntmps) (by kernel_rfl) (by simp) ?_
  have w1 : IntKind.i64.wrap (p.to - p.frm) = p.to - p.frm := by rw [wi64] <;> omega
  simp only [go_sem, simprocAttr, w1]
  have q0 : h.quiet (h.push (.cells [.int .i64 p.frm, .int .i64 p.to, .int .i64 p.node] .rw)) := .push _ _
  have g0 : (h.push (.cells [.int .i64 p.frm, .int .i64 p.to, .int .i64 p.node] .rw)).get h.next = .cells [.int .i64 p.frm, .int .i64 p.to, .int .i64 p.node] .rw := by simp
  have l0 : h.next < (h.push (.cells [.int .i64 p.frm, .int .i64 p.to, .int .i64 p.node] .rw)).next := by simp
  have c0 := c.quiet q0
  have vk0 := VKs.of_quiet (id := id) (ow := ow) q0
  have hfr0 : fr (cutO ow h) h.next := cutO_ge (Nat.le_refl _)
  have hidn : h.next ≠ id := by have := c.lt; omega
  generalize h.push (.cells [.int .i64 p.frm, .int .i64 p.to, .int .i64 p.node] .rw) = k at q0 g0 c0 vk0 l0
  refine cl_spec (sRead_ok (c0.sat _ hf) (g.sh _ hf).1 (by unfold inJ; omega) (by unfold inJ; omega)) (fun _ _ _ hc => absurd hc (by decide +kernel)) ?_
  rintro u k1 ⟨w, rfl, hw, q1⟩
  have hd0 : (readL ((v.sh kf).vol (v.sh kf).now) p.frm (p.to - p.frm)).1 = v.copyD kf p := rfl
  rw [hd0] at hw
  obtain ⟨d, hd⟩ : ∃ d, v.copyD kf p = d := ⟨_, rfl⟩
  have hdl : d.length ≤ 1024 := by
    rw [← hd]; unfold Vm.copyD readL
    split
    · simp
    · split
      · simp
      · rename_i h3 h4
        simp only [List.length_take, List.length_drop]; omega
  have hcop : v.copies kf kt p = (v.set kt (copied (v.sh kt) p.frm d)).upd kf Sm.flush := by unfold Vm.copies; rw [hd]
  rw [hd] at hw
  obtain ⟨aw, cw, rfl⟩ := hw.shape
  have g1 := (q1.2 _ l0).trans g0
  have c1 := c0.quiet q1
  have vk1 := vk0.trans (VKs.of_quiet (id := id) (ow := cutO ow h) q1)
  have l1 := Nat.lt_of_lt_of_le l0 q1.1
  have hfr1 : fr (cutO (cutO ow h) k) h.next := fr_cut hfr0
  have hw1 : Words (fun j => fr (cutO (cutO ow h) k) j ∧ j ≠ id) k1 d (.slice aw d.length cw) := hw.weaken fun j hj => ⟨cutO_ge hj, by have := c0.lt; omega⟩
  generalize cutO (cutO ow h) k = ow1 at c1 vk1 hfr1 hw1
  obtain ⟨St, hSt⟩ : ∃ St : (Nat → Nat → Nat) → AHeap → Vm → Prop, St = fun ow2 k2 vv => VC ow2 k2 id vv pv sv ids ∧ VKs id ow h ow2 k2 ∧ k2.get h.next = .cells [.int .i64 p.frm, .int .i64 p.to, .int .i64 p.node] .rw ∧ fr ow2 h.next ∧ h.next < k2.next ∧ Words (fun j => fr ow2 j ∧ j ≠ id) k2 d (.slice aw d.length cw) := ⟨_, rfl⟩
  have st1 : St ow1 k1 v := by rw [hSt]; exact ⟨c1, vk1, g1, hfr1, l1, hw1⟩
  have stepSt : ∀ {ow2 : Nat → Nat → Nat} {k2 : AHeap} {vv : Vm} {kk : Nat} {o' : Nat → Nat} {k3 : AHeap} {m : Sm}, St ow2 k2 vv → kk < 16 → Ks shT (ow2 kk) k2 o' k3 → ShAt o' k3 (ids kk) m → St (stepO ow2 k2 kk o') k3 (vv.set kk m) := by
    rw [hSt]
    rintro ow2 k2 vv kk o' k3 m ⟨a1, a2, a3, a4, a5, a6⟩ hk hks hs
    obtain ⟨b1, b2⟩ := a1.step hk hks hs
    have b3 := b2.same _ ⟨a4, hidn⟩ a5
    exact ⟨b1, a2.trans b2, b3.2.trans a3, b3.1.1, Nat.lt_of_lt_of_le a5 b2.1, a6.mono fun j hj hl => b2.same j hj hl⟩
  have open' : ∀ {ow2 : Nat → Nat → Nat} {k2 : AHeap} {vv : Vm}, St ow2 k2 vv → VC ow2 k2 id vv pv sv ids ∧ k2.get h.next = .cells [.int .i64 p.frm, .int .i64 p.to, .int .i64 p.node] .rw ∧ Words (fun j => fr ow2 j ∧ j ≠ id) k2 d (.slice aw d.length cw) ∧ VKs id ow h ow2 k2 := by
    rw [hSt]
    rintro ow2 k2 vv ⟨a1, a2, a3, a4, a5, a6⟩
    exact ⟨a1, a3, a6, a2⟩
  clear hSt c1 vk1 hfr1 hw1 g1 l1
  simp only [go_sem, simprocAttr]
  obtain ⟨c1, g1, w1', _⟩ := open' st1
  refine cl_spec (sFlush_ok (c1.sat _ ht)) (fun _ _ _ hc => absurd hc (by decide +kernel)) ?_
  rintro u k2 ⟨rfl, s2, kk2⟩
  have st2 := stepSt st1 ht (kk2.weaken fun t e => by subst e; unfold shT; decide) s2
  obtain ⟨c2, g2, w2, _⟩ := open' st2
  generalize stepO ow1 k1 kt (ow1 kt) = ow2 at *
  simp only [go_sem, simprocAttr, g2]
  have gm0 : (v.sh kt).flush.good b := (g.sh _ ht).1.flush
  have hsh2 : (v.set kt (v.sh kt).flush).sh kt = (v.sh kt).flush := v.set_eq _ _
  have s2' := c2.sat _ ht
  rw [show (v.set kt { v.sh kt with sure := (v.sh kt).now, opn := [] }).sh kt = (v.sh kt).flush from v.set_eq _ _] at s2'
  have hdo := sDo_ok s2' gm0 (by omega) (o := ⟨2, p.frm, d.length, []⟩) (v := .slice none 0 0) ⟨by unfold inJ; dsimp only; omega, by unfold inJ; dsimp only; omega, by unfold inJ; dsimp only; omega⟩ (S := fun _ => False) (IsSl.nil _ _ _)
  unfold Bop.cs at hdo
  refine cl_spec hdo (fun _ _ _ hc => absurd hc (by decide +kernel)) ?_
  rintro u k3 ⟨rfl, o3, s3, kk3⟩
  have st3 := stepSt st2 ht kk3 s3
  rw [set_set] at st3
  generalize stepO ow2 k2 kt o3 = ow3 at st3
  have gm3 : ((v.sh kt).flush.doOp ⟨2, p.frm, d.length, []⟩).2.good (b + 1) := gm0.doOp (by omega) _
  obtain ⟨m3, hm3⟩ : ∃ m3, ((v.sh kt).flush.doOp ⟨2, p.frm, d.length, []⟩).2 = m3 := ⟨_, rfl⟩
  rw [hm3] at st3 gm3
  have hcp : copied (v.sh kt) p.frm d = (cpN m3 p.frm d ((d.length + 63) / 64)).flush := by unfold copied; rw [hm3]
  rw [hcop, hcp]
  simp only [go_sem, simprocAttr]
  refine go_cutb (fun ρ k => ∃ ow', St ow' k (v.set kt (cpN m3 p.frm d ((d.length + 63) / 64))) ∧ ρ 0 = .pointer (some ⟨ids kf, 0, none⟩) ∧ ρ 1 = .pointer (some ⟨ids kt, 0, none⟩)) ?_ ?_
  · refine go_loop (fun z ρ k => ∃ (r : Nat) (ow' : Nat → Nat → Nat), r ≤ (d.length + 63) / 64 ∧ z = (d.length + 63) / 64 - r ∧ St ow' k (v.set kt (cpN m3 p.frm d r)) ∧ ρ 0 = .pointer (some ⟨ids kf, 0, none⟩) ∧ ρ 1 = .pointer (some ⟨ids kt, 0, none⟩) ∧
      ρ 5 = .pointer (some ⟨h.next, 0, none⟩) ∧ ρ 6 = .slice aw d.length cw ∧ ρ 8 = .int .i64 (64 * r : Nat)) ((d.length + 63) / 64) ⟨0, ow3, by omega, by omega, st3, by simp only [go_sem, simprocAttr]⟩ ?_
    rintro z ρ k ⟨r, ow4, hr, rfl, st, r0, r1, r5, r6, r8⟩
    simp only [go_sem, simprocAttr, r0, r1, r5, r6, r8]
    refine cnd_decide (fun hy => ?_) (fun hy => ?_)
    · have hlt : 64 * r < d.length := by omega
      obtain ⟨c4, g4, w4, _⟩ := open' st
      have e1 : IntKind.i64.wrap (p.frm + ((64 * r : Nat) : Int)) = p.frm + ((64 * r : Nat) : Int) := by rw [wi64] <;> omega
      have e2 : IntKind.i64.wrap (((64 * r : Nat) : Int) + 64) = ((64 * (r + 1) : Nat) : Int) := by rw [wi64] <;> omega
      obtain ⟨a5, c5, es, hs⟩ := w4.sliceI 1 rfl (l := ((64 * r : Nat) : Int)) (m := min (d.length : Int) ((64 * (r + 1) : Nat) : Int)) (by omega) (by omega) (by omega)
      have ek : (min (d.length : Int) ((64 * (r + 1) : Nat) : Int)).toNat - ((64 * r : Nat) : Int).toNat = ((d.drop (64 * r)).take 64).length := by simp only [List.length_take, List.length_drop]; omega
      have ed : (d.drop ((64 * r : Nat) : Int).toNat).take ((d.drop (64 * r)).take 64).length = (d.drop (64 * r)).take 64 := by
        rw [Int.toNat_natCast, List.length_take, List.take_eq_take_iff]; simp only [List.length_drop]; omega
      rw [ek] at es hs
      rw [ed] at hs
      simp only [go_sem, simprocAttr, r0, r1, r5, r6, r8, g4, e1, e2, es]
      have s4 := c4.sat _ ht
      rw [v.set_eq] at s4
      have gr := cpN_good (b := b + 20) (f := p.frm) (d := d) r gm3 (by omega) hb
      have hdo4 := sDo_ok s4 gr (by omega) (o := ⟨1, p.frm + (64 * r : Nat), 0, (d.drop (64 * r)).take 64⟩) (v := .slice a5 ((d.drop (64 * r)).take 64).length c5) ⟨by unfold inJ; dsimp only; omega, by unfold inJ; dsimp only; omega, by unfold inJ; dsimp only; omega⟩ hs
      unfold Bop.cs at hdo4
      refine cl_spec hdo4 (fun _ _ _ hc => absurd hc (by decide +kernel)) ?_
      rintro u k5 ⟨rfl, o5, s5, kk5⟩
      have st5 := stepSt st ht kk5 s5
      rw [set_set] at st5
      simp only [go_sem, simprocAttr, r8, e2]
      exact Hold.mk ⟨(d.length + 63) / 64 - (r + 1), by omega, r + 1, _, by omega, rfl, st5, by simp only [go_sem, simprocAttr, r0, r1, r5, r6]⟩
    · have : r = (d.length + 63) / 64 := by omega
      subst this
      simp only [go_sem, simprocAttr]
      exact Hold.mk ⟨ow4, st, by simp only [go_sem, simprocAttr, r0, r1]⟩
  · rintro ρ k ⟨ow4, st, r0, r1⟩
    obtain ⟨c4, g4, w4, _⟩ := open' st
    simp only [go_sem, simprocAttr, r0, r1]
    refine cl_spec (sFlush_ok (c4.sat _ ht)) (fun _ _ _ hc => absurd hc (by decide +kernel)) ?_
    rintro u k5 ⟨rfl, s5, kk5⟩
    have st5 := stepSt st ht (kk5.weaken fun t e => by subst e; unfold shT; decide) s5
    rw [set_set, v.set_eq] at st5
    obtain ⟨c5, g5, w5, _⟩ := open' st5
    simp only [go_sem, simprocAttr, r0]
    refine cl_spec (sFlush_ok (c5.sat _ hf)) (fun _ _ _ hc => absurd hc (by decide +kernel)) ?_
    rintro u k6 ⟨rfl, s6, kk6⟩
    have st6 := stepSt st5 hf (kk6.weaken fun t e => by subst e; unfold shT; decide) s6
    obtain ⟨c6, _, _, vk6⟩ := open' st6
    simp only [go_sem, simprocAttr]
    exact ⟨_, c6, vk6⟩
theorem vMove_ok (a : VAt ow h id v) (g : v.good b) (hb : b + 20 ≤ 1073741824) {block node : Int} :
    Does Tryz.prog 24 #[.pointer (some ⟨id, 0, none⟩), .int .i64 block, .int .i64 node] h (fun u h' => u = .int .i64 (v.move block node).1 ∧ ∃ ow', VAt ow' h' id (v.move block node).2 ∧ VKs id ow h ow' h') := by
  refine spec_go mixed Tryz.func24 rfl Tryz.results24 (n := Tryz.f24.ntmps) (by kernel_rfl) (by simp) ?_
  simp only [go_sem, simprocAttr]
  refine cl_spec (vok_ok a) (fun _ _ _ hc => absurd hc (by decide +kernel)) ?_
  rintro u k ⟨rfl, rfl⟩
  obtain ⟨pv, sv, ids, c⟩ := a
  obtain ⟨apv, cpv, rfl⟩ := c.pcs.shape
  have hg := c.get
  unfold volC at hg
  simp only [go_sem, simprocAttr, hg]
  have hmv := Pl.move_ok (m := v.mp) c.pcs (x := block) (n := node)
  unfold Pl.mapV at hmv
  refine cl_spec hmv (fun _ _ _ hc => absurd hc (by decide +kernel)) ?_
  rintro u k1 ⟨q, mv, rfl, hm⟩
  obtain ⟨am, cm, rfl⟩ := hm.shape
  simp only [go_sem, simprocAttr]
  have qp : k1.quiet (k1.push (.cells [.int .i64 (v.mp.move block node).1.ver, .int .i64 (v.mp.move block node).1.n, .slice am (v.mp.move block node).1.ps.length cm] .rw)) := .push _ _
  have gp : (k1.push (.cells [.int .i64 (v.mp.move block node).1.ver, .int .i64 (v.mp.move block node).1.n, .slice am (v.mp.move block node).1.ps.length cm] .rw)).get k1.next = .cells [.int .i64 (v.mp.move block node).1.ver, .int .i64 (v.mp.move block node).1.n, .slice am (v.mp.move block node).1.ps.length cm] .rw := by simp
  have lp : k1.next < (k1.push (.cells [.int .i64 (v.mp.move block node).1.ver, .int .i64 (v.mp.move block node).1.n, .slice am (v.mp.move block node).1.ps.length cm] .rw)).next := by simp
  have hm2 := hm.quiet qp
  have q2 := q.trans qp
  generalize k1.push (.cells [.int .i64 (v.mp.move block node).1.ver, .int .i64 (v.mp.move block node).1.n, .slice am (v.mp.move block node).1.ps.length cm] .rw) = k2 at qp gp hm2 q2 lp
  have c2 := c.quiet q2
  have hg2 := c2.get
  unfold volC at hg2
  have vk2 := VKs.of_quiet (id := id) (ow := ow) q2
  by_cases he : (v.mp.move block node).2 = 0
  · obtain ⟨p, hr, hbk, hfi, hpi, hno, hne, e1, e2, hr', _, _, _⟩ := Pl.SMap.move_ok he
    obtain ⟨p', hp', hpa, e3, e4, e5, e6, e7, e8⟩ : ∃ p, v.mp.ps[Pl.idxP block v.mp.ps]? = some p ∧ Pl.pieceAt v.mp (v.mp.find block).1.toNat = p ∧ p.frm ≤ block ∧ block < p.to ∧ p.to ≤ v.mp.n ∧ 0 ≤ p.frm ∧ 0 ≤ p.node ∧ p.node < 16 := by
      have hz : (v.mp.find block).2 = 0 := by unfold Pl.SMap.find; rw [if_pos hr, if_pos hbk]
      exact (Pl.SMap.find_of hz).2.2.2.2
    rw [hpi] at hp'; cases hp'
    have hlt := (List.getElem?_eq_some_iff.1 hpi).1
    obtain ⟨b0, ofs, sp, cc, md, p', hA, _, hgb, hpi', hpok, hle, hdt, f0, f1, f2⟩ := c2.pcs.atPiece hlt
    subst hA
    rw [hpi] at hpi'; cases hpi'
    obtain ⟨asv, csv, rfl⟩ := c2.shs.shape
    have hL : (shL ids).length = 16 := by simp [shL]
    rw [hL] at hg2 c2
    have kf : p.node.toNat < 16 := by omega
    have kt : node.toNat < 16 := by omega
    obtain ⟨_, b1, o1, sp1, cc1, md1, rfl, g1, g2⟩ := c2.shat kf
    obtain ⟨_, b2, o2, sp2, cc2, md2, e9, g3, g4⟩ := c2.shat kt
    cases e9
    rw [g1] at g3; cases g3
    simp only [go_sem, simprocAttr, he, hg2]
    have hfd := Pl.find_ok (m := v.mp) (b := block) c2.pcs
    unfold Pl.mapV at hfd
    refine cl_spec hfd (fun _ _ _ hc => absurd hc (by decide +kernel)) ?_
    rintro u k3 ⟨rfl, q3⟩
    have c3 := c2.quiet q3
    have hg3 := (q3.2 _ c2.lt).trans hg2
    have g13 := (q3.2 _ (AHeap.lt_of_alive k2 (i := b1) (by rw [g1]; simp))).trans g1
    have gb3 := (q3.2 _ (AHeap.lt_of_alive k2 (i := b0) (by rw [hgb]; simp))).trans hgb
    have gp3 := (q3.2 _ lp).trans gp
    have vk3 := vk2.trans (VKs.of_quiet (id := id) (ow := cutO ow k) q3)
    have hm3 : IsSl Pl.rPiece (fun j => fr (cutO (cutO ow k) k2) j ∧ j ≠ id) k3 (v.mp.move block node).1.ps (.slice am (v.mp.move block node).1.ps.length cm) := (hm2.quiet q3).mono fun j hj _ => ⟨⟨fr_cut (cutO_ge hj), by have := c.lt; omega⟩, rfl⟩
    have hfrp : fr (cutO (cutO ow k) k2) k1.next := fr_cut (cutO_ge q.1)
    have lp3 := Nat.lt_of_lt_of_le lp q3.1
    have hidp : k1.next ≠ id := by have := c.lt; have := q.1; omega
    generalize cutO (cutO ow k) k2 = ow3 at c3 vk3 hm3 hfrp
    have hpa' : Pl.pieceAt v.mp (v.mp.find block).1.toNat = p := hpa
    have hpn0 : 0 ≤ p.node := e7
    have hpn16 : p.node < 16 := e8
    have hn0 : 0 ≤ node := hno.1
    have hn16 : node < 16 := hno.2
    rw [hfi]
    simp only [go_sem, simprocAttr, hg3, gb3, g13, g2, g4, f2, hlt, hpn0, hpn16, hn0, hn16, kf, kt]
    refine cl_spec (sFrozen_ok (c3.sat _ kf)) (fun _ _ _ hc => absurd hc (by decide +kernel)) ?_
    rintro u k4 ⟨rfl, rfl⟩
    have hmv0 : ∀ r, (¬ ((v.sh p.node.toNat).frozen = true ∨ (v.sh node.toNat).frozen = true) → ¬ (200 < (v.sh p.node.toNat).opn.length ∨ 200 < (v.sh node.toNat).opn.length) → (0, { v.copies p.node.toNat node.toNat p with mp := (v.mp.move block node).1 }) = r) →
        (((v.sh p.node.toNat).frozen = true ∨ (v.sh node.toNat).frozen = true) → (11, v) = r) → (¬ ((v.sh p.node.toNat).frozen = true ∨ (v.sh node.toNat).frozen = true) → (200 < (v.sh p.node.toNat).opn.length ∨ 200 < (v.sh node.toNat).opn.length) → (6, v) = r) → v.move block node = r := by
      intro r h1 h2 h3
      unfold Vm.move
      rw [if_neg (fun e => e he)]
      dsimp only
      rw [hpa']
      by_cases x1 : (v.sh p.node.toNat).frozen = true ∨ (v.sh node.toNat).frozen = true
      · rw [if_pos x1]; exact h2 x1
      · rw [if_neg x1]
        by_cases x2 : 200 < (v.sh p.node.toNat).opn.length ∨ 200 < (v.sh node.toNat).opn.length
        · rw [if_pos x2]; exact h3 x1 x2
        · rw [if_neg x2]; exact h1 x1 x2
    by_cases hf1 : (v.sh p.node.toNat).frozen = true
    · rw [hmv0 (11, v) (fun x => absurd (.inl hf1) x) (fun _ => rfl) (fun x => absurd (.inl hf1) x), hf1]
      simp only [go_sem, simprocAttr]
      exact ⟨_, ⟨_, _, _, c3⟩, vk3⟩
    have hf1' : (v.sh p.node.toNat).frozen = false := by simpa using hf1
    rw [hf1']
    simp only [go_sem, simprocAttr]
    refine cl_spec (sFrozen_ok (c3.sat _ kt)) (fun _ _ _ hc => absurd hc (by decide +kernel)) ?_
    rintro u k5 ⟨rfl, rfl⟩
    by_cases hf2 : (v.sh node.toNat).frozen = true
    · rw [hmv0 (11, v) (fun x => absurd (.inr hf2) x) (fun _ => rfl) (fun x => absurd (.inr hf2) x), hf2]
      simp only [go_sem, simprocAttr]
      exact ⟨_, ⟨_, _, _, c3⟩, vk3⟩
    have hf2' : (v.sh node.toNat).frozen = false := by simpa using hf2
    have hff : ¬ ((v.sh p.node.toNat).frozen = true ∨ (v.sh node.toNat).frozen = true) := fun e => e.elim hf1 hf2
    rw [hf2']
    simp only [go_sem, simprocAttr]
    refine cl_spec (sDirty_ok (c3.sat _ kf)) (fun _ _ _ hc => absurd hc (by decide +kernel)) ?_
    rintro u k6 ⟨rfl, rfl⟩
    by_cases hd1 : 200 < (v.sh p.node.toNat).opn.length
    · have hd1' : (200 : Int) < ((v.sh p.node.toNat).opn.length : Nat) := by omega
      rw [hmv0 (6, v) (fun _ x => absurd (.inl hd1) x) (fun x => absurd x hff) (fun _ _ => rfl)]
      simp only [go_sem, simprocAttr, hd1', decide_true]
      exact ⟨_, ⟨_, _, _, c3⟩, vk3⟩
    have hd1' : ¬ (200 : Int) < ((v.sh p.node.toNat).opn.length : Nat) := by omega
    simp only [go_sem, simprocAttr, hd1', decide_false]
    refine cl_spec (sDirty_ok (c3.sat _ kt)) (fun _ _ _ hc => absurd hc (by decide +kernel)) ?_
    rintro u k7 ⟨rfl, rfl⟩
    by_cases hd2 : 200 < (v.sh node.toNat).opn.length
    · have hd2' : (200 : Int) < ((v.sh node.toNat).opn.length : Nat) := by omega
      rw [hmv0 (6, v) (fun _ x => absurd (.inr hd2) x) (fun x => absurd x hff) (fun _ _ => rfl)]
      simp only [go_sem, simprocAttr, hd2', decide_true]
      exact ⟨_, ⟨_, _, _, c3⟩, vk3⟩
    have hd2' : ¬ (200 : Int) < ((v.sh node.toNat).opn.length : Nat) := by omega
    rw [hmv0 _ (fun _ _ => rfl) (fun x => absurd x hff) (fun _ x => absurd x fun e => e.elim hd1 hd2)]
    simp only [go_sem, simprocAttr, hd2', decide_false, hg3, gb3, hlt, hdt, hle]
    refine cl_spec (copies_ok c3 g hb kf kt (p := p) (fun e => hne (by omega)) e6 (by omega) e5 g.mp.1.2.2.2.1) (fun _ _ _ hc => absurd hc (by decide +kernel)) ?_
    rintro u k8 ⟨rfl, ow8, c8, vk8⟩
    have gp8 := (vk8.same _ ⟨hfrp, hidp⟩ lp3).2.trans gp3
    have hm8 := hm3.mono fun j hj hl => vk8.same j hj hl
    have hg8 := c8.get
    unfold volC at hg8
    simp only [go_sem, simprocAttr, gp8, hg8]
    obtain ⟨c9, vk9⟩ := c8.turn hm8
    exact ⟨_, ⟨_, _, _, c9⟩, (vk3.trans vk8).trans vk9⟩
  · have e1 : v.move block node = ((v.mp.move block node).2, v) := if_pos he
    rw [e1]
    simp only [go_sem, simprocAttr, he]
    exact ⟨_, ⟨_, _, _, c2⟩, vk2⟩
theorem _root_.Go.AM.Lst.isSlB {α : Type} {r : Rep α} {lo : Nat} {T S : Nat → Prop} {h : AHeap} {xs : List α} {v : Value} (hl : Lst r lo T h xs v) (h1 : ∀ j, T j → S j) (h2 : ∀ j, blk v = some j → S j) : IsSl r S h xs v := by
  obtain ⟨css, ha, h0, ⟨a, rfl, rfl, k⟩ | ⟨ob, rfl, hlo, hg⟩⟩ := hl
  · exact .empty fun ad e => .inl (k ad e).1
  · refine ⟨_, _, css, rfl, Nat.le_refl _, Nat.le_trans h0 (by decide), (fun h => by cases h), (fun ad h => by cases h; exact .inr rfl), ?_, fun _ => ⟨_, _, _, rfl, h2 _ rfl, hg, ?_, ?_⟩⟩
    · exact ha.moves fun j hj hl => ⟨h1 j hj.1, rfl⟩
    · rw [ha.flat]; simp
    · rw [List.drop_zero, List.take_of_length_le]; rw [ha.flat]; exact Nat.le_refl _
theorem _root_.Go.Proofs.YtedpfdflolkpeaaGreatDoor.ShAt.keepF {x i : Nat} {m : Sm} (a : ShAt (ow x) h i m) (hx : x < 16) (hn : h.next ≤ h'.next) (hk : ∀ j, j < h.next → ¬ fr ow j → h'.get j = h.get j) : ShAt (cutO ow h x) h' i m :=
  a.ks (T := (· = 0)) ⟨hn, fun j hj => ⟨cutO_lt hj, fun h0 => hk j hj fun e => h0 (e x hx)⟩⟩ (fun t e => by subst e; decide) (by decide)
def Vm.new (m : Pl.SMap) : Vm := ⟨m, fun _ => .new m.n⟩
theorem Vm.new_good {m : Pl.SMap} (hr : m.right) : (Vm.new m).good 0 := ⟨hr, fun k _ => ⟨Sm.new_good (by have := hr.1; omega) (by have := hr.1; omega), rfl⟩⟩
theorem new_n {n : Int} {ns : List Int} (h : (Pl.SMap.new n ns).2 = 0) : (Pl.SMap.new n ns).1.n = n ∧ 1 ≤ n ∧ n ≤ 1024 := by
  unfold Pl.SMap.new at *
  split at h
  · cases h
  · split at h
    · cases h
    · rename_i h1 h2
      rw [if_neg h1, if_neg h2]
      exact ⟨rfl, by omega, by omega⟩
theorem vNew_ok {n : Int} {ns : List Int} {w : Value} (hs : Ints S h ns w) (hn : inI n) : Does Tryz.prog 10 #[.int .i64 n, w] h (fun u h' => h.quiet h' ∧
    (((Pl.SMap.new n ns).2 = 0 ∧ ∃ id ow', u = .tuple #[.pointer (some ⟨id, 0, none⟩), .int .i64 0] ∧ h.next ≤ id ∧ VAt ow' h' id (.new (Pl.SMap.new n ns).1) ∧ ∀ j, j < h.next → fr ow' j) ∨ ((Pl.SMap.new n ns).2 ≠ 0 ∧ u = .tuple #[.pointer none, .int .i64 (Pl.SMap.new n ns).2]))) := by
  obtain ⟨aw, cw, rfl⟩ := hs.shape
  refine spec_go mixed Tryz.func10 rfl Tryz.results10 (n := Tryz.f10.ntmps) (by kernel_rfl) (by simp) ?_
  simp only [go_sem, simprocAttr]
  have hnw := Pl.new_ok (n := n) hs hn
  unfold Pl.mapV at hnw
  refine cl_spec hnw (fun _ _ _ hc => absurd hc (by decide +kernel)) ?_
  rintro u k ⟨q, mv, rfl, hm⟩
  by_cases he : (Pl.SMap.new n ns).2 = 0
  rotate_left
  · obtain ⟨am, cm, rfl⟩ := hm.shape
    simp only [go_sem, simprocAttr, he]
    exact q.push' _
  obtain ⟨hmn, hn1, hn2⟩ := new_n he
  generalize (Pl.SMap.new n ns).1 = m at *
  obtain ⟨am, cm, rfl⟩ := hm.shape
  simp only [go_sem, simprocAttr, he]
  have gid : ((k.push (.cells [.int .i64 m.ver, .int .i64 m.n, .slice am m.ps.length cm] .rw)).push (.cells [.int .i64 m.ver, .int .i64 m.n, .slice am m.ps.length cm, .slice none 0 0] .rw)).get (k.next + 1) = .cells [.int .i64 m.ver, .int .i64 m.n, .slice am m.ps.length cm, .slice none 0 0] .rw := by simp only [go_sem, simprocAttr]
  have qq : k.quiet ((k.push (.cells [.int .i64 m.ver, .int .i64 m.n, .slice am m.ps.length cm] .rw)).push (.cells [.int .i64 m.ver, .int .i64 m.n, .slice am m.ps.length cm, .slice none 0 0] .rw)) := (AHeap.quiet.push _ _).push' _
  have lid : k.next + 1 < ((k.push (.cells [.int .i64 m.ver, .int .i64 m.n, .slice am m.ps.length cm] .rw)).push (.cells [.int .i64 m.ver, .int .i64 m.n, .slice am m.ps.length cm, .slice none 0 0] .rw)).next := by simp
  generalize (k.push (.cells [.int .i64 m.ver, .int .i64 m.n, .slice am m.ps.length cm] .rw)).push (.cells [.int .i64 m.ver, .int .i64 m.n, .slice am m.ps.length cm, .slice none 0 0] .rw) = k0 at gid qq lid
  obtain ⟨id, hid⟩ : ∃ id, k.next + 1 = id := ⟨_, rfl⟩
  rw [hid] at gid lid
  have hidl : h.next ≤ id := by have := q.1; omega
  have hm0 : IsSl Pl.rPiece (fun j => h.next ≤ j ∧ j < k.next) k0 m.ps (.slice am m.ps.length cm) := hm.mono fun j hj hl => ⟨⟨hj, hl⟩, qq.2 j hl⟩
  refine go_cutb (fun ρ k1 => ∃ ow, h.quiet k1 ∧ VAt ow k1 id (.new m) ∧ (∀ j, j < h.next → fr ow j) ∧ ρ 8 = .pointer (some ⟨id, 0, none⟩)) ?_ ?_
  · refine go_loop (fun z ρ k1 => ∃ (i : Nat) (ow : Nat → Nat → Nat) (ids : Nat → Nat) (sv : Value), i ≤ 16 ∧ z = 16 - i ∧ h.quiet k1 ∧ id < k1.next ∧ k1.get id = .cells [.int .i64 m.ver, .int .i64 m.n, .slice am m.ps.length cm, sv] .rw ∧ fr ow id ∧ IsSl Pl.rPiece (fun j => fr ow j ∧ j < id) k1 m.ps (.slice am m.ps.length cm) ∧
      Lst Rep.ptr (id + 1) (fun _ => False) k1 ((List.range i).map fun x => some (ids x)) sv ∧ (∀ j, blk sv = some j → fr ow j) ∧ (∀ x, x < i → ShAt (ow x) k1 (ids x) (.new n)) ∧ (∀ x, x < 16 → ∀ l, l < 16 → x ≠ l → ∀ j, j < k1.next → ow x j ≠ 0 → ow l j = 0) ∧ (∀ x, i ≤ x → ∀ j, ow x j = 0) ∧ (∀ j, j < h.next → fr ow j) ∧
      ρ 0 = .int .i64 n ∧ ρ 8 = .pointer (some ⟨id, 0, none⟩) ∧ ρ 23 = .int .i64 i) 16
      ⟨0, fun _ _ => 0, fun _ => 0, _, by omega, by omega, q.trans qq, lid, gid, fun _ _ => rfl, hm0.weaken fun j hj => ⟨fun _ _ => rfl, by omega⟩, .nil _ _ _ _, fun j e => (by cases e), fun x hx => absurd hx (by omega), fun x _ l _ _ j _ h0 => absurd rfl h0, fun _ _ _ => rfl, fun _ _ _ _ => rfl, by simp only [go_sem, simprocAttr, hid]⟩ ?_
    rintro z ρ k1 ⟨i, ow, ids, sv, hi, rfl, q1, l1, g1, f1, hm1, hL, hbl, hsh, hdis, hz, hfr, r0, r8, r23⟩
    simp only [go_sem, simprocAttr, r0, r8, r23]
    refine cnd_decide (fun hy => ?_) (fun hy => ?_)
    · have h1 : i < 16 := by omega
      have e23 : IntKind.i64.wrap ((i : Int) + 1) = ((i + 1 : Nat) : Int) := by rw [wi64] <;> omega
      simp only [go_sem, simprocAttr, r0]
      refine cl_spec (snew_ok (own := fun _ => 0) hn) (fun _ _ _ hc => absurd hc (by decide +kernel)) ?_
      rintro u k2 ⟨q2, ⟨_, _, sid, o2, rfl, hsid, s2, kk2⟩ | ⟨hbad, _⟩⟩
      rotate_left
      · exact absurd ⟨by omega, by omega⟩ hbad
      simp only [go_sem, simprocAttr, r8]
      have g2 := (q2.2 _ l1).trans g1
      have l2 := Nat.lt_of_lt_of_le l1 q2.1
      have qb : k2.quiet (k2.push (.cells [.pointer (some ⟨sid, 0, none⟩)] .rw)) := .push _ _
      obtain ⟨asv, csv, rfl, hln⟩ := hL.len
      have hml : ((List.range i).map fun x => some (ids x)).length = i := by simp
      obtain ⟨v7, k7, e7, hL7, f7, n7⟩ := ((hL.quiet q2).quiet qb).app1 (y := some sid) (cs := [.pointer (some ⟨sid, 0, none⟩)]) (bytes := 8) 1 rfl rfl (by omega) (by omega) (by have := qb.1; omega)
      obtain ⟨a7, c7, rfl, _⟩ := hL7.len
      have hbge : ∀ j, blk (.slice asv ((List.range i).map fun x => some (ids x)).length csv) = some j → id + 1 ≤ j ∧ j < k1.next := fun j e => hL.blk_ge e
      have lq := Nat.lt_of_lt_of_le l2 qb.1
      have g7 := (f7.2 _ lq (fun e => by have := hbge _ e; omega)).trans ((qb.2 _ l2).trans g2)
      have l7 := Nat.lt_of_lt_of_le lq f7.1
      simp only [go_sem, simprocAttr, g2, e7, g7, r23, e23]
      -- who owns what now
      have hown : ∀ j, j < k1.next → stepO ow k1 i o2 i j = 0 := fun j hj => by unfold stepO; rw [if_pos rfl, (kk2.2 j hj).1]
      have hst : ∀ x j, j < k1.next → x ≠ i → stepO ow k1 i o2 x j = ow x j := fun x j hj hx => by unfold stepO; rw [if_neg hx, if_pos hj]
      have hge : ∀ x j, k1.next ≤ j → x ≠ i → stepO ow k1 i o2 x j = 0 := fun x j hj hx => by unfold stepO; rw [if_neg hx, if_neg (by omega)]
      have hfr2 : ∀ j, j < k1.next → fr ow j → fr (stepO ow k1 i o2) j := fun j hj hf x hx => by
        by_cases e : x = i
        · subst e; exact hown j hj
        · rw [hst x j hj e]; exact hf x hx
      have ne0 : ∀ j, (j = id ∨ blk (Value.slice asv ((List.range i).map fun x => some (ids x)).length csv) = some j) → fr (stepO ow k1 i o2) j := fun j hj => by
        rcases hj with rfl | hj
        · exact hfr2 _ l1 f1
        · exact hfr2 _ (hbge j hj).2 (hbl j hj)
      have q27 : ∀ j, j < k2.next → ¬ fr (stepO ow k1 i o2) j → (k7.set id (.cells [.int .i64 m.ver, .int .i64 m.n, .slice am m.ps.length cm, .slice a7 ((List.range i).map (fun x => some (ids x)) ++ [some sid]).length c7] .rw)).get j = k2.get j := fun j hj hnf => by
        rw [AHeap.get_set_ne _ _ (by rintro rfl; exact hnf (ne0 _ (.inl rfl))), f7.2 j (Nat.lt_of_lt_of_le hj qb.1) fun e => hnf (ne0 _ (.inr e)), qb.2 j hj]
      have n27 : k2.next ≤ (k7.set id (.cells [.int .i64 m.ver, .int .i64 m.n, .slice am m.ps.length cm, .slice a7 ((List.range i).map (fun x => some (ids x)) ++ [some sid]).length c7] .rw)).next := by have := qb.1; have := f7.1; simp; omega
      have hblk7 : ∀ j, blk (Value.slice a7 ((List.range i).map (fun x => some (ids x)) ++ [some sid]).length c7) = some j → fr (cutO (stepO ow k1 i o2) k2) j ∧ j ≠ id ∧ id + 1 ≤ j := fun j e => by
        have hb := hL7.blk_ge e
        refine ⟨?_, by omega, by omega⟩
        rcases n7 with n7 | ⟨ob, n7, n8⟩
        · rw [n7] at e; exact fr_cut (ne0 _ (.inr e))
        · rw [n7] at e; cases e; exact cutO_ge (by have := qb.1; omega)
      have qh : h.quiet (k7.set id (.cells [.int .i64 m.ver, .int .i64 m.n, .slice am m.ps.length cm, .slice a7 ((List.range i).map (fun x => some (ids x)) ++ [some sid]).length c7] .rw)) := by
        refine AHeap.quiet.set' ?_ hidl _
        exact Fw.behind ((q1.trans q2).trans qb) f7 fun j e => by have := hbge j e; omega
      have hmm : (List.range (i + 1)).map (fun x => some (if x = i then sid else ids x)) = (List.range i).map (fun x => some (ids x)) ++ [some sid] := by
        rw [List.range_succ, List.map_append, List.map_singleton, if_pos rfl]
        congr 1
        exact List.map_congr_left fun x hx => by rw [if_neg (by have := List.mem_range.1 hx; omega)]
      refine Hold.mk ⟨16 - (i + 1), by omega, i + 1, cutO (stepO ow k1 i o2) k2, fun x => if x = i then sid else ids x, .slice a7 ((List.range i).map (fun x => some (ids x)) ++ [some sid]).length c7, by omega, rfl, qh, by simpa using l7, AHeap.get_set_self _ _ l7, fr_cut (hfr2 _ l1 f1), ?_, ?_, fun j e => (hblk7 j e).1, ?_, ?_, ?_, ?_, by simp only [go_sem, simprocAttr, r0, r8]⟩
      · refine hm1.mono fun j hj hl => ⟨⟨fr_cut (hfr2 _ hl hj.1), hj.2⟩, ?_⟩
        have := hj.2
        rw [AHeap.get_set_ne _ _ (by omega)]
        rw [f7.2 j (Nat.lt_of_lt_of_le (Nat.lt_of_lt_of_le hl q2.1) qb.1) (fun e => by have := hbge j e; omega), qb.2 j (Nat.lt_of_lt_of_le hl q2.1), q2.2 j hl]
      · rw [hmm]
        exact hL7.mono (Nat.le_refl _) (by simp) (fun j e _ _ => e.elim) fun j e _ => AHeap.get_set_ne _ _ (Ne.symm (hblk7 j e).2.1)
      · intro x hx
        by_cases e : x = i
        · subst e
          dsimp only
          rw [if_pos rfl]
          have : ShAt (stepO ow k1 x o2 x) k2 sid (.new n) := by
            have e : stepO ow k1 x o2 x = o2 := by funext j; exact if_pos rfl
            rw [e]; exact s2
          exact this.keepF h1 n27 q27
        · dsimp only
          rw [if_neg e]
          have a1 := hsh x (by omega)
          have a2 : ShAt (stepO ow k1 i o2 x) k2 (ids x) (.new n) := a1.ks (T := fun _ => False) ⟨q2.1, fun j hj => ⟨hst x j hj e, fun _ => q2.2 j hj⟩⟩ (fun _ e => e.elim) (fun e => e)
          exact a2.keepF (by omega) n27 q27
      · intro x hx l hl hne j hj h0
        by_cases hj2 : j < k2.next
        · rw [cutO_lt hj2] at h0 ⊢
          by_cases hj1 : j < k1.next
          · by_cases e1 : x = i
            · subst e1; exact absurd (hown j hj1) h0
            · rw [hst x j hj1 e1] at h0
              by_cases e2 : l = i
              · subst e2; exact hown j hj1
              · rw [hst l j hj1 e2]; exact hdis x hx l hl hne j hj1 h0
          · by_cases e1 : x = i
            · exact hge l j (by omega) (fun e2 => hne (e1.trans e2.symm))
            · exact absurd (hge x j (by omega) e1) h0
        · exact cutO_ge (by omega) l hl
      · intro x hx j
        unfold cutO
        split
        · unfold stepO
          rw [if_neg (by omega)]
          split
          · exact hz x (by omega) j
          · rfl
        · rfl
      · intro j hj
        exact fr_cut (hfr2 _ (Nat.lt_of_lt_of_le hj q1.1) (hfr j hj))
    · have : i = 16 := by omega
      subst this
      simp only [go_sem, simprocAttr]
      refine Hold.mk ⟨ow, q1, ⟨_, sv, ids, g1, f1, hm1.weaken fun j hj => ⟨hj.1, by have := hj.2; omega⟩, ?_, fun x hx => ?_, hdis⟩, hfr, by simp only [go_sem, simprocAttr, r8]⟩
      · exact hL.isSlB (fun j e => e.elim) fun j e => ⟨hbl j e, by have := (hL.blk_ge e).1; omega⟩
      · rw [show (Vm.new m).sh x = Sm.new m.n from rfl, hmn]; exact hsh x hx
  · rintro ρ k1 ⟨ow, q1, a1, hfr, r8⟩
    simp only [go_sem, simprocAttr, r8]
    exact ⟨q1, .inl ⟨_, ow, rfl, hidl, a1, hfr⟩⟩
end
end Go.Proofs.YtedpfdflolkpeaaGreatDoor
