/- volume: Do and Read: the walk. -/
import Derived.Test.YtedpfdflolkpeaaGreatDoorVoG
set_option linter.unusedSimpArgs false
set_option linter.unusedVariables false
set_option linter.unnecessarySimpa false
set_option maxRecDepth 100000
namespace Go.Proofs.YtedpfdflolkpeaaGreatDoor
open Go.AM
section
variable {ow ow' ow'' : Nat → Nat → Nat} {h h' h'' : AHeap} {id : Nat} {v : Vm} {S : Nat → Prop} {b : Nat}
theorem segs_ge {m : Pl.SMap} {o : Pl.Op} : (m.ops o).length ≤ 16 := by
  unfold Pl.SMap.ops
  split
  · rename_i hr
    unfold Pl.SMap.parts Pl.mkParts
    rw [List.length_map]
    have := Pl.segs_len m.ps 0 o.range.1 (o.range.1 + o.range.2)
    have := hr.1.oks
    omega
  · simp
theorem doL_app (v : Vm) (l : List Pl.Part) (p : Pl.Part) : v.doL (l ++ [p]) = (v.doL l).one p := by unfold Vm.doL; rw [List.foldl_append]; rfl
/-- Parts that were just made. -/
theorem Parts.isSl {h k : AHeap} {l : List Pl.Part} {w : Value} (hp : Pl.Parts h k l w) : IsSl Pl.rPart (h.next ≤ ·) k l w := (hp.isSl (S := (h.next ≤ ·)) (fun j e _ => e) fun j e => e).imp Pl.rPartO_imp
theorem vDo_ok (a : VAt ow h id v) (g : v.good b) (hb : b + 16 ≤ 1073741824) {ver : Int} {o : Pl.Op} {d : Value} (hd : Words (fr ow) h o.data d) :
    Does Tryz.prog 22 #[.pointer (some ⟨id, 0, none⟩), .int .i64 ver, Pl.opV o d] h (fun u h' => u = .int .i64 (v.do ver o).1 ∧ ∃ ow', VAt ow' h' id (v.do ver o).2 ∧ VKs id ow h ow' h') := by
  obtain ⟨ad, cd, rfl⟩ := hd.shape
  refine spec_go mixed Tryz.func22 rfl Tryz.results22 (n := Tryz.f22.ntmps) (by kernel_rfl) (by simp) ?_
  simp only [go_sem, simprocAttr]
  refine cl_gen fun k ek => ?_
  have q0 : h.quiet k := by rw [ek]; simp only [go_sem, simprocAttr]
  have g0 : k.get h.next = .cells [.int .i64 o.kind, .int .i64 o.off, .int .i64 o.len, .slice ad o.data.length cd] .rw := by rw [ek]; simp only [go_sem, simprocAttr]
  have l0 : h.next < k.next := by rw [ek]; simp
  clear ek
  have a0 := a.quiet q0
  have vk0 : VKs id ow h (cutO ow h) k := .of_quiet q0
  have hd0 := hd.quiet q0
  refine cl_spec (late_ok a0) (fun _ _ _ hc => absurd hc (by decide +kernel)) ?_
  rintro u k1 ⟨rfl, rfl⟩
  by_cases hv : ver = v.mp.ver
  · have hv' : ¬ ver ≠ v.mp.ver := fun e => e hv
    rw [if_neg hv']
    obtain ⟨pv, sv, ids, c⟩ := a0
    obtain ⟨apv, cpv, rfl⟩ := c.pcs.shape
    have hg := c.get
    unfold volC at hg
    simp only [go_sem, simprocAttr, hg, g0]
    have hops := Pl.ops_ok (m := v.mp) (o := o) (S := fun _ => True) (c.pcs.weaken fun _ _ => trivial) (hd0.weaken fun _ _ => trivial)
    unfold Pl.mapV Pl.opV at hops
    refine cl_spec hops (fun _ _ _ hc => absurd hc (by decide +kernel)) ?_
    rintro u k2 ⟨q2, w, rfl, hw⟩
    have c2 := c.quiet q2
    have vk2 := vk0.trans (VKs.of_quiet (id := id) (ow := cutO ow h) q2)
    have hl2 : IsSl Pl.rPart (fun j => fr (cutO (cutO ow h) k1) j ∧ j ≠ id) k2 (v.mp.ops o) w := (Parts.isSl hw).weaken fun j hj => ⟨cutO_ge hj, by have := c.lt; omega⟩
    generalize cutO (cutO ow h) k1 = ow2 at c2 vk2 hl2
    obtain ⟨aw, cw, rfl⟩ := hl2.shape
    by_cases he : v.mp.err o = 0
    · simp only [go_sem, simprocAttr, he]
      have hnode : ∀ p ∈ v.mp.ops o, 0 ≤ p.node ∧ p.node < 16 := fun p hp => ops_node hp
      refine cl_spec (vmay_ok ⟨_, _, _, c2⟩ g hl2 hnode segs_ge) (fun _ _ _ hc => absurd hc (by decide +kernel)) ?_
      rintro u k3 ⟨he3, q3⟩
      simp only [go_sem, simprocAttr]
      refine cl_spec (number_ok he3) (fun _ _ _ hc => absurd hc (by decide +kernel)) ?_
      rintro u k4 ⟨rfl, q4⟩
      have q34 := q3.trans q4
      have c4 := c2.quiet q34
      have vk4 := vk2.trans (VKs.of_quiet (id := id) (ow := ow2) q34)
      have hl4 : IsSl Pl.rPart (fun j => fr (cutO ow2 k2) j ∧ j ≠ id) k4 (v.mp.ops o) (.slice aw (v.mp.ops o).length cw) := hl2.mono fun j hj hl => ⟨⟨fr_cut hj.1, hj.2⟩, q34.2 j hl⟩
      generalize cutO ow2 k2 = ow4 at c4 vk4 hl4
      by_cases hm : v.may (v.mp.ops o) = 0
      · have hD : v.do ver o = (0, v.doL (v.mp.ops o)) := by unfold Vm.do; rw [if_neg hv', if_neg (fun e => e he), if_neg (fun e => e hm)]
        rw [hD]
        simp only [go_sem, simprocAttr, hm]
        have hll := segs_ge (m := v.mp) (o := o)
        generalize v.mp.ops o = l at *
        refine go_loop (fun z ρ k' => ∃ (i : Nat) (ow' : Nat → Nat → Nat), i ≤ l.length ∧ z = l.length - i ∧ VC ow' k' id (v.doL (l.take i)) (.slice apv v.mp.ps.length cpv) sv ids ∧ VKs id ow h ow' k' ∧ IsSl Pl.rPart (fun j => fr ow' j ∧ j ≠ id) k' l (.slice aw l.length cw) ∧
          ρ 0 = .pointer (some ⟨id, 0, none⟩) ∧ ρ 38 = .slice aw l.length cw ∧ ρ 39 = .int .i64 l.length ∧ ρ 40 = .int .i64 i) l.length
          ⟨0, ow4, by omega, by omega, c4, vk4, hl4, by simp only [go_sem, simprocAttr]⟩ ?_
        rintro z ρ k5 ⟨i, ow5, hi, rfl, c5, vk5, hl5, r0, r38, r39, r40⟩
        simp only [go_sem, simprocAttr, r0, r38, r39, r40]
        refine cnd_decide (fun hy => ?_) (fun hy => ?_)
        · have h1 : i < l.length := by omega
          have e40 : IntKind.i64.wrap ((i : Int) + 1) = ((i + 1 : Nat) : Int) := by rw [wi64] <;> omega
          obtain ⟨b0, off, sp, cc, md, p, dv, hA, _, hgp, hpi, hp1, hp2, hp3, hp4, hle, hdt, hdt2, f0, f1, f2, f3, f4, f5⟩ := hl5.atPart h1
          subst hA
          obtain ⟨adp, cdp, rfl⟩ := hp4.shape
          have hnd := hnode p (List.mem_of_getElem? hpi)
          have hk : p.node.toNat < 16 := by omega
          have e1 : l.take (i + 1) = l.take i ++ [p] := by rw [List.take_add_one, hpi]; rfl
          simp only [go_sem, simprocAttr, r0, r38, r39, r40, h1, hgp, hdt, hle]
          have qp : k5.quiet (k5.push (.cells [.int .i64 p.piece, .int .i64 p.node, .int .i64 p.op.kind, .int .i64 p.op.off, .int .i64 p.op.len, .slice adp p.op.data.length cdp] .rw)) := .push _ _
          have gp : (k5.push (.cells [.int .i64 p.piece, .int .i64 p.node, .int .i64 p.op.kind, .int .i64 p.op.off, .int .i64 p.op.len, .slice adp p.op.data.length cdp] .rw)).get k5.next = .cells [.int .i64 p.piece, .int .i64 p.node, .int .i64 p.op.kind, .int .i64 p.op.off, .int .i64 p.op.len, .slice adp p.op.data.length cdp] .rw := by simp
          generalize k5.push (.cells [.int .i64 p.piece, .int .i64 p.node, .int .i64 p.op.kind, .int .i64 p.op.off, .int .i64 p.op.len, .slice adp p.op.data.length cdp] .rw) = k6 at qp gp
          have c6 := c5.quiet qp
          have vk6 := vk5.trans (VKs.of_quiet (id := id) (ow := ow5) qp)
          have hl6 : IsSl Pl.rPart (fun j => fr (cutO ow5 k5) j ∧ j ≠ id) k6 l (.slice (some ⟨b0, off, sp⟩) l.length cw) := hl5.mono fun j hj hl => ⟨⟨fr_cut hj.1, hj.2⟩, qp.2 j hl⟩
          have hw6 := hp4.quiet qp
          generalize cutO ow5 k5 = ow6 at c6 vk6 hl6
          obtain ⟨asv, csv, rfl⟩ := c6.shs.shape
          have hg6 := c6.get
          unfold volC at hg6
          obtain ⟨hn16, b1, o1, sp1, cc1, md1, rfl, g1, g2⟩ := c6.shat hk
          rw [hn16] at hg6
          have lt16 : p.node.toNat < 16 := hk
          have nn0 : 0 ≤ p.node := hnd.1
          have n16 : p.node < 16 := hnd.2
          simp only [go_sem, simprocAttr, r0, hg6, gp, nn0, n16, lt16, g1, g2]
          have gs : ((v.doL (l.take i)).sh p.node.toNat).good (b + i) := by
            have := Vm.good.doL (b := b + i) (l := l.take i) (v := v) (c := b) g (by rw [List.length_take]; omega) (by omega) fun q hq => by have := hnode q (List.mem_of_mem_take hq); omega
            exact (this.sh _ hk).1
          have hdo := sDo_ok (c6.sat _ hk) gs (by omega) (o := p.op.b) (v := .slice adp p.op.data.length cdp) (by
            obtain ⟨i1, i2, i3⟩ := hp3
            exact ⟨i1, i2, i3⟩) hw6
          unfold Bop.cs Pl.Op.b at hdo
          refine cl_spec hdo (fun _ _ _ hc => absurd hc (by decide +kernel)) ?_
          rintro u k7 ⟨rfl, o7, s7, kk7⟩
          obtain ⟨c7, vk7⟩ := c6.step hk kk7 s7
          simp only [go_sem, simprocAttr, r40, e40]
          refine Hold.mk ⟨l.length - (i + 1), by omega, i + 1, _, by omega, rfl, ?_, vk6.trans vk7, hl6.mono fun j hj hl => vk7.same j hj hl, by simp only [go_sem, simprocAttr, r0, r38, r39]⟩
          rw [e1, doL_app]
          exact c7
        · have : i = l.length := by omega
          subst this
          rw [List.take_length] at c5
          simp only [go_sem, simprocAttr]
          exact ⟨_, ⟨_, _, _, c5⟩, vk5⟩
      · have hD : v.do ver o = (v.may (v.mp.ops o), v) := by unfold Vm.do; rw [if_neg hv', if_neg (fun e => e he), if_pos hm]
        rw [hD]
        simp only [go_sem, simprocAttr, hm]
        exact ⟨_, ⟨_, _, _, c4⟩, vk4⟩
    · have hD : v.do ver o = (v.mp.err o, v) := by unfold Vm.do; rw [if_neg hv', if_pos he]
      rw [hD]
      simp only [go_sem, simprocAttr, he]
      exact ⟨_, ⟨_, _, _, c2⟩, vk2⟩
  · have hD : v.do ver o = (13, v) := if_pos hv
    rw [hD, if_pos hv]
    simp only [go_sem, simprocAttr]
    exact ⟨_, a0, vk0⟩
theorem part_bounds {m : Pl.SMap} (hr : m.right) {off n : Int} {p : Pl.Part} (hp : p ∈ m.reads off n) : 0 ≤ p.node ∧ p.node < 16 := by
  unfold Pl.SMap.reads at hp
  split at hp
  · rename_i hc
    obtain ⟨s, hs, rfl⟩ := List.mem_map.1 hp
    have hl := Pl.Op.range_right hc.2
    have er : (Pl.rdOp off n).range = (off, n) := Pl.Op.range2 rfl
    rw [er] at hl
    obtain ⟨q, _, e2, e3, e4, _⟩ := segs_ok hr hl.2.2.1 hl.2.2.2.2 hs
    exact ⟨by dsimp only; omega, by dsimp only; omega⟩
  · cases hp
theorem reads_len {m : Pl.SMap} {off n : Int} : (m.reads off n).length ≤ 16 := by
  unfold Pl.SMap.reads
  split
  · rename_i hr
    unfold Pl.mkParts
    rw [List.length_map]
    have := Pl.segs_len m.ps 0 off (off + n)
    have := hr.1.oks
    omega
  · simp
theorem vRead_ok (a : VAt ow h id v) (g : v.good b) {ver off n : Int} (ho : inJ off) (hn : inJ n) :
    Does Tryz.prog 14 #[.pointer (some ⟨id, 0, none⟩), .int .i64 ver, .int .i64 off, .int .i64 n] h (fun u h' => ∃ w, u = .tuple #[w, .int .i64 (v.read ver off n).2] ∧ Words (h.next ≤ ·) h' (v.read ver off n).1 w ∧ h.quiet h') := by
  refine spec_go mixed Tryz.func14 rfl Tryz.results14 (n := Tryz.f14.ntmps) (by kernel_rfl) (by simp) ?_
  simp only [go_sem, simprocAttr]
  refine cl_spec (late_ok a) (fun _ _ _ hc => absurd hc (by decide +kernel)) ?_
  rintro u k1 ⟨rfl, rfl⟩
  by_cases hv : ver = v.mp.ver
  · have hv' : ¬ ver ≠ v.mp.ver := fun e => e hv
    rw [if_neg hv']
    obtain ⟨pv, sv, ids, c⟩ := a
    obtain ⟨apv, cpv, rfl⟩ := c.pcs.shape
    obtain ⟨asv, csv, rfl⟩ := c.shs.shape
    have hn16 : (shL ids).length = 16 := by simp [shL]
    have hg := c.get
    unfold volC at hg
    rw [hn16] at hg c
    have hidl := c.lt
    simp only [go_sem, simprocAttr, hg]
    have hrd := Pl.reads_ok (m := v.mp) (off := off) (n := n) c.pcs
    unfold Pl.mapV at hrd
    refine cl_spec hrd (fun _ _ _ hc => absurd hc (by decide +kernel)) ?_
    rintro u k2 ⟨q2, w, rfl, hw⟩
    have hl2 : IsSl Pl.rPart (k1.next ≤ ·) k2 (v.mp.reads off n) w := Parts.isSl hw
    obtain ⟨aw, cw, rfl⟩ := hl2.shape
    have herr : v.mp.err (Pl.rdOp off n) = if (Pl.rdOp off n).right v.mp.n then 0 else 9 := by unfold Pl.SMap.err; rw [if_pos g.mp]
    rw [herr]
    by_cases hr : (Pl.rdOp off n).right v.mp.n
    · rw [if_pos hr]
      have hlr := Pl.Op.range_right hr
      have er : (Pl.rdOp off n).range = (off, n) := Pl.Op.range2 rfl
      rw [er] at hlr
      dsimp only at hlr
      have hre := reads_eq g hr
      have hnode : ∀ p ∈ v.mp.reads off n, 0 ≤ p.node ∧ p.node < 16 := fun p hp => part_bounds g.mp hp
      have hll := reads_len (m := v.mp) (off := off) (n := n)
      have hjoin := join_eq g (off := off) (n := n)
      simp only [go_sem, simprocAttr]
      obtain ⟨l, hle⟩ : ∃ l, v.mp.reads off n = l := ⟨_, rfl⟩
      rw [hle] at hl2 hre hnode hll hjoin ⊢
      refine go_cutb (fun ρ k => ∃ dv, k2.quiet k ∧ Lst (Rep.list rW) k2.next (k2.next ≤ ·) k (l.map v.part) dv ∧ ρ 0 = .pointer (some ⟨id, 0, none⟩) ∧ ρ 2 = .int .i64 off ∧ ρ 3 = .int .i64 n ∧ ρ 13 = dv) ?_ ?_
      · refine go_loop (fun z ρ k => ∃ (i : Nat) (dv : Value), i ≤ l.length ∧ z = l.length - i ∧ k2.quiet k ∧ Lst (Rep.list rW) k2.next (k2.next ≤ ·) k ((l.take i).map v.part) dv ∧ ρ 0 = .pointer (some ⟨id, 0, none⟩) ∧ ρ 2 = .int .i64 off ∧ ρ 3 = .int .i64 n ∧ ρ 13 = dv ∧
          ρ 37 = .slice aw l.length cw ∧ ρ 38 = .int .i64 l.length ∧ ρ 39 = .int .i64 i) l.length
          ⟨0, _, by omega, by omega, .refl _, .nil _ _ _ _, by simp only [go_sem, simprocAttr]⟩ ?_
        rintro z ρ k ⟨i, dv, hi, rfl, qq, hL, r0, r2, r3, r13, r37, r38, r39⟩
        have q := q2.trans qq
        simp only [go_sem, simprocAttr, r0, r2, r3, r13, r37, r38, r39]
        refine cnd_decide (fun hy => ?_) (fun hy => ?_)
        · have h1 : i < l.length := by omega
          have e39 : IntKind.i64.wrap ((i : Int) + 1) = ((i + 1 : Nat) : Int) := by rw [wi64] <;> omega
          obtain ⟨b0, ofs, sp, cc, md, p, dd, hA, _, hgp, hpi, hp1, hp2, hp3, hp4, hle6, hdt, hdt2, f0, f1, f2, f3, f4, f5⟩ := (hl2.quiet qq).atPart h1
          subst hA
          obtain ⟨ad, cd, rfl⟩ := hp4.shape
          have hnd := hnode p (List.mem_of_getElem? hpi)
          have hk : p.node.toNat < 16 := by omega
          have e1 : (l.take (i + 1)).map v.part = (l.take i).map v.part ++ [v.part p] := by rw [List.take_add_one, hpi, List.map_append]; rfl
          obtain ⟨_, b1, o1, sp1, cc1, md1, rfl, g1, g2⟩ := c.shat hk
          have lb1 := AHeap.lt_of_alive k1 (i := b1) (by rw [g1]; simp)
          simp only [go_sem, simprocAttr, r0, r37, r38, r39, h1, hgp, hdt, hle6]
          have qp : k.quiet (k.push (.cells [.int .i64 p.piece, .int .i64 p.node, .int .i64 p.op.kind, .int .i64 p.op.off, .int .i64 p.op.len, .slice ad p.op.data.length cd] .rw)) := .push _ _
          have gp : (k.push (.cells [.int .i64 p.piece, .int .i64 p.node, .int .i64 p.op.kind, .int .i64 p.op.off, .int .i64 p.op.len, .slice ad p.op.data.length cd] .rw)).get k.next = .cells [.int .i64 p.piece, .int .i64 p.node, .int .i64 p.op.kind, .int .i64 p.op.off, .int .i64 p.op.len, .slice ad p.op.data.length cd] .rw := by simp
          generalize k.push (.cells [.int .i64 p.piece, .int .i64 p.node, .int .i64 p.op.kind, .int .i64 p.op.off, .int .i64 p.op.len, .slice ad p.op.data.length cd] .rw) = k5 at qp gp
          have q5 := q.trans qp
          have hg5 := (q5.2 _ hidl).trans hg
          have g15 := (q5.2 _ lb1).trans g1
          have lt16 : p.node.toNat < 16 := hk
          have nn0 : 0 ≤ p.node := hnd.1
          have n16 : p.node < 16 := hnd.2
          simp only [go_sem, simprocAttr, r0, hg5, gp, nn0, n16, lt16, g15, g2]
          refine cl_spec (sRead_ok ((c.quiet q5).sat _ hk) (g.sh _ hk).1 hp3.2.1 hp3.2.2) (fun _ _ _ hc => absurd hc (by decide +kernel)) ?_
          rintro u k6 ⟨w6, rfl, hw6, q6⟩
          obtain ⟨a6, c6, rfl⟩ := hw6.shape
          have q56 := qp.trans q6
          have q06 := q5.trans q6
          have qb : k6.quiet (k6.push (.cells [.slice a6 (readL ((v.sh p.node.toNat).vol (v.sh p.node.toNat).now) p.op.off p.op.len).1.length c6] .rw)) := .push _ _
          have hL6 := (hL.quiet q56).quiet qb
          obtain ⟨adv, cdv, rfl, hln⟩ := hL.len
          have hml : ((l.take i).map v.part).length ≤ 16 := by rw [List.length_map, List.length_take]; omega
          obtain ⟨v7, k7, e7, hL7, f7, n7⟩ := hL6.app1 (y := v.part p) (cs := [.slice a6 (readL ((v.sh p.node.toNat).vol (v.sh p.node.toNat).now) p.op.off p.op.len).1.length c6]) (bytes := 24) 1 rfl
            ⟨_, rfl, (hw6.quiet qb).mono fun j hj hl => ⟨⟨Nat.le_trans (qq.trans qp).1 hj, fun e => by have := ((hL.quiet qp).blk_ge e).2; omega⟩, rfl⟩⟩ (by omega) (by omega) (Nat.le_trans ((qq.trans qp).trans q6).1 qb.1)
          obtain ⟨a7, c7, rfl, _⟩ := hL7.len
          simp only [go_sem, simprocAttr, r13, r39, e39, e7]
          have fge : ∀ j, blk (Value.slice adv ((l.take i).map v.part).length cdv) = some j → k2.next ≤ j := fun j e => (hL.blk_ge e).1
          exact Hold.mk ⟨l.length - (i + 1), by omega, i + 1, .slice a7 ((l.take i).map v.part ++ [v.part p]).length c7, by omega, rfl, Fw.behind (((qq.trans qp).trans q6).trans qb) f7 fge, by rw [e1]; exact hL7, by simp only [go_sem, simprocAttr, r0, r2, r3, r37, r38]⟩
        · have : i = l.length := by omega
          subst this
          rw [List.take_length] at hL
          simp only [go_sem, simprocAttr]
          exact Hold.mk ⟨dv, qq, hL, by simp only [go_sem, simprocAttr, r0, r2, r3, r13]⟩
      · rintro ρ k ⟨dv, qq, hL, r0, r2, r3, r13⟩
        have q := q2.trans qq
        have hsl := hL.isSl (S := (k2.next ≤ ·)) (fun j e _ => e) fun j e => e
        obtain ⟨adv, cdv, rfl⟩ := hsl.shape
        have hgk := (q.2 _ hidl).trans hg
        simp only [go_sem, simprocAttr, r0, r2, r3, r13, hgk]
        have hj := Pl.join_ok (m := v.mp) (off := off) (n := n) (c.quiet q).pcs hsl (by rw [hre.1, List.length_take]; omega)
        unfold Pl.mapV at hj
        refine cl_spec hj (fun _ _ _ hc => absurd hc (by decide +kernel)) ?_
        rintro u k8 ⟨q8, x, rfl, hx⟩
        rw [hjoin] at hx ⊢
        obtain ⟨ax, cx, rfl⟩ := hx.shape
        rw [hv]
        simp only [go_sem, simprocAttr]
        exact ⟨_, rfl, hx.weaken fun j hj => Nat.le_trans q.1 hj, q.trans q8⟩
    · have hD : v.read ver off n = ([], 9) := by unfold Vm.read; rw [if_neg hv', if_neg hr]
      rw [hD, if_neg hr]
      simp only [go_sem, simprocAttr]
      exact ⟨_, rfl, IsSl.nil _ _ _, q2⟩
  · have hD : v.read ver off n = ([], 13) := if_pos hv
    rw [hD, if_pos hv]
    simp only [go_sem, simprocAttr]
    exact ⟨_, rfl, IsSl.nil _ _ _⟩
end
end Go.Proofs.YtedpfdflolkpeaaGreatDoor
