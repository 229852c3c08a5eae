/- volume: a script's acts, and the probe: the walk. -/
import Derived.Test.YtedpfdflolkpeaaGreatDoorVoK
set_option linter.unusedSimpArgs false
set_option linter.unusedVariables false
set_option linter.unnecessarySimpa false
set_option maxRecDepth 100000
namespace Go.Proofs.YtedpfdflolkpeaaGreatDoor
open Go.AM
def VAct.cs (a : VAct) (v w : Value) : List Value := [.int .u8 (a.kd : Nat), .int .i64 a.late, .int .i64 a.at_, .int .i64 a.node, .int .i64 a.op.kind, .int .i64 a.op.off, .int .i64 a.op.len, v, w, .bool a.yes]
def rVAct : Rep VAct := (Rep.pair rB (.pair rI (.pair rI (.pair rI (.pair Pl.rOp (.pair (Rep.list .bool) .bool)))))).via fun a => (a.kd, a.late, a.at_, a.node, a.op, a.keep, a.yes)
theorem rVAct_iff {S : Nat → Prop} {h : AHeap} {a : VAct} {cs : List Value} : rVAct.R S h a cs ↔ ∃ v w, cs = a.cs v w ∧ a.inI ∧ Words S h a.op.data v ∧ IsSl .bool S h a.keep w := by
  constructor
  · rintro ⟨c1, c2, rfl, ⟨rfl, h1⟩, c3, c4, rfl, ⟨rfl, h2⟩, c5, c6, rfl, ⟨rfl, h3⟩, c7, c8, rfl, ⟨rfl, h4⟩, c9, c10, rfl, h5, c11, c12, rfl, ⟨w, rfl, hw⟩, rfl⟩
    obtain ⟨d, rfl, h6, h7⟩ := Pl.rOp_iff.1 h5
    refine ⟨d, w, rfl, ⟨inI_iff.2 h2, inI_iff.2 h3, inI_iff.2 h4, h6, ?_⟩, h7, hw⟩
    have e : IntKind.u8.max = 255 := by decide
    have h1' : (a.kd : Int) ≤ IntKind.u8.max := h1
    rw [e] at h1'
    omega
  · rintro ⟨v, w, rfl, ⟨h2, h3, h4, h5, h6⟩, hv, hw⟩
    have e : IntKind.u8.max = 255 := by decide
    refine ⟨_, _, rfl, ⟨rfl, by show (a.kd : Int) ≤ _; rw [e]; omega⟩, _, _, rfl, ⟨rfl, inI_iff.1 h2⟩, _, _, rfl, ⟨rfl, inI_iff.1 h3⟩, _, _, rfl, ⟨rfl, inI_iff.1 h4⟩, _, _, rfl, Pl.rOp_iff.2 ⟨v, rfl, h5, hv⟩, _, _, rfl, ⟨w, rfl, hw⟩, rfl⟩
section
variable {ow ow' ow'' : Nat → Nat → Nat} {h h' h'' : AHeap} {id : Nat} {v : Vm} {S : Nat → Prop} {b : Nat}
theorem nodes_ok {x : VAct} {d w : Value} (hx : inI x.node) : Does Tryz.prog 44 #[.agg (x.cs d w).toArray] h (fun u h' => Ints (h.next ≤ ·) h' (if x.node < 0 then [] else [x.node]) u ∧ (∀ j, blk u = some j → h.next ≤ j) ∧ h.quiet h') := by
  refine spec_go mixed Tryz.func44 rfl Tryz.results44 (n := Tryz.f44.ntmps) (by kernel_rfl) (by simp) ?_
  simp only [go_sem, simprocAttr, VAct.cs]
  by_cases hn : x.node < 0
  · rw [if_pos hn]
    simp only [go_sem, simprocAttr, hn]
    exact ⟨IsSl.nil _ _ _, fun j e => by cases e⟩
  · rw [if_neg hn]
    simp only [go_sem, simprocAttr, hn]
    have gk : ((h.push (.cells (x.cs d w) .rw)).push (.cells [.int .i64 x.node] .rw)).get (h.next + 1) = .cells [.int .i64 x.node] .rw := by simp only [go_sem, simprocAttr]
    refine ⟨⟨_, 1, [[.int .i64 x.node]], rfl, Nat.le_refl _, (show 1 ≤ 9223372036854775807 by decide), (fun e => by cases e), (fun ad e => by cases e; exact .inl rfl), .cons ⟨rfl, inI_iff.1 hx⟩ .nil, fun _ => ⟨⟨h.next + 1, 0, none⟩, [.int .i64 x.node], .rw, rfl, Nat.le_succ _, gk, Nat.le_refl 1, rfl⟩⟩, fun j e => ?_⟩
    simp only [blk_some, Option.some.injEq] at e; omega
theorem does_ok (a : VAt ow h id v) (g : v.good b) (hb : b + 41 ≤ 1073740000) {x : VAct} {d w : Value} (hx : x.inI) (hd : Words (fr ow) h x.op.data d) (hw : IsSl .bool (fr ow) h x.keep w) :
    Does Tryz.prog 15 #[.pointer (some ⟨id, 0, none⟩), .agg (x.cs d w).toArray] h (fun u h' => u = .int .i64 (v.act x).1 ∧ ∃ ow', VAt ow' h' id (v.act x).2 ∧ VKs id ow h ow' h') := by
  obtain ⟨ad, cd, rfl⟩ := hd.shape
  obtain ⟨aw, cw, rfl⟩ := hw.shape
  obtain ⟨r, hr⟩ : ∃ r, x.kd % 10 = r := ⟨_, rfl⟩
  have et : ((x.kd : Nat) : Int).tmod 10 = (r : Int) := by rw [← hr]; rfl
  have hr10 : r < 10 := by omega
  refine spec_go mixed Tryz.func15 rfl Tryz.results15 (n := Tryz.f15.ntmps) (by kernel_rfl) (by simp) ?_
  simp only [go_sem, simprocAttr, VAct.cs]
  refine cl_gen fun k ek => ?_
  have q0 : h.quiet k := by rw [ek]; simp only [go_sem, simprocAttr]
  have g0 : k.get h.next = .cells (x.cs (.slice ad x.op.data.length cd) (.slice aw x.keep.length cw)) .rw := by rw [ek]; simp only [go_sem, simprocAttr, VAct.cs]
  have l0 : h.next < k.next := by rw [ek]; simp
  clear ek
  unfold VAct.cs at g0
  have a0 := a.quiet q0
  refine cl_spec (vMap_ok a0 g.mp) (fun u h' hp _ => by obtain ⟨_, _, _, q⟩ := hp; exact q) ?_
  rintro u k1 ⟨mw, rfl, _, q1⟩
  have a1 := a0.quiet q1
  have g1 := (q1.2 _ l0).trans g0
  have vk1 := (VKs.of_quiet (id := id) (ow := ow) q0).trans (VKs.of_quiet (id := id) (ow := cutO ow h) q1)
  have hd1 : Words (fr (cutO (cutO ow h) k)) k1 x.op.data (.slice ad x.op.data.length cd) := hd.mono fun j hj hl => ⟨fr_cut (fr_cut hj), (q0.trans q1).2 j hl⟩
  have hw1 : IsSl .bool (fr (cutO (cutO ow h) k)) k1 x.keep (.slice aw x.keep.length cw) := hw.mono fun j hj hl => ⟨fr_cut (fr_cut hj), (q0.trans q1).2 j hl⟩
  generalize cutO (cutO ow h) k = ow1 at a1 vk1 hd1 hw1
  unfold Vm.act
  rw [hr]
  simp only [go_sem, simprocAttr, g1, et]
  by_cases k0 : r = 0
  · rw [if_pos k0]
    simp only [go_sem, simprocAttr, k0, g1]
    have hdo := vDo_ok a1 g (by omega) (ver := IntKind.i64.wrap (v.mp.ver - x.late)) (o := x.op) hd1
    unfold Pl.opV at hdo
    refine cl_spec hdo (fun _ _ _ hc => absurd hc (by decide +kernel)) ?_
    rintro u k2 ⟨rfl, ow2, a2, vk2⟩
    simp only [go_sem, simprocAttr]
    exact ⟨ow2, a2, vk1.trans vk2⟩
  rw [if_neg k0]
  have k0' : ¬ (r : Int) = 0 := by omega
  by_cases k1_ : r = 1
  · rw [if_pos k1_]
    simp only [go_sem, simprocAttr, k1_, g1]
    have hnd := nodes_ok (h := k1) (x := x) (d := .slice ad x.op.data.length cd) (w := .slice aw x.keep.length cw) hx.2.2.1
    unfold VAct.cs at hnd
    refine cl_spec hnd (fun _ _ _ hc => absurd hc (by decide +kernel)) ?_
    rintro u k2 ⟨hn2, hb2, q2⟩
    obtain ⟨an, cn, rfl⟩ := hn2.shape
    simp only [go_sem, simprocAttr]
    have hid1 := a1.lt
    refine cl_spec (vFlush_ok (a1.quiet q2) (hn2.weaken fun j hj => cutO_ge hj) (fun j e => by have := hb2 j e; omega) (by split <;> simp)) (fun _ _ _ hc => absurd hc (by decide +kernel)) ?_
    rintro u k3 ⟨rfl, ow3, a3, vk3⟩
    simp only [go_sem, simprocAttr]
    exact ⟨ow3, a3, (vk1.trans (.of_quiet q2)).trans vk3⟩
  rw [if_neg k1_]
  have k1' : ¬ (r : Int) = 1 := by omega
  by_cases k2_ : r = 2
  · rw [if_pos k2_]
    simp only [go_sem, simprocAttr, k2_, g1]
    refine cl_spec (vSplit_ok a1 hx.2.1) (fun _ _ _ hc => absurd hc (by decide +kernel)) ?_
    rintro u k2 ⟨rfl, ow2, a2, vk2⟩
    simp only [go_sem, simprocAttr]
    exact ⟨ow2, a2, vk1.trans vk2⟩
  rw [if_neg k2_]
  have k2' : ¬ (r : Int) = 2 := by omega
  by_cases k3_ : r = 3
  · rw [if_pos k3_]
    simp only [go_sem, simprocAttr, k3_, g1]
    refine cl_spec (vMerge_ok a1) (fun _ _ _ hc => absurd hc (by decide +kernel)) ?_
    rintro u k2 ⟨rfl, ow2, a2, vk2⟩
    simp only [go_sem, simprocAttr]
    exact ⟨ow2, a2, vk1.trans vk2⟩
  rw [if_neg k3_]
  have k3' : ¬ (r : Int) = 3 := by omega
  by_cases k4_ : r = 4
  · rw [if_pos k4_]
    simp only [go_sem, simprocAttr, k4_, g1]
    refine cl_spec (vMove_ok a1 g (by omega)) (fun _ _ _ hc => absurd hc (by decide +kernel)) ?_
    rintro u k2 ⟨rfl, ow2, a2, vk2⟩
    simp only [go_sem, simprocAttr]
    exact ⟨ow2, a2, vk1.trans vk2⟩
  rw [if_neg k4_]
  have k4' : ¬ (r : Int) = 4 := by omega
  by_cases k5_ : r = 5
  · rw [if_pos k5_]
    simp only [go_sem, simprocAttr, k5_, g1]
    refine cl_spec (vCrash_ok a1 g (by omega) hw1) (fun _ _ _ hc => absurd hc (by decide +kernel)) ?_
    rintro u k2 ⟨rfl, ow2, a2, vk2⟩
    simp only [go_sem, simprocAttr]
    exact ⟨ow2, a2, vk1.trans vk2⟩
  rw [if_neg k5_]
  have k5' : ¬ (r : Int) = 5 := by omega
  by_cases k6_ : r = 6
  · rw [if_pos k6_]
    simp only [go_sem, simprocAttr, k6_, g1]
    refine cl_spec (vFreeze_ok a1) (fun _ _ _ hc => absurd hc (by decide +kernel)) ?_
    rintro u k2 ⟨rfl, ow2, a2, vk2⟩
    simp only [go_sem, simprocAttr]
    exact ⟨ow2, a2, vk1.trans vk2⟩
  rw [if_neg k6_]
  have k6' : ¬ (r : Int) = 6 := by omega
  by_cases k7_ : r = 7
  · rw [if_pos k7_]
    simp only [go_sem, simprocAttr, k7_, g1]
    refine cl_spec (vSnap_ok a1 g (by omega) hx.2.1) (fun _ _ _ hc => absurd hc (by decide +kernel)) ?_
    rintro u k2 ⟨rfl, ow2, a2, vk2⟩
    simp only [go_sem, simprocAttr]
    exact ⟨ow2, a2, vk1.trans vk2⟩
  rw [if_neg k7_]
  have k7' : ¬ (r : Int) = 7 := by omega
  by_cases k8_ : r = 8
  · rw [if_pos k8_]
    simp only [go_sem, simprocAttr, k8_, g1]
    refine cl_spec (vDelete_ok a1 g) (fun _ _ _ hc => absurd hc (by decide +kernel)) ?_
    rintro u k2 ⟨rfl, ow2, a2, vk2⟩
    simp only [go_sem, simprocAttr]
    exact ⟨ow2, a2, vk1.trans vk2⟩
  rw [if_neg k8_]
  have k8' : ¬ (r : Int) = 8 := by omega
  simp only [go_sem, simprocAttr, k0', k1', k2', k3', k4', k5', k6', k7', k8', g1]
  refine cl_spec (vRead_ok a1 g (ver := IntKind.i64.wrap (v.mp.ver - x.late)) hx.2.1 hx.2.2.2.1.2.2) (fun _ _ _ hc => absurd hc (by decide +kernel)) ?_
  rintro u k2 ⟨w2, rfl, _, q2⟩
  simp only [go_sem, simprocAttr]
  exact ⟨_, a1.quiet q2, vk1.trans (.of_quiet q2)⟩
theorem VKs.quiet0 {k k' : AHeap} (vk : VKs id ow k ow' k') (q : h.quiet k) (hf : ∀ j, j < h.next → Proofs.YtedpfdflolkpeaaGreatDoor.fr ow j ∧ j ≠ id) : h.quiet k' :=
  ⟨Nat.le_trans q.1 vk.1, fun j hj => ((vk.2 j (Nat.lt_of_lt_of_le hj q.1)).2 (hf j hj).1 (hf j hj).2).trans (q.2 j hj)⟩

/-! The probe. -/
def alm : Pl.SMap := ⟨1, 10, [⟨0, 5, 0⟩, ⟨5, 10, 1⟩]⟩
theorem alm_new : Pl.SMap.new 10 [0, 1] = (alm, 0) := by kernel_rfl
def alo : Pl.Op := ⟨1, 4, 0, [5, 6]⟩
theorem al_do : ((Vm.new alm).do 1 alo).1 = 0 := by decide +kernel
theorem al_read : ((((Vm.new alm).do 1 alo).2.crash 0 []).2.read 1 4 2) = ([0, 6], 0) := by decide +kernel
theorem al_mp : ((((Vm.new alm).do 1 alo).2.crash 0 []).2).mp = alm := by
  have e : ∀ v : Vm, (v.crash 0 []).2.mp = v.mp := fun v => by unfold Vm.crash; split <;> rfl
  rw [e, (do_good (Vm.new_good (m := alm) ⟨by decide, by decide⟩) (by decide) 1 alo).2]; rfl
theorem valive_ok (h : AHeap) : Does Tryz.prog 11 #[] h (fun u h' => u = .bool true ∧ h.quiet h') := by
  have g0 : (Vm.new alm).good 0 := Vm.new_good ⟨by decide, by decide⟩
  refine spec_go mixed Tryz.func11 rfl Tryz.results11 (n := Tryz.f11.ntmps) (by kernel_rfl) (by simp) ?_
  simp only [go_sem, simprocAttr]
  have qa : h.quiet (h.push (.cells [.int .i64 0, .int .i64 1] .rw)) := .push _ _
  have hns : Ints (fun _ => True) (h.push (.cells [.int .i64 0, .int .i64 1] .rw)) [0, 1] (.slice (some ⟨h.next, 0, none⟩) 2 2) :=
    ⟨_, 2, [[.int .i64 0], [.int .i64 1]], rfl, Nat.le_refl _, by decide, (fun e => by cases e), (fun ad e => by cases e; exact .inl rfl), .cons ⟨rfl, by decide⟩ (.cons ⟨rfl, by decide⟩ .nil), fun _ => ⟨_, _, _, rfl, trivial, AHeap.get_push_self _ _, Nat.le_refl 2, rfl⟩⟩
  refine cl_spec (vNew_ok hns (n := 10) (by unfold inI; omega)) (fun _ _ _ hc => absurd hc (by decide +kernel)) ?_
  rw [alm_new]
  rintro u k ⟨q1, ⟨_, id, ow, rfl, hid, a, hfr⟩ | ⟨e, _⟩⟩
  rotate_left
  · exact absurd rfl e
  simp only [go_sem, simprocAttr]
  have q12 : h.quiet k := qa.trans q1
  have qb : k.quiet (k.push (.cells [.int .u64 5, .int .u64 6] .rw)) := .push _ _
  have hws : Words (fr (cutO ow k)) (k.push (.cells [.int .u64 5, .int .u64 6] .rw)) alo.data (.slice (some ⟨k.next, 0, none⟩) 2 2) :=
    ⟨_, 2, [[.int .u64 5], [.int .u64 6]], rfl, Nat.le_refl _, by decide, (fun e => by cases e), (fun ad e => by cases e; exact .inl rfl), .cons ⟨rfl, by decide⟩ (.cons ⟨rfl, by decide⟩ .nil), fun _ => ⟨_, _, _, rfl, cutO_ge (Nat.le_refl _), AHeap.get_push_self _ _, Nat.le_refl 2, rfl⟩⟩
  have a1 := a.quiet qb
  have hdo := vDo_ok a1 g0 (by decide) (ver := 1) (o := alo) hws
  unfold Pl.opV alo at hdo
  refine cl_spec hdo (fun _ _ _ hc => absurd hc (by decide +kernel)) ?_
  rintro u k1 ⟨rfl, ow1, a2, vk2⟩
  have e1 : ((Vm.new alm).do 1 ⟨1, 4, 0, [5, 6]⟩).1 = 0 := al_do
  rw [e1]
  have g1 : ((Vm.new alm).do 1 alo).2.good 16 := (do_good g0 (by decide) 1 alo).1
  have e2 : (Vm.new alm).do 1 ⟨1, 4, 0, [5, 6]⟩ = (Vm.new alm).do 1 alo := rfl
  rw [e2] at a2
  obtain ⟨v1, hv1⟩ : ∃ v1, ((Vm.new alm).do 1 alo).2 = v1 := ⟨_, rfl⟩
  have er := al_read
  have em := al_mp
  rw [hv1] at a2 g1 er em
  simp only [go_sem, simprocAttr]
  refine cl_spec (vCrash_ok a2 g1 (by decide) (node := 0) (ks := []) (IsSl.nil _ _ _)) (fun _ _ _ hc => absurd hc (by decide +kernel)) ?_
  rintro u k2 ⟨rfl, ow2, a3, vk3⟩
  have g2 : (v1.crash 0 []).2.good 16 := crash_good g1 (by decide) 0 []
  obtain ⟨v2, hv2⟩ : ∃ v2, (v1.crash 0 []).2 = v2 := ⟨_, rfl⟩
  rw [hv2] at a3 g2 er em
  simp only [go_sem, simprocAttr]
  refine cl_spec (vRead_ok a3 g2 (ver := 1) (off := 4) (n := 2) (by unfold inJ; omega) (by unfold inJ; omega)) (fun _ _ _ hc => absurd hc (by decide +kernel)) ?_
  rw [er]
  rintro u k3 ⟨w, rfl, hw, q3⟩
  obtain ⟨aw, cw, rfl⟩ := hw.shape
  simp only [go_sem, simprocAttr]
  have qc : k3.quiet (k3.push (.cells [.int .u64 0, .int .u64 6] .rw)) := .push _ _
  have hws2 : Words (fun _ => True) (k3.push (.cells [.int .u64 0, .int .u64 6] .rw)) [0, 6] (.slice (some ⟨k3.next, 0, none⟩) 2 2) :=
    ⟨_, 2, [[.int .u64 0], [.int .u64 6]], rfl, Nat.le_refl _, by decide, (fun e => by cases e), (fun ad e => by cases e; exact .inl rfl), .cons ⟨rfl, by decide⟩ (.cons ⟨rfl, by decide⟩ .nil), fun _ => ⟨_, _, _, rfl, trivial, AHeap.get_push_self _ _, Nat.le_refl 2, rfl⟩⟩
  refine cl_spec (Words_ok (hw.quiet qc) hws2) (fun _ _ _ hc => absurd hc (by decide +kernel)) ?_
  rintro u k4 ⟨rfl, rfl⟩
  simp only [go_sem, simprocAttr]
  refine cl_spec (vMap_ok (a3.quiet (q3.trans qc)) g2.mp) (fun _ _ _ hc => absurd hc (by decide +kernel)) ?_
  rintro u k5 ⟨mw, rfl, hmw, q5⟩
  obtain ⟨am, cm, rfl, _⟩ := hmw.len
  rw [em]
  simp only [go_sem, simprocAttr, alm]
  have vkt : VKs id ow k ow2 k2 := ((VKs.of_quiet (id := id) (ow := ow) qb).trans vk2).trans vk3
  have qh2 : h.quiet k2 := vkt.quiet0 q12 fun j hj => by
    have := qa.1
    have hn : (h.push (.cells [.int .i64 0, .int .i64 1] .rw)).next = h.next + 1 := by simp
    exact ⟨hfr j (by omega), by omega⟩
  exact ((qh2.trans q3).trans qc).trans q5
end
end Go.Proofs.YtedpfdflolkpeaaGreatDoor
