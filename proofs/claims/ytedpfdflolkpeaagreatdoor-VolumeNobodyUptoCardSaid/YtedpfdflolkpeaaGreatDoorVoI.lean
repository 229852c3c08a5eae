/- volume: the other calls: the walk. -/
import Derived.Test.YtedpfdflolkpeaaGreatDoorVoH
set_option linter.unusedSimpArgs false
set_option linter.unusedVariables false
set_option linter.unnecessarySimpa false
set_option maxRecDepth 100000
namespace Go.Proofs.YtedpfdflolkpeaaGreatDoor
open Go.AM
def has16 (n : Int) : Prop := 0 ≤ n ∧ n < 16
instance (n : Int) : Decidable (has16 n) := inferInstanceAs (Decidable (_ ∧ _))
def Vm.upd (v : Vm) (k : Nat) (f : Sm → Sm) : Vm := v.set k (f (v.sh k))
def Vm.flushL (v : Vm) (ks : List Nat) : Vm := ks.foldl (fun v k => v.upd k Sm.flush) v
def Vm.flush (v : Vm) (ns : List Int) : Int × Vm :=
  if ns = [] then (0, v.flushL (List.range 16)) else if ns.all (fun n => decide (has16 n)) = true then (0, v.flushL (ns.map Int.toNat)) else (9, v)
def Vm.crash (v : Vm) (n : Int) (ks : List Bool) : Int × Vm := if has16 n then (0, v.upd n.toNat fun m => m.crash ks) else (9, v)
def Vm.freeze (v : Vm) (n : Int) (b : Bool) : Int × Vm := if has16 n then (0, v.upd n.toNat fun m => { m with frozen := b }) else (9, v)
def Vm.snap (v : Vm) (n x : Int) : Int × Vm := if has16 n then (((v.sh n.toNat).snap x).1, v.upd n.toNat fun m => (m.snap x).2) else (9, v)
def Vm.delete (v : Vm) (n x : Int) : Int × Vm := if has16 n then (((v.sh n.toNat).delete x).1, v.upd n.toNat fun m => (m.delete x).2) else (9, v)
def Vm.turn (v : Vm) (r : Pl.SMap × Int) : Int × Vm := (r.2, if r.2 = 0 then { v with mp := r.1 } else v)
section
variable {ow ow' ow'' : Nat → Nat → Nat} {h h' h'' : AHeap} {id : Nat} {v : Vm} {S : Nat → Prop} {b : Nat}
theorem vCrash_ok (a : VAt ow h id v) (g : v.good b) (hb : b ≤ 1073740000) {node : Int} {ks : List Bool} {kv : Value} (hk : IsSl .bool (fr ow) h ks kv) :
    Does Tryz.prog 17 #[.pointer (some ⟨id, 0, none⟩), .int .i64 node, kv] h (fun u h' => u = .int .i64 (v.crash node ks).1 ∧ ∃ ow', VAt ow' h' id (v.crash node ks).2 ∧ VKs id ow h ow' h') := by
  refine spec_go mixed Tryz.func17 rfl Tryz.results17 (n := Tryz.f17.ntmps) (by kernel_rfl) (by simp) ?_
  simp only [go_sem, simprocAttr]
  refine cl_spec (vfind_ok a) (fun _ _ _ hc => absurd hc (by decide +kernel)) ?_
  unfold Vm.crash
  rintro u k ⟨rfl, ⟨hn, rfl⟩ | ⟨i, pv, sv, ids, hi, rfl, c, rfl⟩⟩
  · rw [if_neg (show ¬ has16 node from hn)]
    simp only [go_sem, simprocAttr]
    exact ⟨_, a, .refl⟩
  · rw [if_pos (show has16 (i : Int) by unfold has16; omega)]
    simp only [go_sem, simprocAttr, Int.toNat_natCast]
    refine cl_spec (sCrash_ok (c.sat i hi) (g.sh i hi).1 hb hk fun j hj => by rw [hj i hi]; decide) (fun _ _ _ hc => absurd hc (by decide +kernel)) ?_
    rintro u k1 ⟨rfl, o1, s1, kk1⟩
    obtain ⟨c1, vk1⟩ := c.step hi kk1 s1
    simp only [go_sem, simprocAttr]
    exact ⟨_, ⟨_, _, _, c1⟩, vk1⟩
theorem vFreeze_ok (a : VAt ow h id v) {node : Int} {y : Bool} :
    Does Tryz.prog 46 #[.pointer (some ⟨id, 0, none⟩), .int .i64 node, .bool y] h (fun u h' => u = .int .i64 (v.freeze node y).1 ∧ ∃ ow', VAt ow' h' id (v.freeze node y).2 ∧ VKs id ow h ow' h') := by
  refine spec_go mixed Tryz.func46 rfl Tryz.results46 (n := Tryz.f46.ntmps) (by kernel_rfl) (by simp) ?_
  simp only [go_sem, simprocAttr]
  refine cl_spec (vfind_ok a) (fun _ _ _ hc => absurd hc (by decide +kernel)) ?_
  unfold Vm.freeze
  rintro u k ⟨rfl, ⟨hn, rfl⟩ | ⟨i, pv, sv, ids, hi, rfl, c, rfl⟩⟩
  · rw [if_neg (show ¬ has16 node from hn)]
    simp only [go_sem, simprocAttr]
    exact ⟨_, a, .refl⟩
  · rw [if_pos (show has16 (i : Int) by unfold has16; omega)]
    simp only [go_sem, simprocAttr, Int.toNat_natCast]
    refine cl_spec (sFreeze_ok (c.sat i hi)) (fun _ _ _ hc => absurd hc (by decide +kernel)) ?_
    rintro u k1 ⟨rfl, s1, kk1⟩
    obtain ⟨c1, vk1⟩ := c.step hi (kk1.weaken fun t e => by subst e; unfold shT; decide) s1
    simp only [go_sem, simprocAttr]
    exact ⟨_, ⟨_, _, _, c1⟩, vk1⟩
theorem vSnap_ok (a : VAt ow h id v) (g : v.good b) (hb : b < 1073741824) {node x : Int} (hx : inI x) :
    Does Tryz.prog 47 #[.pointer (some ⟨id, 0, none⟩), .int .i64 node, .int .i64 x] h (fun u h' => u = .int .i64 (v.snap node x).1 ∧ ∃ ow', VAt ow' h' id (v.snap node x).2 ∧ VKs id ow h ow' h') := by
  refine spec_go mixed Tryz.func47 rfl Tryz.results47 (n := Tryz.f47.ntmps) (by kernel_rfl) (by simp) ?_
  simp only [go_sem, simprocAttr]
  refine cl_spec (vfind_ok a) (fun _ _ _ hc => absurd hc (by decide +kernel)) ?_
  unfold Vm.snap
  rintro u k ⟨rfl, ⟨hn, rfl⟩ | ⟨i, pv, sv, ids, hi, rfl, c, rfl⟩⟩
  · rw [if_neg (show ¬ has16 node from hn)]
    simp only [go_sem, simprocAttr]
    exact ⟨_, a, .refl⟩
  · rw [if_pos (show has16 (i : Int) by unfold has16; omega)]
    simp only [go_sem, simprocAttr, Int.toNat_natCast]
    refine cl_spec (sSnap_ok (c.sat i hi) (g.sh i hi).1 hb hx) (fun _ _ _ hc => absurd hc (by decide +kernel)) ?_
    rintro u k1 ⟨rfl, o1, s1, kk1⟩
    obtain ⟨c1, vk1⟩ := c.step hi kk1 s1
    simp only [go_sem, simprocAttr]
    exact ⟨_, ⟨_, _, _, c1⟩, vk1⟩
theorem vDelete_ok (a : VAt ow h id v) (g : v.good b) {node x : Int} :
    Does Tryz.prog 48 #[.pointer (some ⟨id, 0, none⟩), .int .i64 node, .int .i64 x] h (fun u h' => u = .int .i64 (v.delete node x).1 ∧ ∃ ow', VAt ow' h' id (v.delete node x).2 ∧ VKs id ow h ow' h') := by
  refine spec_go mixed Tryz.func48 rfl Tryz.results48 (n := Tryz.f48.ntmps) (by kernel_rfl) (by simp) ?_
  simp only [go_sem, simprocAttr]
  refine cl_spec (vfind_ok a) (fun _ _ _ hc => absurd hc (by decide +kernel)) ?_
  unfold Vm.delete
  rintro u k ⟨rfl, ⟨hn, rfl⟩ | ⟨i, pv, sv, ids, hi, rfl, c, rfl⟩⟩
  · rw [if_neg (show ¬ has16 node from hn)]
    simp only [go_sem, simprocAttr]
    exact ⟨_, a, .refl⟩
  · rw [if_pos (show has16 (i : Int) by unfold has16; omega)]
    simp only [go_sem, simprocAttr, Int.toNat_natCast]
    refine cl_spec (sDelete_ok (c.sat i hi) (g.sh i hi).1) (fun _ _ _ hc => absurd hc (by decide +kernel)) ?_
    rintro u k1 ⟨rfl, o1, s1, kk1⟩
    obtain ⟨c1, vk1⟩ := c.step hi kk1 s1
    simp only [go_sem, simprocAttr]
    exact ⟨_, ⟨_, _, _, c1⟩, vk1⟩
theorem vSnaps_ok (a : VAt ow h id v) (g : v.good b) {node : Int} :
    Does Tryz.prog 33 #[.pointer (some ⟨id, 0, none⟩), .int .i64 node] h (fun u h' => Lst rI h.next (fun _ => False) h' (if has16 node then (v.sh node.toNat).snaps.map Prod.fst else []) u ∧ h.quiet h') := by
  refine spec_go mixed Tryz.func33 rfl Tryz.results33 (n := Tryz.f33.ntmps) (by kernel_rfl) (by simp) ?_
  simp only [go_sem, simprocAttr]
  refine cl_spec (vfind_ok a) (fun _ _ _ hc => absurd hc (by decide +kernel)) ?_
  rintro u k ⟨rfl, ⟨hn, rfl⟩ | ⟨i, pv, sv, ids, hi, rfl, c, rfl⟩⟩
  · rw [if_neg (show ¬ has16 node from hn)]
    simp only [go_sem, simprocAttr]
    exact .nil _ _ _ _
  · rw [if_pos (show has16 (i : Int) by unfold has16; omega)]
    simp only [go_sem, simprocAttr, Int.toNat_natCast]
    refine cl_spec (sSnaps_ok (c.sat i hi) (Nat.le_trans (g.sh i hi).1.sl (by decide))) (fun _ _ _ hc => absurd hc (by decide +kernel)) ?_
    rintro u k1 ⟨l1, q1⟩
    simp only [go_sem, simprocAttr]
    exact ⟨l1, q1⟩
theorem vSince_ok (a : VAt ow h id v) (g : v.good b) {node base x : Int} :
    Does Tryz.prog 30 #[.pointer (some ⟨id, 0, none⟩), .int .i64 node, .int .i64 base, .int .i64 x] h
      (fun u h' => ∃ w, u = .tuple #[w, .int .i64 (if has16 node then (v.sh node.toNat).since base x else ([], 9)).2] ∧ Lst rBopO h.next (h.next ≤ ·) h' (if has16 node then (v.sh node.toNat).since base x else ([], 9)).1 w ∧ h.quiet h') := by
  refine spec_go mixed Tryz.func30 rfl Tryz.results30 (n := Tryz.f30.ntmps) (by kernel_rfl) (by simp) ?_
  simp only [go_sem, simprocAttr]
  refine cl_spec (vfind_ok a) (fun _ _ _ hc => absurd hc (by decide +kernel)) ?_
  rintro u k ⟨rfl, ⟨hn, rfl⟩ | ⟨i, pv, sv, ids, hi, rfl, c, rfl⟩⟩
  · rw [if_neg (show ¬ has16 node from hn)]
    simp only [go_sem, simprocAttr]
    exact ⟨_, rfl, .nil _ _ _ _⟩
  · rw [if_pos (show has16 (i : Int) by unfold has16; omega)]
    simp only [go_sem, simprocAttr, Int.toNat_natCast]
    refine cl_spec (sSince_ok (c.sat i hi) (g.sh i hi).1) (fun _ _ _ hc => absurd hc (by decide +kernel)) ?_
    rintro u k1 ⟨w, rfl, l1, q1⟩
    simp only [go_sem, simprocAttr]
    exact ⟨w, rfl, l1, q1⟩
theorem flushL_app (v : Vm) (l : List Nat) (k : Nat) : v.flushL (l ++ [k]) = (v.flushL l).upd k Sm.flush := by unfold Vm.flushL; rw [List.foldl_append]; rfl
theorem _root_.Go.AM.IsSl.atPtr {S : Nat → Prop} {h : AHeap} {xs : List (Option Nat)} {a : Option Addr} {n cap : Nat} (hs : IsSl Rep.ptr S h xs (.slice a n cap)) {i : Nat} (hi : i < n) :
    ∃ b off sp cc md x, a = some ⟨b, off, sp⟩ ∧ S b ∧ h.get b = .cells cc md ∧ xs[i]? = some x ∧ cc[off + i]? = some (.pointer (x.map fun id => ⟨id, 0, none⟩)) := by
  obtain ⟨b, off, sp, cc, md, w, x, h1, h2, h3, h4, h5, h6⟩ := hs.at1 rfl hi
  have := (ptr_iff (h := h) (S := S)).1 h5
  cases this
  exact ⟨b, off, sp, cc, md, x, h1, h2, h3, h4, h6⟩
theorem vFlush_ok (a : VAt ow h id v) {ns : List Int} {w : Value} (hs : Ints (fr ow) h ns w) (hid : ∀ j, blk w = some j → j ≠ id) (hl : ns.length ≤ 1048576) :
    Does Tryz.prog 21 #[.pointer (some ⟨id, 0, none⟩), w] h (fun u h' => u = .int .i64 (v.flush ns).1 ∧ ∃ ow', VAt ow' h' id (v.flush ns).2 ∧ VKs id ow h ow' h') := by
  obtain ⟨aw, cw, rfl⟩ := hs.shape
  have hlen := hs.len
  refine spec_go mixed Tryz.func21 rfl Tryz.results21 (n := Tryz.f21.ntmps) (by kernel_rfl) (by simp) ?_
  simp only [go_sem, simprocAttr]
  refine cl_spec (vok_ok a) (fun _ _ _ hc => absurd hc (by decide +kernel)) ?_
  rintro u k ⟨rfl, rfl⟩
  obtain ⟨pv, sv, ids, c⟩ := a
  have hg := c.get
  unfold volC at hg
  obtain ⟨asv, csv, rfl⟩ := c.shs.shape
  have hL : (shL ids).length = 16 := by simp [shL]
  simp only [go_sem, simprocAttr, hg]
  refine cnd_join (fun ρ k1 => ∃ (ow1 : Nat → Nat → Nat) (ks : List Nat) (a1 : Option Addr) (c1 : Nat), (∀ x ∈ ks, x < 16) ∧ ks.length ≤ 1048576 ∧ VC ow1 k1 id v pv (.slice asv (shL ids).length csv) ids ∧ VKs id ow k ow1 k1 ∧ IsSl Rep.ptr (fun j => fr ow1 j ∧ j ≠ id) k1 (ks.map fun x => some (ids x)) (.slice a1 ks.length c1) ∧
    v.flush ns = (0, v.flushL ks) ∧ ρ 5 = .slice a1 ks.length c1) ?_ ?_
  · refine cnd_decide (fun hy => ?_) (fun hy => ?_)
    · have hn : ns ≠ [] := fun e => by rw [e] at hy; simp at hy
      simp only [go_sem, simprocAttr]
      refine go_loop (fun z ρ k1 => ∃ (i : Nat) (sv1 : Value), i ≤ ns.length ∧ z = ns.length - i ∧ k.quiet k1 ∧ (ns.take i).all (fun n => decide (has16 n)) = true ∧ Lst Rep.ptr k.next (fun _ => False) k1 ((ns.take i).map fun n => some (ids n.toNat)) sv1 ∧
        ρ 0 = .pointer (some ⟨id, 0, none⟩) ∧ ρ 5 = sv1 ∧ ρ 22 = .slice aw ns.length cw ∧ ρ 23 = .int .i64 ns.length ∧ ρ 24 = .int .i64 i) ns.length
        ⟨0, _, by omega, by omega, .refl _, rfl, .nil _ _ _ _, by simp only [go_sem, simprocAttr]⟩ ?_
      rintro z ρ k1 ⟨i, sv1, hi, rfl, q, hall, hL1, r0, r5, r22, r23, r24⟩
      simp only [go_sem, simprocAttr, r0, r5, r22, r23, r24]
      refine cnd_decide (fun hy' => ?_) (fun hy' => ?_)
      · have h1 : i < ns.length := by omega
        have e24 : IntKind.i64.wrap ((i : Int) + 1) = ((i + 1 : Nat) : Int) := by rw [wi64] <;> omega
        obtain ⟨jb, off, sp, cc, md, x, hA, _, hgx, hxi, hxI, hdt⟩ := (hs.quiet q).atI h1
        subst hA
        have et : ns.take (i + 1) = ns.take i ++ [x] := by rw [List.take_add_one, hxi]; rfl
        simp only [go_sem, simprocAttr, r0, r22, r24, h1, hgx, hdt]
        refine cl_spec (vfind_ok ⟨_, _, _, c.quiet q⟩) (fun _ _ _ hc => absurd hc (by decide +kernel)) ?_
        rintro u k2 ⟨rfl, ⟨hx, rfl⟩ | ⟨j, pv', sv', ids', hj, rfl, c', rfl⟩⟩
        · have hfl : v.flush ns = (9, v) := by
            unfold Vm.flush
            rw [if_neg hn, if_neg]
            intro e
            have := List.all_eq_true.1 e x (List.mem_of_getElem? hxi)
            exact hx (of_decide_eq_true this)
          rw [hfl]
          simp only [go_sem, simprocAttr]
          exact ⟨_, ⟨_, _, _, c.quiet q⟩, .of_quiet q⟩
        · simp only [go_sem, simprocAttr, r5]
          -- the shard that was found is the volume's
          have hids : ids' j = ids j := by
            obtain ⟨asv', csv', rfl⟩ := c'.shs.shape
            have hg' := c'.get
            have hgc := (c.quiet q).get
            unfold volC at hg' hgc
            rw [hgc] at hg'
            simp only [AObj.cells.injEq, List.cons.injEq, Value.slice.injEq, and_true, true_and] at hg'
            obtain ⟨_, b1, o1, sp1, cc1, md1, e1, g1, g2⟩ := (c.quiet q).shat hj
            obtain ⟨_, b2, o2, sp2, cc2, md2, e2, g3, g4⟩ := c'.shat hj
            have : asv = asv' := hg'.2.1
            rw [e1, e2] at this
            cases this
            rw [g1] at g3; cases g3
            rw [g2] at g4
            simp only [Option.some.injEq, Value.pointer.injEq, Addr.mk.injEq] at g4
            exact g4.1.symm
          rw [hids]
          have qb : k2.quiet (k2.push (.cells [.pointer (some ⟨ids j, 0, none⟩)] .rw)) := .push _ _
          obtain ⟨a1, n1, rfl, hln⟩ := hL1.len
          have hml : ((ns.take i).map fun n => some (ids n.toNat)).length = i := by rw [List.length_map, List.length_take]; omega
          obtain ⟨v7, k7, e7, hL7, f7, n7⟩ := (hL1.quiet qb).app1 (y := some (ids j)) (cs := [.pointer (some ⟨ids j, 0, none⟩)]) (bytes := 8) 1 rfl rfl (by omega) (by omega) (Nat.le_trans q.1 qb.1)
          obtain ⟨a7, c7, rfl, _⟩ := hL7.len
          simp only [go_sem, simprocAttr, r24, e24, e7]
          refine Hold.mk ⟨ns.length - (i + 1), by omega, i + 1, _, by omega, rfl, Fw.behind (q.trans qb) f7 fun j e => (hL1.blk_ge e).1, ?_, ?_, by simp only [go_sem, simprocAttr, r0, r22, r23]; rfl⟩
          · rw [et, List.all_append, hall]; simp [has16]; omega
          · rw [et, List.map_append]; exact hL7
      · have : i = ns.length := by omega
        subst this
        rw [List.take_length] at hall hL1
        obtain ⟨a1, n1, rfl, hln⟩ := hL1.len
        have hfl : v.flush ns = (0, v.flushL (ns.map Int.toNat)) := by unfold Vm.flush; rw [if_neg hn, if_pos hall]
        simp only [go_sem, simprocAttr]
        refine Hold.mk ⟨_, ns.map Int.toNat, a1, n1, ?_, by rw [List.length_map]; omega, c.quiet q, .of_quiet q, ?_, hfl, by simp only [go_sem, simprocAttr, r5, List.length_map]⟩
        · intro x hx
          obtain ⟨n, hn', rfl⟩ := List.mem_map.1 hx
          have := List.all_eq_true.1 hall n hn'
          have := of_decide_eq_true this
          unfold has16 at this; omega
        · have := hL1.isSl (S := (k.next ≤ ·)) (fun j e _ => e.elim) fun j e => e
          rw [List.map_map]
          have e : (ns.map fun n => some (ids n.toNat)) = ns.map ((fun x => some (ids x)) ∘ Int.toNat) := rfl
          rw [← e]
          simpa using this.weaken fun j hj => ⟨cutO_ge hj, by have := c.lt; omega⟩
    · have hn : ns = [] := List.eq_nil_of_length_eq_zero (by omega)
      have hfl : v.flush ns = (0, v.flushL (List.range 16)) := if_pos hn
      simp only [go_sem, simprocAttr]
      exact Hold.mk ⟨ow, List.range 16, asv, csv, fun x hx => List.mem_range.1 hx, by decide, c, .refl, by have := c.shs; unfold shL at this; simpa using this, hfl, by simp only [go_sem, simprocAttr, hL]; rfl⟩
  · rintro ρ k1 ⟨ow1, ks, a1, c1, hks, hkl, cc1, vk1, hp1, hfl, r5⟩
    rw [hfl]
    simp only [go_sem, simprocAttr, r5]
    refine go_loop (fun z ρ k2 => ∃ (i : Nat) (ow2 : Nat → Nat → Nat), i ≤ ks.length ∧ z = ks.length - i ∧ VC ow2 k2 id (v.flushL (ks.take i)) pv (.slice asv (shL ids).length csv) ids ∧ VKs id ow k ow2 k2 ∧ IsSl Rep.ptr (fun j => fr ow2 j ∧ j ≠ id) k2 (ks.map fun x => some (ids x)) (.slice a1 ks.length c1) ∧
      ρ 42 = .slice a1 ks.length c1 ∧ ρ 43 = .int .i64 ks.length ∧ ρ 44 = .int .i64 i) ks.length
      ⟨0, ow1, by omega, by omega, cc1, vk1, hp1, by simp only [go_sem, simprocAttr]⟩ ?_
    rintro z ρ k2 ⟨i, ow2, hi, rfl, c2, vk2, hp2, r42, r43, r44⟩
    simp only [go_sem, simprocAttr, r42, r43, r44]
    refine cnd_decide (fun hy' => ?_) (fun hy' => ?_)
    · have h1 : i < ks.length := by omega
      have e44 : IntKind.i64.wrap ((i : Int) + 1) = ((i + 1 : Nat) : Int) := by rw [wi64] <;> omega
      obtain ⟨b, off, sp, cc, md, x, hA, _, hgx, hxi, hdt⟩ := hp2.atPtr h1
      subst hA
      rw [List.getElem?_map, List.getElem?_eq_getElem h1] at hxi
      cases hxi
      have hx16 : ks[i] < 16 := hks _ (List.getElem_mem h1)
      have et : ks.take (i + 1) = ks.take i ++ [ks[i]] := by rw [List.take_add_one, List.getElem?_eq_getElem h1]; rfl
      simp only [go_sem, simprocAttr, r42, r44, h1, hgx, hdt]
      refine cl_spec (sFlush_ok (c2.sat _ hx16)) (fun _ _ _ hc => absurd hc (by decide +kernel)) ?_
      rintro u k3 ⟨rfl, s3, kk3⟩
      obtain ⟨c3, vk3⟩ := c2.step hx16 (kk3.weaken fun t e => by subst e; unfold shT; decide) s3
      simp only [go_sem, simprocAttr, r44, e44]
      refine Hold.mk ⟨ks.length - (i + 1), by omega, i + 1, _, by omega, rfl, ?_, vk2.trans vk3, hp2.mono fun j hj hl => vk3.same j hj hl, by simp only [go_sem, simprocAttr, r42, r43]⟩
      rw [et, flushL_app]
      exact c3
    · have : i = ks.length := by omega
      subst this
      rw [List.take_length] at c2
      simp only [go_sem, simprocAttr]
      exact ⟨_, ⟨_, _, _, c2⟩, vk2⟩
theorem turn_ok {pv sv : Value} {ids : Nat → Nat} (c : VC ow h id v pv sv ids) {m : Pl.SMap} {e : Int} {mv : Value} (hm : IsSl Pl.rPiece (fun j => fr ow j ∧ j ≠ id) h m.ps mv) :
    Does Tryz.prog 65 #[.pointer (some ⟨id, 0, none⟩), Pl.mapV m mv, .int .i64 e] h (fun u h' => u = .int .i64 e ∧ ∃ ow', VAt ow' h' id (v.turn (m, e)).2 ∧ VKs id ow h ow' h') := by
  obtain ⟨am, cm, rfl⟩ := hm.shape
  obtain ⟨apv, cpv, rfl⟩ := c.pcs.shape
  obtain ⟨asv, csv, rfl⟩ := c.shs.shape
  have hg := c.get
  unfold volC at hg
  refine spec_go mixed Tryz.func65 rfl Tryz.results65 (n := Tryz.f65.ntmps) (by kernel_rfl) (by simp) ?_
  simp only [go_sem, simprocAttr]
  have q0 : h.quiet (h.push (.cells [.int .i64 m.ver, .int .i64 m.n, .slice am m.ps.length cm] .rw)) := .push _ _
  have c0 := c.quiet q0
  have hg0 := c0.get
  unfold volC at hg0
  have hm0 : IsSl Pl.rPiece (fun j => fr (cutO ow h) j ∧ j ≠ id) (h.push (.cells [.int .i64 m.ver, .int .i64 m.n, .slice am m.ps.length cm] .rw)) m.ps (.slice am m.ps.length cm) := hm.mono fun j hj hl => ⟨⟨fr_cut hj.1, hj.2⟩, q0.2 j hl⟩
  have vk0 := VKs.of_quiet (id := id) (ow := ow) q0
  by_cases he : e = 0
  · have e1 : (v.turn (m, e)).2 = { v with mp := m } := if_pos he
    rw [e1]
    simp only [go_sem, simprocAttr, he, hg0]
    obtain ⟨c1, vk1⟩ := c0.turn hm0
    exact ⟨_, ⟨_, _, _, c1⟩, vk0.trans vk1⟩
  · have e1 : (v.turn (m, e)).2 = v := if_neg he
    rw [e1]
    simp only [go_sem, simprocAttr, he]
    exact ⟨_, ⟨_, _, _, c0⟩, vk0⟩
theorem vSplit_ok (a : VAt ow h id v) {x : Int} (hx : inI x) :
    Does Tryz.prog 25 #[.pointer (some ⟨id, 0, none⟩), .int .i64 x] h (fun u h' => u = .int .i64 (v.turn (v.mp.split x)).1 ∧ ∃ ow', VAt ow' h' id (v.turn (v.mp.split x)).2 ∧ VKs id ow h ow' h') := by
  refine spec_go mixed Tryz.func25 rfl Tryz.results25 (n := Tryz.f25.ntmps) (by kernel_rfl) (by simp) ?_
  simp only [go_sem, simprocAttr]
  refine cl_spec (vok_ok a) (fun _ _ _ hc => absurd hc (by decide +kernel)) ?_
  rintro u k ⟨rfl, rfl⟩
  obtain ⟨pv, sv, ids, c⟩ := a
  obtain ⟨apv, cpv, rfl⟩ := c.pcs.shape
  have hg := c.get
  unfold volC at hg
  simp only [go_sem, simprocAttr, hg]
  have hs := Pl.split_ok (m := v.mp) c.pcs (x := x) hx
  unfold Pl.mapV at hs
  refine cl_spec hs (fun _ _ _ hc => absurd hc (by decide +kernel)) ?_
  rintro u k1 ⟨q, mv, rfl, hmv⟩
  simp only [go_sem, simprocAttr]
  have hl := c.lt
  have ht := turn_ok (c.quiet q) (m := (v.mp.split x).1) (e := (v.mp.split x).2) (hmv.weaken fun j hj => ⟨cutO_ge hj, by omega⟩)
  unfold Pl.mapV at ht
  refine cl_spec ht (fun _ _ _ hc => absurd hc (by decide +kernel)) ?_
  rintro u k2 ⟨rfl, ow2, a2, vk2⟩
  simp only [go_sem, simprocAttr]
  exact ⟨rfl, ow2, a2, (VKs.of_quiet q).trans vk2⟩
theorem vMerge_ok (a : VAt ow h id v) {x : Int} :
    Does Tryz.prog 45 #[.pointer (some ⟨id, 0, none⟩), .int .i64 x] h (fun u h' => u = .int .i64 (v.turn (v.mp.merge x)).1 ∧ ∃ ow', VAt ow' h' id (v.turn (v.mp.merge x)).2 ∧ VKs id ow h ow' h') := by
  refine spec_go mixed Tryz.func45 rfl Tryz.results45 (n := Tryz.f45.ntmps) (by kernel_rfl) (by simp) ?_
  simp only [go_sem, simprocAttr]
  refine cl_spec (vok_ok a) (fun _ _ _ hc => absurd hc (by decide +kernel)) ?_
  rintro u k ⟨rfl, rfl⟩
  obtain ⟨pv, sv, ids, c⟩ := a
  obtain ⟨apv, cpv, rfl⟩ := c.pcs.shape
  have hg := c.get
  unfold volC at hg
  simp only [go_sem, simprocAttr, hg]
  have hs := Pl.merge_ok (m := v.mp) c.pcs (x := x)
  unfold Pl.mapV at hs
  refine cl_spec hs (fun _ _ _ hc => absurd hc (by decide +kernel)) ?_
  rintro u k1 ⟨q, mv, rfl, hmv⟩
  simp only [go_sem, simprocAttr]
  have hl := c.lt
  have ht := turn_ok (c.quiet q) (m := (v.mp.merge x).1) (e := (v.mp.merge x).2) (hmv.weaken fun j hj => ⟨cutO_ge hj, by omega⟩)
  unfold Pl.mapV at ht
  refine cl_spec ht (fun _ _ _ hc => absurd hc (by decide +kernel)) ?_
  rintro u k2 ⟨rfl, ow2, a2, vk2⟩
  simp only [go_sem, simprocAttr]
  exact ⟨rfl, ow2, a2, (VKs.of_quiet q).trans vk2⟩
theorem cloneP_ok {ps : List Pl.Piece} {w : Value} (hb : IsSl Pl.rPiece S h ps w) (hn : ps.length ≤ 1024) :
    Does Tryz.prog 39 #[w] h (fun u h' => h.quiet h' ∧ Lst Pl.rPiece h.next (fun _ => False) h' ps u) := by
  obtain ⟨a, cap, rfl⟩ := hb.shape
  refine spec_go mixed Tryz.func39 rfl Tryz.results39 (n := Tryz.f39.ntmps) (by kernel_rfl) (by simp) ?_
  rcases a with _ | ad
  · have hl := hb.len
    have h0 : ps = [] := by obtain ⟨a', cap', css, e, h1, h2, h3, _⟩ := hb; cases e; have := h3 rfl; exact List.eq_nil_of_length_eq_zero (by omega)
    subst h0
    simp only [go_sem, simprocAttr]
    first | exact ⟨.refl _, .nil _ _ _ _⟩ | exact .nil _ _ _ _
  · have hq : h.quiet (h.push (.cells [] .rw)) := .push _ _
    simp only [go_sem, simprocAttr, (hb.quiet hq).acellsP, List.length_nil]
    obtain ⟨u, h', e, hl, hf, _⟩ := (Lst.empty Pl.rPiece (lo := h.next) (T := fun _ => False) (h := h.push (.cells [] .rw)) (b := h.next) (o := 0) (Nat.le_refl _) (by simp)).app 3 rfl (bytes := 24) (n := ps.length)
      (Pl.piece_all2 hb.oks) rfl (by simp; omega) (by simp; omega) (by simp)
    simp only [go_sem, simprocAttr, e]
    exact ⟨Fw.behind hq hf (fun j hj => by simp at hj; omega), hl⟩
theorem vMap_ok (a : VAt ow h id v) (g : v.mp.right) : Does Tryz.prog 13 #[.pointer (some ⟨id, 0, none⟩)] h (fun u h' => ∃ w, u = Pl.mapV v.mp w ∧ Lst Pl.rPiece h.next (fun _ => False) h' v.mp.ps w ∧ h.quiet h') := by
  refine spec_go mixed Tryz.func13 rfl Tryz.results13 (n := Tryz.f13.ntmps) (by kernel_rfl) (by simp) ?_
  simp only [go_sem, simprocAttr]
  have q0 : h.quiet (h.push (.cells [.int .i64 0, .int .i64 0, .slice none 0 0] .rw)) := .push _ _
  refine cl_spec (vok_ok (a.quiet q0)) (fun _ _ _ hc => absurd hc (by decide +kernel)) ?_
  rintro u k ⟨rfl, rfl⟩
  obtain ⟨pv, sv, ids, c⟩ := a
  obtain ⟨apv, cpv, rfl⟩ := c.pcs.shape
  have hg := (c.quiet q0).get
  unfold volC at hg
  simp only [go_sem, simprocAttr, hg]
  refine cl_gen fun k ek => ?_
  have q1 : h.quiet k := by rw [ek]; simp only [go_sem, simprocAttr]
  have g0 : k.get h.next = .cells [.int .i64 0, .int .i64 0, .slice none 0 0] .rw := by rw [ek]; simp only [go_sem, simprocAttr]
  have g1 : k.get (h.next + 1) = .cells [.int .i64 v.mp.ver, .int .i64 v.mp.n, .slice apv v.mp.ps.length cpv] .rw := by rw [ek]; simp only [go_sem, simprocAttr]
  have l1 : h.next + 1 < k.next := by rw [ek]; simp
  clear ek
  refine cl_spec (cloneP_ok (c.pcs.quiet q1) (by have := g.oks; omega)) (fun _ _ _ hc => absurd hc (by decide +kernel)) ?_
  rintro u k1 ⟨q2, hu⟩
  obtain ⟨au, cu, rfl, _⟩ := hu.len
  have g0' := (q2.2 _ (by omega)).trans g0
  have g1' := (q2.2 _ l1).trans g1
  have l1' := Nat.lt_of_lt_of_le l1 q2.1
  have q3 := (q1.trans q2).set' (id := h.next + 1) (by omega) (.cells [.int .i64 v.mp.ver, .int .i64 v.mp.n, .slice au v.mp.ps.length cu] .rw)
  have g03 : (k1.set (h.next + 1) (.cells [.int .i64 v.mp.ver, .int .i64 v.mp.n, .slice au v.mp.ps.length cu] .rw)).get h.next = .cells [.int .i64 0, .int .i64 0, .slice none 0 0] .rw := (AHeap.get_set_ne _ _ (by omega)).trans g0'
  have g13 : (k1.set (h.next + 1) (.cells [.int .i64 v.mp.ver, .int .i64 v.mp.n, .slice au v.mp.ps.length cu] .rw)).get (h.next + 1) = .cells [.int .i64 v.mp.ver, .int .i64 v.mp.n, .slice au v.mp.ps.length cu] .rw := AHeap.get_set_self _ _ l1'
  have hu3 : Lst Pl.rPiece h.next (fun _ => False) (k1.set (h.next + 1) (.cells [.int .i64 v.mp.ver, .int .i64 v.mp.n, .slice au v.mp.ps.length cu] .rw)) v.mp.ps (.slice au v.mp.ps.length cu) :=
    hu.mono q1.1 (by simp) (fun j e _ _ => e.elim) fun j e _ => AHeap.get_set_ne _ _ (by have := (hu.blk_ge e).1; omega)
  have l3 : h.next + 1 < (k1.set (h.next + 1) (.cells [.int .i64 v.mp.ver, .int .i64 v.mp.n, .slice au v.mp.ps.length cu] .rw)).next := by simpa using l1'
  have hub : ∀ j, blk (.slice au v.mp.ps.length cu) = some j → k.next ≤ j := fun j e => (hu.blk_ge e).1
  simp only [go_sem, simprocAttr, g1', AHeap.get_set_self _ _ l1']
  generalize k1.set (h.next + 1) (.cells [.int .i64 v.mp.ver, .int .i64 v.mp.n, .slice au v.mp.ps.length cu] .rw) = k3 at q3 g03 g13 hu3 l3 ⊢
  simp only [go_sem, simprocAttr, g03, g13, AHeap.get_set_self _ _ (show h.next < k3.next by omega)]
  exact ⟨_, rfl, hu3.mono (Nat.le_refl _) (by simp) (fun j e _ _ => e.elim) fun j e _ => AHeap.get_set_ne _ _ (by have := hub j e; omega), q3.set' (Nat.le_refl _) _⟩
end
end Go.Proofs.YtedpfdflolkpeaaGreatDoor
