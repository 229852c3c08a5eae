/- cow: the law CowMany: what its call comes to. -/
import Derived.Test.YtfdbadpiklmbaaaCoV
set_option linter.unusedSimpArgs false
set_option linter.unusedVariables false
set_option linter.unnecessarySimpa false
set_option maxRecDepth 100000
namespace Go.Proofs.Ytfdbadpiklmbaaa
open Go.AM

def ex1 (j : Nat) : Ext := ⟨2 * j, 1, 3 * j, 0⟩
def Wl (u : Nat → Bool) : List Ext := ((List.range 512).filter u).map ex1
theorem Wl_split (u : Nat → Bool) {a : Nat} (ha : a < 512) : Wl u = ((List.range a).filter u).map ex1 ++ ((if u a then [ex1 a] else []) ++ ((List.range' (a + 1) (511 - a)).filter u).map ex1) := by
  have e : List.range 512 = List.range a ++ a :: List.range' (a + 1) (511 - a) := by
    rw [List.range_eq_range', List.range_eq_range', ← List.range'_succ, show 511 - a + 1 = 512 - a by omega]
    have := List.range'_append_1 (s := 0) (m := a) (n := 512 - a)
    rw [Nat.zero_add] at this
    rw [this]; congr 1; omega
  unfold Wl
  rw [e, List.filter_append, List.filter_cons, List.map_append]
  split <;> simp
theorem Wl_good (u : Nat → Bool) : GoodL (Wl u) := by
  unfold Wl
  refine ⟨fun x hx => ?_, ?_⟩
  · obtain ⟨j, hj, rfl⟩ := List.mem_map.1 hx
    have := List.mem_range.1 (List.mem_filter.1 hj).1
    unfold ex1 Ext.ok; dsimp only; omega
  · refine List.pairwise_map.2 ((List.pairwise_lt_range (n := 512)).filter _ |>.imp fun h => ?_)
    unfold Rx Ext.meets ex1; dsimp only; omega
theorem Wl_put (u : Nat → Bool) {a : Nat} (ha : a < 512) : putL (Wl u) (ex1 a) = Wl (fun j => decide (j = a) || u j) := by
  have g := Wl_good (fun j => decide (j = a) || u j)
  have e1 : partL 0 (ex1 a).off (Wl u) = ((List.range a).filter u).map ex1 := by
    rw [Wl_split u ha, partL_append, partL_append]
    rw [partL_all, partL_none (l := if u a then [ex1 a] else []), partL_none, List.append_nil, List.append_nil]
    · intro x hx
      obtain ⟨j, hj, rfl⟩ := List.mem_map.1 hx
      have := List.mem_range'_1.1 (List.mem_filter.1 hj).1
      unfold Ext.lies ex1; dsimp only; omega
    · intro x hx
      split at hx
      · obtain rfl : x = ex1 a := by simpa using hx
        unfold Ext.lies ex1; dsimp only; omega
      · cases hx
    · intro x hx
      obtain ⟨j, hj, rfl⟩ := List.mem_map.1 hx
      have := List.mem_range.1 (List.mem_filter.1 hj).1
      unfold Ext.ok ex1; dsimp only; omega
  have e2 : partL ((ex1 a).off + (ex1 a).len) 1024 (Wl u) = ((List.range' (a + 1) (511 - a)).filter u).map ex1 := by
    rw [Wl_split u ha, partL_append, partL_append]
    rw [partL_none, partL_none (l := if u a then [ex1 a] else []), partL_all, List.nil_append, List.nil_append]
    · intro x hx
      obtain ⟨j, hj, rfl⟩ := List.mem_map.1 hx
      have := List.mem_range'_1.1 (List.mem_filter.1 hj).1
      unfold Ext.ok ex1; dsimp only; omega
    · intro x hx
      split at hx
      · obtain rfl : x = ex1 a := by simpa using hx
        unfold Ext.lies ex1; dsimp only; omega
      · cases hx
    · intro x hx
      obtain ⟨j, hj, rfl⟩ := List.mem_map.1 hx
      have := List.mem_range.1 (List.mem_filter.1 hj).1
      unfold Ext.lies ex1; dsimp only; omega
  have e3 : Wl (fun j => decide (j = a) || u j) = ((List.range a).filter u).map ex1 ++ [ex1 a] ++ ((List.range' (a + 1) (511 - a)).filter u).map ex1 := by
    have f1 : (List.range a).filter (fun j => decide (j = a) || u j) = (List.range a).filter u := List.filter_congr fun j hj => by
      have := List.mem_range.1 hj
      simp [show j ≠ a by omega]
    have f2 : (List.range' (a + 1) (511 - a)).filter (fun j => decide (j = a) || u j) = (List.range' (a + 1) (511 - a)).filter u := List.filter_congr fun j hj => by
      have := List.mem_range'_1.1 hj
      simp [show j ≠ a by omega]
    rw [Wl_split _ ha, f1, f2]
    simp
  unfold putL joinL
  rw [e1, e2, ← e3, jfold_new _ [] (by simp) g.nm, List.nil_append]
/-- The array of who is wanted. -/
def wC (u : Nat → Bool) : List Value := (List.range 512).map fun j => .bool (u j)
theorem wC_len (u : Nat → Bool) : (wC u).length = 512 := by simp [wC]
theorem wC_at (u : Nat → Bool) {j : Nat} (hj : j < 512) : (wC u)[j]? = some (.bool (u j)) := by simp [wC, hj]
theorem wC_set (u : Nat → Bool) (a : Nat) : (wC u).set a (.bool true) = wC (fun j => decide (j = a) || u j) := by
  apply List.ext_getElem?
  intro j
  rw [List.getElem?_set]
  by_cases hj : j < 512
  · rw [wC_at _ hj, wC_at _ hj, wC_len]
    by_cases e : a = j
    · rw [if_pos e, if_pos (by omega)]; simp [e]
    · rw [if_neg e]; simp [Ne.symm e]
  · rw [List.getElem?_eq_none (by rw [wC_len]; omega), List.getElem?_eq_none (by rw [wC_len]; omega), wC_len]
    split
    · rw [if_neg (by omega)]
    · rfl
def zA : Value := .agg (Array.replicate 512 (.bool false))
theorem zA_zero : zeroT Try.prog 26 = some zA := by kernel_rfl
theorem zA_plain : plainV 3 zA = true := by kernel_rfl
theorem zA_cells : zA.cells.toList = wC (fun _ => false) := by kernel_rfl

section
variable {own own' own'' : Nat → Nat} {h h' h'' h0 : AHeap} {S S' Z : Nat → Prop} {id : Nat} {ts : List T} {ps : List (Option Nat)} {v lv : Value} {vs : List Value}
theorem many_ok {xs : List Nat} {v : Value} (hd : IsSl (.nat .u16) (· < h.next) h xs v) :
    Does Try.prog 3 #[v] h (fun u _ => u = .bool true) := by
  obtain ⟨A, c, rfl⟩ := hd.shape
  have hlen0 := hd.len
  refine spec_go mixed Try.func3 rfl Try.results3 (n := Try.f3.ntmps) (by kernel_rfl) (by simp) ?_
  simp only [go_sem, simprocAttr]
  refine cl_spec (newForest_ok (own := fun _ => 0)) (fun _ _ _ hc => absurd hc (by decide +kernel)) ?_
  rintro u k0 ⟨rfl, q0, hf⟩
  simp only [go_sem, simprocAttr]
  refine cl_spec (alive_ok k0) (fun _ _ _ hc => absurd hc (by decide +kernel)) ?_
  rintro u k ⟨rfl, hk⟩
  obtain rfl : k0 = k := hk.symm
  have hmin : min (xs.length : Int) 600 = ((min xs.length 600 : Nat) : Int) := by omega
  obtain ⟨a1, c1, s1, i1⟩ := hd.slice 1 rfl (Nat.zero_le (min xs.length 600)) (Nat.min_le_left _ _)
  simp only [Nat.sub_zero, List.drop_zero] at s1 i1
  replace s1 : slI 1 A xs.length c (some 0) (some ((min xs.length 600 : Nat) : Int)) = some (.slice a1 (min xs.length 600) c1) := s1
  have hlm := i1.len
  simp only [go_sem, simprocAttr, hmin, s1, zA_zero, zA_plain]
  refine go_gen fun k1 e1 => ?_
  have q1 : k0.quiet k1 := by rw [e1]; exact .push _ _
  have g1 : k1.get k0.next = .cells (wC fun _ => false) .rw := by rw [e1, AHeap.get_push_self]; exact congrArg (AObj.cells · .rw) zA_cells
  have n1 : k1.next = k0.next + 1 := by rw [e1]; simp
  clear e1
  generalize hys : xs.take (min xs.length 600) = ys at i1 hlm
  have hm : min xs.length 600 = ys.length := hlm.1
  have hm6 : ys.length ≤ 600 := by omega
  rw [hm] at i1
  rw [hm]
  have hf0 : FoAt (bump (fun _ => 0) h 1) k0 (h.next + 1) [.nil] := hf
  have hf1 : FoAt (bump (bump (fun _ => 0) h 1) k0 5) k1 (h.next + 1) [.nil] := hf0.quiet q1 5
  have i1 : IsSl (.nat .u16) (tg (bump (bump (fun _ => 0) h 1) k0 5) 0) k1 ys (.slice a1 ys.length c1) := i1.mono fun j hj hl => ⟨(bump_lt (by have := q0.1; omega)).trans (bump_lt hj), (q1.2 j (by have := q0.1; omega)).trans (q0.2 j hj)⟩
  have hb5 : bump (bump (fun _ => 0) h 1) k0 5 k0.next = 5 := bump_ge (Nat.le_refl _)
  generalize bump (bump (fun _ => 0) h 1) k0 5 = own at hf1 i1 hb5
  generalize h.next + 1 = id at hf1
  have hbn : k0.next < k1.next := by omega
  refine go_loop (fun z ρ k => ∃ (i : Nat) (own : Nat → Nat) (ts : List T) (t : T) (r : Nat) (w : Nat → Bool), i ≤ ys.length ∧ z = ys.length - i ∧ GF ts ∧ ts.length ≤ i + 1 ∧ ts[r]? = some t ∧ t.list = Wl w ∧ FoAt own k id ts ∧ own k0.next = 5 ∧ k0.next < k.next ∧ k.get k0.next = .cells (wC w) .rw ∧ IsSl (.nat .u16) (tg own 0) k ys (.slice a1 ys.length c1) ∧
    ρ 3 = .pointer (some ⟨id, 0, none⟩) ∧ ρ 4 = .int .i64 r ∧ ρ 5 = .pointer (some ⟨k0.next, 0, none⟩) ∧ ρ 28 = .slice a1 ys.length c1 ∧ ρ 29 = .int .i64 ys.length ∧ ρ 30 = .int .i64 i) ys.length
    ⟨0, own, [.nil], .nil, 0, fun _ => false, by omega, by omega, GF.new, by simp, rfl, ?_, hf1, hb5, hbn, g1, i1, by simp only [go_sem, simprocAttr]⟩ ?_
  · simp [Wl, T.list]
  clear hf1 hb5 g1 i1 own hf0
  rintro z ρ k ⟨i, own, ts, t, r, w, hi, rfl, g, hl, htr, hlw, hf, hb5, hbn, hgw, hs, r3, r4, r5, r28, r29, r30⟩
  simp only [go_sem, simprocAttr, r3, r4, r5, r28, r29, r30]
  have gt := g.2 t (List.mem_of_getElem? htr)
  refine cnd_decide (fun hx => ?_) (fun hx => ?_)
  · have h1 : i < ys.length := by omega
    have e9 : IntKind.i64.wrap ((i : Int) + 1) = ((i + 1 : Nat) : Int) := by rw [wi64] <;> omega
    obtain ⟨b, off, sp, cc, md, o, hA, _, hg, hoi, ho, hcc⟩ := hs.atN h1
    have ho' : o ≤ 65535 := by have : IntKind.u16.max = 65535 := rfl
                               omega
    have ea : IntKind.i64.wrap (o : Int) = o := by rw [wi64] <;> omega
    have tm : Int.tmod (o : Int) 512 = ((o % 512 : Nat) : Int) := rfl
    have e7 : IntKind.i64.wrap ((o % 512 : Nat) : Int) = ((o % 512 : Nat) : Int) := by rw [wi64] <;> omega
    have eb : IntKind.i64.wrap (2 * ((o % 512 : Nat) : Int)) = 2 * ((o % 512 : Nat) : Int) := by rw [wi64] <;> omega
    have ec : IntKind.i64.wrap (3 * ((o % 512 : Nat) : Int)) = 3 * ((o % 512 : Nat) : Int) := by rw [wi64] <;> omega
    have hat : o % 512 < 512 := by omega
    simp only [go_sem, simprocAttr, r3, r4, r5, r28, r29, r30, hA, hg, hcc, h1, ea, tm, e7, eb, ec]
    generalize o % 512 = a at *
    have hex : (ex1 a).ok := by unfold Ext.ok ex1; dsimp only; omega
    have hp := putF_ok hf g.1 g.ok (by omega) (root := (r : Int)) hex.inI
    have hr : r < ts.length := (List.getElem?_eq_some_iff.1 htr).1
    have efp : F.put ts (r : Int) (ex1 a) = ((((ts.length : Nat) : Int), 0), ts ++ [Tput t (ex1 a)]) := by
      unfold F.put
      rw [if_pos ⟨by omega, by omega⟩, if_pos hex, Int.toNat_natCast, List.getD, htr]; rfl
    rw [efp] at hp
    unfold Ext.ag ex1 at hp
    refine cl_spec hp (fun _ _ _ hc => absurd hc (by decide +kernel)) ?_
    rintro u k2 ⟨rfl, own2, hf2, kp2⟩
    obtain ⟨gt2, hl2⟩ := Tput_good gt hex
    have hgw2 := ((kp2.2 k0.next hbn).2 (by omega)).trans hgw
    have hb52 := ((kp2.2 k0.next hbn).1).trans hb5
    have hs2 := kp2.sl (s := 0) (by decide) hs
    have hbn2 : k0.next < k2.next := by have := kp2.1; omega
    have gs := fun o => AHeap.get_set_self k2 o hbn2
    have hle : a + 1 ≤ 512 := hat
    have hatI : (a : Int) < 512 := by omega
    simp only [go_sem, simprocAttr, r5, hatI, hgw2, wC_len, hle, r30, e9]
    rw [wC_set]
    refine Hold.mk ⟨ys.length - (i + 1), by omega, i + 1, own2, ts ++ [Tput t (ex1 a)], Tput t (ex1 a), ts.length, _, by omega, rfl, g.snoc gt2, by simp; omega, by simp, by rw [hl2, hlw]; exact Wl_put w hat, ?_, hb52, by simpa using hbn2, gs _, ?_, by simp only [go_sem, simprocAttr, r3, r5, r28, r29, hA]⟩
    · exact hf2.mono (by simp) fun s hs j hj hl => ⟨hj, AHeap.get_set_ne _ _ (by rintro rfl; have : own2 k0.next = s := hj; omega)⟩
    · rw [← hA]
      exact hs2.mono fun j hj hl => ⟨hj, AHeap.get_set_ne _ _ (by rintro rfl; have : own2 k0.next = 0 := hj; omega)⟩
  · have hr : r < ts.length := (List.getElem?_eq_some_iff.1 htr).1
    simp only [go_sem, simprocAttr, r3, r4]
    refine cl_spec (again_ok hf g htr) (fun _ _ _ hc => absurd hc (by decide +kernel)) ?_
    rintro u k2 ⟨v2, rfl, o2, q2⟩
    rw [hlw] at o2
    obtain ⟨a3, c3, rfl⟩ := o2.sl.shape
    have hl3 := o2.sl.len
    simp only [go_sem, simprocAttr, r3, r4]
    refine cl_spec (depthF_ok (hf.mvq q2) g.1) (fun _ _ _ hc => absurd hc (by decide +kernel)) ?_
    rintro u k3 ⟨q3, hD⟩
    have hD : u = .int .i64 t.depth := by
      rcases hD with ⟨t', _, h2, rfl⟩ | ⟨h1, _⟩
      · rw [Int.toNat_natCast, htr] at h2; cases h2; rfl
      · exact absurd ⟨by omega, by omega⟩ h1
    subst hD
    have hsz : t.size = (Wl w).length := by rw [T.size_list, hlw]
    have hdeep := T.deep gt.2 (Nat.le_refl _)
    have hbN : bits (t.size + 1) (t.size + 1) = bitsN (t.size + 1) := rfl
    rw [hbN, hsz] at hdeep
    have hwl := (Wl_good w).len
    simp only [go_sem, simprocAttr]
    refine cl_spec (deepest_ok (n := (Wl w).length) (by omega)) (fun _ _ _ hc => absurd hc (by decide +kernel)) ?_
    rintro u k4 ⟨rfl, hk⟩
    obtain rfl : k3 = k4 := hk.symm
    have o3 := o2.sl.quiet q3
    have cd : ¬ bitsN ((Wl w).length + 1) * 3 / 2 + 1 < t.depth := by omega
    have hgw3 := (q3.2 k0.next (by have := q2.1; omega)).trans ((q2.2 k0.next hbn).trans hgw)
    have hle : (512 : Nat) ≤ (wC w).length := by rw [wC_len]; exact Nat.le_refl _
    have htk : (wC w).take 512 = wC w := List.take_of_length_le (by rw [wC_len]; exact Nat.le_refl _)
    simp only [go_sem, simprocAttr, decide_eq_false cd, r5, hgw3, wC_len, htk]
    refine go_loop (fun z ρ K => ∃ (j : Nat), j ≤ 512 ∧ z = 512 - j ∧ k3 = K ∧ ρ 11 = .slice a3 (Wl w).length c3 ∧ ρ 13 = .int .i64 ((((List.range j).filter w).length : Nat) : Int) ∧ ρ 71 = .agg (wC w).toArray ∧ ρ 72 = .int .i64 j) 512 ⟨0, by omega, by omega, rfl, by simp only [go_sem, simprocAttr]; simp⟩ ?_
    clear r3 r4 r5 r28 r29 r30
    rintro z ρ K ⟨j, hj, rfl, rfl, r11, r13, r71, r72⟩
    simp only [go_sem, simprocAttr, r11, r13, r71, r72]
    refine cnd_decide (fun hy => ?_) (fun hy => ?_)
    · have hj5 : j < 512 := by omega
      have e8 : IntKind.i64.wrap ((j : Int) + 1) = ((j + 1 : Nat) : Int) := by rw [wi64] <;> omega
      have hsp := Wl_split w hj5
      have hr1 : List.range (j + 1) = List.range j ++ [j] := List.range_succ
      have hwj := wC_at w hj5
      generalize hm : ((List.range j).filter w).length = m at r13
      have hm5 : m ≤ 512 := by rw [← hm]; exact Nat.le_trans (List.length_filter_le _ _) (by rw [List.length_range]; omega)
      have hj5I : (j : Int) < 512 := by omega
      simp only [go_sem, simprocAttr, r11, r13, r71, r72, hj5I, wC_len, hwj]
      cases hw : w j with
      | false =>
        simp only [go_sem, simprocAttr, r72, e8]
        refine Hold.mk ⟨512 - (j + 1), by omega, j + 1, by omega, rfl, rfl, ?_⟩
        rw [hr1, List.filter_append, List.length_append]
        simp only [go_sem, simprocAttr, r11, r13, r71]
        simp [hw, hm]
      | true =>
        rw [hw, if_pos rfl] at hsp
        have hmm : (Wl w)[m]? = some (ex1 j) := by
          rw [hsp, List.getElem?_append_right (by rw [List.length_map, hm]; exact Nat.le_refl _), List.length_map, hm, Nat.sub_self]; rfl
        have hml : m < (Wl w).length := (List.getElem?_eq_some_iff.1 hmm).1
        obtain ⟨b, off, sp, cc, md, x, hA, _, hg, hxi, hxx, hle2, hdt⟩ := IsSl.atX o3 hml
        rw [hmm] at hxi
        obtain rfl : ex1 j = x := Option.some.inj hxi
        have r11' : ρ 11 = .slice (some ⟨b, off, sp⟩) (Wl w).length c3 := by rw [r11, hA]
        unfold Ext.cs ex1 at hdt
        dsimp only at hdt
        have hmn : ¬ (Wl w).length ≤ m := by omega
        have eb : IntKind.i64.wrap (2 * (j : Int)) = 2 * (j : Int) := by rw [wi64] <;> omega
        have ec : IntKind.i64.wrap (3 * (j : Int)) = 3 * (j : Int) := by rw [wi64] <;> omega
        have em : IntKind.i64.wrap ((m : Int) + 1) = ((m + 1 : Nat) : Int) := by rw [wi64] <;> omega
        simp only [go_sem, simprocAttr, r11', r13, decide_eq_false hmn, hml, hg, hle2, hdt, eb, ec, em, r72, e8, decide_true, Bool.and_self, Bool.not_true]
        refine Hold.mk ⟨512 - (j + 1), by omega, j + 1, by omega, rfl, rfl, ?_⟩
        rw [hr1, List.filter_append, List.length_append]
        simp only [go_sem, simprocAttr, r11, r13, r71]
        simp [hw, hm]
    · have hj' : j = 512 := by omega
      subst hj'
      have hall : ((List.range 512).filter w).length = (Wl w).length := by unfold Wl; rw [List.length_map]
      rw [hall] at r13
      simp only [go_sem, simprocAttr, r11, r13]
end
end Go.Proofs.Ytfdbadpiklmbaaa
