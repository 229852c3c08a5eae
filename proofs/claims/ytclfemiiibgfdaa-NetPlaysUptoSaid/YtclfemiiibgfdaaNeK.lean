/- net: a datagram that was turned is not unpacked. -/
import Derived.Test.YtclfemiiibgfdaaNeJ
set_option linter.unusedSimpArgs false
set_option linter.unusedVariables false
set_option linter.unnecessarySimpa false
set_option maxRecDepth 100000
namespace Go.Proofs.Ytclfemiiibgfdaa
open Go.AM

def m0 : Msg := ⟨1, 2, 0, 0, 7, 0, [97, 98]⟩
theorem m0_right : m0.right := by decide
theorem m0_len : (sealN m0.encode).length = 62 := by rw [sealN_len]; decide
theorem m0_le : ∀ b ∈ m0.encode, b ≤ 255 := by decide
section
variable {h : AHeap} {Z : Nat → Prop} {id : Nat} {gl : List G}
theorem BagAt.bound (b : BagAt Z h id gl) : BagAt (fun j => Z j ∧ j < h.next) h id gl := b.mono fun j hj hl => ⟨⟨hj, hl⟩, rfl⟩
theorem unpackN_none {b : List Nat} (h : openN b = none) : unpackN b = .error 4 := by unfold unpackN; rw [h]
theorem alive_ok : Does Try.prog 10 #[] h (fun u h' => u = .bool true ∧ h.quiet h') := by
  refine spec_go mixed Try.func10 rfl Try.results10 (n := Try.f10.ntmps) (by kernel_rfl) (by simp) ?_
  simp only [go_sem, simprocAttr]
  have hv : Bytes (fun j => h.next ≤ j ∧ blkN (.slice (some ⟨h.next + 1, 0, some 1⟩) 2 2) = some j) ((h.push .dead).push (.cells [.int .u8 97, .int .u8 98] (.tail 1))) m0.load (.slice (some ⟨h.next + 1, 0, some 1⟩) 2 2) :=
    GB.isSl (Z := (h.next ≤ ·)) ⟨_, rfl, by decide, by decide, fun ad e => by cases e; exact .inr rfl, fun _ => ⟨_, rfl, by omega, by simp only [go_sem, simprocAttr]; rfl⟩⟩
  have q0 : h.quiet ((h.push .dead).push (.cells [.int .u8 97, .int .u8 98] (.tail 1))) := by simp only [go_sem, simprocAttr]
  refine cl_spec (Pack_ok (m := m0) hv) (fun u h' hp _ => hp.1) ?_
  rintro u k ⟨q, hp⟩
  have q1 := q0.trans q
  rw [show packN m0 = some (sealN m0.encode) from if_pos m0_right] at hp
  obtain ⟨x, rfl, hx⟩ := hp
  have hx := hx.bound
  simp only [go_sem, simprocAttr]
  refine cl_spec new_bag (fun u h' hp _ => hp.2.1) ?_
  rintro u k1 ⟨rfl, q2, b1⟩
  have hx := hx.quiet q2
  have b1 := b1.bound
  simp only [go_sem, simprocAttr]
  obtain ⟨ax, cx, rfl⟩ := hx.shape
  simp only [go_sem, simprocAttr]
  refine cl_spec (bPut_ok (b1.quiet (.push _ _)) (one' hx) (fun j hj hz => by rcases hj with hj | hj <;> omega) (fun y hy => by simp at hy; subst hy; rw [m0_len]; omega)) (fun _ _ _ hc => absurd hc (by decide +kernel)) ?_
  rintro u k2 ⟨rfl, ⟨gl1, b2, hg1⟩, f2⟩
  have f2 := Fw.behind (q1.trans (q2.trans (.push _ _))) f2 (fun j hj => Nat.le_trans q1.1 hj.1)
  obtain ⟨g1, rfl, hb1, hs1⟩ : ∃ g1, gl1 = [g1] ∧ g1.bs = sealN m0.encode ∧ g1.sp = false := by
    have e : gl1.map (fun g => (g.bs, g.sp)) = [(sealN m0.encode, false)] := hg1
    cases gl1 with
    | nil => cases e
    | cons g gl =>
      cases gl with
      | nil => simp only [List.map_cons, List.map_nil, List.cons.injEq, Prod.mk.injEq, and_true] at e; exact ⟨g, rfl, e.1, e.2⟩
      | cons g' gl => simp at e
  have b2 : BagAt (h.next ≤ ·) k2 k.next ([] ++ [g1]) := b2.mono fun j hj _ => ⟨by rcases hj with hj | hj; exact Nat.le_trans q1.1 hj.1; have := q1.1; have := q2.1; simp at hj; omega, rfl⟩
  have wk : ∀ (k : AHeap) (gl : List G), h.next ≤ k.next → ∀ k' id, BagAt (upZ (h.next ≤ ·) k) k' id gl → BagAt (h.next ≤ ·) k' id gl := fun k gl hk k' id b => b.mono fun j hj _ => ⟨by rcases hj with hj | hj; exact hj; exact Nat.le_trans hk hj, rfl⟩
  simp only [go_sem, simprocAttr, List.length_cons, List.length_nil, show ((min 1 256 : Nat) : Int) = 1 from rfl, eq_self, decide_true]
  have hgl : ∀ g ∈ ([] ++ [g1] : List G), g.bs.length ≤ 140737488355328 := fun g hg => by
    have : g = g1 := by simpa using hg
    subst this; rw [hb1, m0_len]; omega
  refine cl_spec (bTwice_ok (i := 0) b2 hgl) (fun _ _ _ hc => absurd hc (by decide +kernel)) ?_
  rintro u k3 ⟨f3, hp3⟩
  rw [if_neg (by simp), if_neg (by simp)] at hp3
  obtain ⟨rfl, g, hg, xv, b3⟩ := hp3
  obtain rfl : g1 = g := by simpa using hg
  have f3 := Fw.behind f2 f3 (fun j hj => hj)
  have b3 := wk _ _ f2.1 _ _ b3
  simp only [go_sem, simprocAttr]
  refine cl_spec (bTurn_ok (by_ := 1) (i := 1) (y := 3) b3 (by decide)) (fun _ _ _ hc => absurd hc (by decide +kernel)) ?_
  rintro u k4 ⟨f4, hp4⟩
  rw [if_neg (by simp)] at hp4
  obtain ⟨g, hg, hp4⟩ := hp4
  obtain rfl : (⟨xv, g1.bs, g1.sp⟩ : G) = g := by simpa using hg
  have f4 := Fw.behind f3 f4 (fun j hj => hj)
  rw [if_neg (by rw [hs1]; simp), if_neg (by simp only [hb1, m0_len]; omega)] at hp4
  obtain ⟨rfl, ht, b4⟩ := hp4
  simp only [go_sem, simprocAttr]
  refine cl_spec (bTake_ok (i := 0) b4) (fun _ _ _ hc => absurd hc (by decide +kernel)) ?_
  rintro u k5 ⟨f5, hp5⟩
  rw [if_neg (by simp)] at hp5
  obtain ⟨g, hg, rfl, b5, hG5⟩ := hp5
  obtain rfl : g1 = g := by simpa using hg
  have f5 := Fw.behind f4 f5 (fun j hj => hj)
  have b5 : BagAt (h.next ≤ ·) k5 k.next [G.turn ⟨xv, g1.bs, g1.sp⟩ (tAt 3 g1.bs.length) 1] := b5.mono fun j hj _ => ⟨hj.1, rfl⟩
  have b5 := b5.bound
  obtain ⟨a5, hv5⟩ := hG5.len
  have hu := hG5.isSl
  rw [hv5] at hu
  rw [hb1] at hu
  simp only [go_sem, simprocAttr, hv5]
  rw [hb1]
  refine cl_spec (Unpack_ok hu (by rw [m0_len]; omega)) (fun u h' hp _ => hp.1) ?_
  rintro u k6 ⟨q6, hp6⟩
  rw [unpack_pack m0_right] at hp6
  obtain ⟨w6, rfl, hw6⟩ := hp6
  have f6 := f5.trans q6
  have b6 := b5.quiet q6
  obtain ⟨a6, c6, rfl⟩ := hw6.shape
  simp only [go_sem, simprocAttr, hs1, Msg.cs, m0]
  have gb : (k6.push (.cells [.int .i64 1, .int .i64 2, .int .i64 0, .int .i64 0, .int .i64 7, .int .i64 0, .slice a6 2 c6] .rw)).get k6.next = .cells [.int .i64 1, .int .i64 2, .int .i64 0, .int .i64 0, .int .i64 7, .int .i64 0, .slice a6 2 c6] .rw := by simp
  have qb : k6.quiet (k6.push (.cells [.int .i64 1, .int .i64 2, .int .i64 0, .int .i64 0, .int .i64 7, .int .i64 0, .slice a6 2 c6] .rw)) := .push _ _
  have nb : (k6.push (.cells [.int .i64 1, .int .i64 2, .int .i64 0, .int .i64 0, .int .i64 7, .int .i64 0, .slice a6 2 c6] .rw)).next = k6.next + 1 := by simp
  generalize k6.push (.cells [.int .i64 1, .int .i64 2, .int .i64 0, .int .i64 0, .int .i64 7, .int .i64 0, .slice a6 2 c6] .rw) = kb at gb qb nb
  refine cl_spec (bTake_ok (i := 0) (b6.quiet qb)) (fun _ _ _ hc => absurd hc (by decide +kernel)) ?_
  rintro u k7 ⟨f7, hp7⟩
  rw [if_neg (by simp)] at hp7
  obtain ⟨g, hg, rfl, b7, hG7⟩ := hp7
  obtain rfl : G.turn ⟨xv, g1.bs, g1.sp⟩ (tAt 3 g1.bs.length) 1 = g := by simpa using hg
  have f7' := Fw.behind (f6.trans qb) f7 (fun j hj => hj.1)
  have g7 := (f7.2 _ (by omega) (fun e => by have := q6.1; omega)).trans gb
  have hw7 : Bytes (k5.next ≤ ·) k7 m0.load (.slice a6 2 c6) := (hw6.quiet qb).fr f7 (fun j hj _ e => by omega)
  obtain ⟨a7, hv7⟩ := hG7.len
  have hu7 := hG7.isSl
  rw [hv7] at hu7
  have hbs : (G.turn ⟨xv, g1.bs, g1.sp⟩ (tAt 3 g1.bs.length) 1).bs = (sealN m0.encode).set (tAt 3 g1.bs.length) (((sealN m0.encode)[tAt 3 g1.bs.length]?.getD 0) ^^^ 1) := by unfold G.turn; rw [hb1]
  have hsp : (G.turn ⟨xv, g1.bs, g1.sp⟩ (tAt 3 g1.bs.length) 1).sp = true := rfl
  have hun : unpackN (G.turn ⟨xv, g1.bs, g1.sp⟩ (tAt 3 g1.bs.length) 1).bs = .error 4 := by
    rw [hbs]
    exact unpackN_none (turn_open m0_le (by simp only [hb1] at ht ⊢; exact ht) (by decide) (by decide))
  have hlen7 : (G.turn ⟨xv, g1.bs, g1.sp⟩ (tAt 3 g1.bs.length) 1).bs.length ≤ 140737488355328 := by rw [hbs, List.length_set, m0_len]; omega
  generalize G.turn ⟨xv, g1.bs, g1.sp⟩ (tAt 3 g1.bs.length) 1 = g7' at hv7 hu7 hsp hun hlen7
  simp only [go_sem, simprocAttr, hv7, hsp]
  refine cl_spec (Unpack_ok hu7 hlen7) (fun u h' hp _ => hp.1) ?_
  rintro u k8 ⟨q8, hp8⟩
  rw [hun] at hp8
  obtain rfl := hp8
  have g8 := (q8.2 _ (AHeap.lt_of_alive k7 (by rw [g7]; simp))).trans g7
  have hw8 := hw7.quiet q8
  have q9 : k8.quiet (k8.push (.cells [.int .i64 0, .int .i64 0, .int .i64 0, .int .i64 0, .int .i64 0, .int .i64 0, .slice none 0 0] .rw)) := .push _ _
  have g9 := (q9.2 _ (AHeap.lt_of_alive k8 (by rw [g8]; simp))).trans g8
  have hw9 := hw8.quiet q9
  simp only [go_sem, simprocAttr, Msg.zero, Msg.cs]
  have f9 := (f7'.trans q8).trans q9
  generalize k8.push (.cells [.int .i64 0, .int .i64 0, .int .i64 0, .int .i64 0, .int .i64 0, .int .i64 0, .slice none 0 0] .rw) = k9 at q9 g9 hw9 f9
  have hac := hw9.acellsN
  have hba : ((ba m0.load).data.toList == ([97, 98] : List UInt8)) = true := by decide +kernel
  simp only [go_sem, simprocAttr, g9, hac, hba]
  exact f9
end
end Go.Proofs.Ytclfemiiibgfdaa
