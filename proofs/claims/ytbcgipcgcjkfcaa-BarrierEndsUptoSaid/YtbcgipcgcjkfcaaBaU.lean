/- barrier: the law BarrierAll: what its call comes to. -/
import Derived.Test.YtbcgipcgcjkfcaaBaT
set_option linter.unusedSimpArgs false
set_option linter.unusedVariables false
set_option linter.unnecessarySimpa false
set_option maxRecDepth 100000
namespace Go.Proofs.Ytbcgipcgcjkfcaa
open Go.AM

def rDd : Rep Dd := (Rep.pair rB (.pair rI rI)).via fun x => (x.kind, x.id, x.i)
theorem rDd_iff {S : Nat → Prop} {h : AHeap} {x : Dd} {cs : List Value} : rDd.R S h x cs ↔ cs = [.int .u8 (x.kind : Nat), .int .i64 x.id, .int .i64 x.i] ∧ (x.kind : Int) ≤ IntKind.u8.max ∧ inI x.id ∧ inI x.i := by
  constructor
  · rintro ⟨c1, c2, rfl, ⟨rfl, h1⟩, c3, c4, rfl, ⟨rfl, h2⟩, ⟨rfl, h3⟩⟩
    exact ⟨rfl, h1, inI_iff.2 h2, inI_iff.2 h3⟩
  · rintro ⟨rfl, h1, h2, h3⟩
    exact ⟨[_], [_, _], rfl, ⟨rfl, h1⟩, [_], [_], rfl, ⟨rfl, inI_iff.1 h2⟩, ⟨rfl, inI_iff.1 h3⟩⟩

section
variable {own own' own'' : Nat → Nat} {h h' h'' : AHeap} {pc id : Nat} {ps : List Nat} {vg vo vn vi : Value} {w : Wd} {Z : Nat → Prop}
theorem Kp.sl {α : Type} {r : Rep α} {xs : List α} {v : Value} (k : Kp own h own' h') (hs : IsSl r (tg own 0) h xs v) : IsSl r (tg own' 0) h' xs v :=
  hs.mono fun j hj hl => ⟨(k.2 j hl).1.trans hj, (k.2 j hl).2 hj⟩
theorem WdAt.quiet {W : Wd} (ha : WdAt own h id W) (q : h.quiet h') (t : Nat) : WdAt (bump own h t) h' id W := by
  obtain ⟨h6, pc, ps, vg, vo, vn, vi, hg, c⟩ := ha
  have hlt : id < h.next := AHeap.lt_of_alive h (by rw [hg]; simp)
  exact ⟨(bump_lt hlt).trans h6, pc, ps, vg, vo, vn, vi, (q.2 id hlt).trans hg, c.quiet q t⟩

theorem all_ok {xs : List Dd} {v : Value} {kk : Nat} (hd : IsSl rDd (· < h.next) h xs v) (hkk : kk ≤ 255) :
    Does Try.prog 6 #[.int .u8 (kk : Nat), v] h (fun u _ => u = .bool true) := by
  obtain ⟨A, c, rfl⟩ := hd.shape
  have hlen := hd.len
  refine spec_go mixed Try.func6 rfl Try.results6 (n := Try.f6.ntmps) (by kernel_rfl) (by simp) ?_
  simp only [go_sem, simprocAttr]
  refine cl_spec (begin_ok hkk) (fun _ _ _ hc => absurd hc (by decide +kernel)) ?_
  rintro u k0 ⟨id, own, rfl, hw, q0, hz⟩
  simp only [go_sem, simprocAttr]
  refine cl_spec (alive_ok k0) (fun _ _ _ hc => absurd hc (by decide +kernel)) ?_
  rintro u k ⟨rfl, hk⟩
  obtain rfl : k0 = k := hk.symm
  have hmin : min (xs.length : Int) 400 = ((min xs.length 400 : Nat) : Int) := by omega
  obtain ⟨a1, c1, s1, i1⟩ := hd.slice 3 rfl (Nat.zero_le (min xs.length 400)) (Nat.min_le_left _ _)
  simp only [Nat.sub_zero, List.drop_zero] at s1 i1
  replace s1 : slI 3 A xs.length c (some 0) (some ((min xs.length 400 : Nat) : Int)) = some (.slice a1 (min xs.length 400) c1) := s1
  have hlm := i1.len
  simp only [go_sem, simprocAttr, hmin, s1]
  generalize hys : xs.take (min xs.length 400) = ys at i1 hlm
  have hm : min xs.length 400 = ys.length := hlm.1
  have hm4 : ys.length ≤ 400 := by omega
  rw [hm] at i1
  rw [hm]
  have i1 : IsSl rDd (tg own 0) k0 ys (.slice a1 ys.length c1) := i1.mono fun j hj hl => ⟨hz j hj, q0.2 j hj⟩
  refine go_loop (fun z ρ k => ∃ (i : Nat) (own : Nat → Nat) (W : Wd), i ≤ ys.length ∧ z = ys.length - i ∧ Good W ∧ Bnd i W ∧ WdAt own k id W ∧ IsSl rDd (tg own 0) k ys (.slice a1 ys.length c1) ∧
    ρ 5 = .pointer (some ⟨id, 0, none⟩) ∧ ρ 24 = .slice a1 ys.length c1 ∧ ρ 25 = .int .i64 ys.length ∧ ρ 26 = .int .i64 i) ys.length
    ⟨0, own, _, by omega, by omega, Good.new (by omega), ⟨fun a ha => ?_, by simp [Wd.new], by simp [Wd.new], by simp [Wd.new]⟩, hw, i1, by simp only [go_sem, simprocAttr]⟩ ?_
  · rw [List.eq_of_mem_replicate ha]; exact Nat.le_refl _
  rintro z ρ k ⟨i, own, W, hi, rfl, hG, hB, hW, hs, r5, r24, r25, r26⟩
  simp only [go_sem, simprocAttr, r5, r24, r25, r26]
  refine cnd_decide (fun hx => ?_) (fun hx => ?_)
  · have h1 : i < ys.length := by omega
    have e9 : IntKind.i64.wrap ((i : Int) + 1) = ((i + 1 : Nat) : Int) := by rw [wi64] <;> omega
    obtain ⟨b, off, sp, cc, md, cs, x, hAe, hbo, hg, hxi, hxR, hle, hdt⟩ := hs.at 3 rfl h1
    obtain ⟨rfl, hx0, hx1, hx2⟩ := rDd_iff.1 hxR
    have r24' : ρ 24 = .slice (some ⟨b, off, sp⟩) ys.length c1 := by rw [r24, hAe]
    simp only [go_sem, simprocAttr, r5, r24', r25, r26, h1, hg, hle, hdt]
    refine cl_gen fun k2 e2 => ?_
    have q2 : k.quiet k2 := by rw [e2]; simp only [go_sem, simprocAttr]
    have g2 : k2.get k.next = .cells [.int .u8 (x.kind : Nat), .int .i64 x.id, .int .i64 x.i] .rw := by rw [e2]; simp only [go_sem, simprocAttr]
    clear e2
    refine cl_spec (do_ok (by omega) (hW.quiet q2 0) hB (by rw [u8_max] at hx0; omega) ⟨hx1, hx2⟩) (fun _ _ _ hc => absurd hc (by decide +kernel)) ?_
    rintro u k3 ⟨rfl, own3, hW3, kp3⟩
    have hG3 := hG.do x
    have hB3 := hB.do hW.step x
    have hs3 := kp3.sl (hs.mono (quiet_other q2))
    simp only [go_sem, simprocAttr, r5]
    refine cl_spec (right_ok hW3 hG3.right) (fun _ _ _ hc => absurd hc (by decide +kernel)) ?_
    rintro u k4 ⟨rfl, hk⟩
    obtain rfl : k3 = k4 := hk.symm
    simp only [go_sem, simprocAttr, r26, e9]
    exact Hold.mk ⟨ys.length - (i + 1), by omega, i + 1, own3, _, by omega, rfl, hG3, hB3, hW3, hs3, by simp only [go_sem, simprocAttr, r5, r24, r25]⟩
  · simp only [go_sem, simprocAttr]
end
end Go.Proofs.Ytbcgipcgcjkfcaa
