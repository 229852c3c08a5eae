/- sums: sealing and opening. -/
import Derived.Test.YtolnacokdjognaaNeB
set_option linter.unusedSimpArgs false
set_option linter.unusedVariables false
set_option linter.unnecessarySimpa false
set_option maxRecDepth 100000
namespace Go.Proofs.Ytolnacokdjognaa
open Go.AM

/-- A sum's bytes; what is sealed; what is opened. -/
def sumB (s : Nat) : List Nat := [s / 16777216 % 256, s / 65536 % 256, s / 256 % 256, s % 256]
def sealN (bs : List Nat) : List Nat := bs ++ sumB (sumN 1 bs)
def openN (bs : List Nat) : Option (List Nat) := if 4 ≤ bs.length ∧ bs.drop (bs.length - 4) = sumB (sumN 1 (bs.take (bs.length - 4))) then some (bs.take (bs.length - 4)) else none
theorem sumB_len (s : Nat) : (sumB s).length = 4 := rfl
theorem sumB_le (s : Nat) : ∀ x ∈ sumB s, (x : Int) ≤ IntKind.u8.max := by
  intro x hx
  rw [u8_max]
  simp only [sumB, List.mem_cons, List.not_mem_nil, or_false] at hx
  omega
theorem sealN_len (bs : List Nat) : (sealN bs).length = bs.length + 4 := by simp [sealN, sumB_len]
theorem shr24 (s : Nat) : IntKind.u8.wrap ((s : Int).fdiv (2 ^ min 24 32)) = ((s / 16777216 % 256 : Nat) : Int) := by
  rw [show ((2 : Int) ^ min 24 32) = ((16777216 : Nat) : Int) from rfl, Int.fdiv_eq_ediv_of_nonneg _ (Int.natCast_nonneg _), wrap_u8]; omega
theorem shr16 (s : Nat) : IntKind.u8.wrap ((s : Int).fdiv (2 ^ min 16 32)) = ((s / 65536 % 256 : Nat) : Int) := by
  rw [show ((2 : Int) ^ min 16 32) = ((65536 : Nat) : Int) from rfl, Int.fdiv_eq_ediv_of_nonneg _ (Int.natCast_nonneg _), wrap_u8]; omega
theorem shr8 (s : Nat) : IntKind.u8.wrap ((s : Int).fdiv (2 ^ min 8 32)) = ((s / 256 % 256 : Nat) : Int) := by
  rw [show ((2 : Int) ^ min 8 32) = ((256 : Nat) : Int) from rfl, Int.fdiv_eq_ediv_of_nonneg _ (Int.natCast_nonneg _), wrap_u8]; omega
theorem shr0 (s : Nat) : IntKind.u8.wrap (s : Int) = ((s % 256 : Nat) : Int) := by rw [wrap_u8]; omega
section
variable {h : AHeap} {S S' Z : Nat → Prop} {v : Value}
theorem freshN {k : IntKind} {xs : List Nat} {md : Md} (hx : ∀ x ∈ xs, (x : Int) ≤ k.max) (hl : xs.length ≤ 9223372036854775807) : IsSl (.nat k) (· = h.next) (h.push (.cells (xs.map fun n => .int k (n : Nat)) md)) xs (.slice (some ⟨h.next, 0, none⟩) xs.length xs.length) :=
  .fresh (nat_all2 hx) rfl hl rfl (by simp; rfl) (nat_flat xs).symm
theorem sbytes_ok {s : Nat} : Does Try.prog 61 #[.int .u32 (s : Nat)] h (fun u h' => h.quiet h' ∧ Bytes (h.next ≤ ·) h' (sumB s) u) := by
  refine spec_go mixed Try.func61 rfl Try.results61 (n := Try.f61.ntmps) (by kernel_rfl) (by simp) ?_
  simp only [go_sem, simprocAttr, shr24, shr16, shr8, shr0]
  exact (freshN (sumB_le s) (by simp [sumB])).weaken (fun j e => Nat.le_of_eq e.symm)
theorem Of1_ok {bs : List Nat} {v : Value} (hv : IsSl (Rep.list rB) S h [bs] v) : Does Try.prog 62 #[v] h (fun u h' => u = .int .u32 (sumN 1 bs : Nat) ∧ h' = h) := by
  obtain ⟨a, c, rfl⟩ := hv.shape
  have hl := hv.len
  refine spec_go mixed Try.func62 rfl Try.results62 (n := Try.f62.ntmps) (by kernel_rfl) (by simp) ?_
  simp only [go_sem, simprocAttr, List.length_cons, List.length_nil]
  refine go_loop (fun z ρ k => ∃ i : Nat, i ≤ 1 ∧ z = 1 - i ∧ k = h ∧ ρ 3 = .int .u32 ((if i = 0 then 1 else sumN 1 bs : Nat) : Int) ∧ ρ 6 = .slice a 1 c ∧ ρ 7 = .int .i64 1 ∧ ρ 8 = .int .i64 i) 1 ⟨0, by omega, by omega, rfl, by simp only [go_sem, simprocAttr]⟩ ?_
  rintro z ρ k ⟨i, hi, rfl, rfl, r3, r6, r7, r8⟩
  simp only [go_sem, simprocAttr, r3, r6, r7, r8]
  refine cnd_decide (fun hy => ?_) (fun hy => ?_)
  · have h1 : i = 0 := by omega
    subst h1
    have r3 : ρ 3 = .int .u32 ((1 : Nat) : Int) := r3
    obtain ⟨b, off, sp, cc, md, x, u, hA, _, hg, hxi, hxu, hc⟩ := hv.atL (i := 0) (by simp)
    obtain rfl : bs = x := by simpa using hxi
    obtain ⟨ax, cx, rfl⟩ := hxu.shape
    have hc : cc[off]? = some (.slice ax bs.length cx) := hc
    simp only [go_sem, simprocAttr, r3, r6, r7, r8, hA, hg, hc]
    refine cl_spec (More_ok (s := 1) (show 1 < 4294967296 by decide) hxu) (fun _ _ _ hc => absurd hc (by decide +kernel)) ?_
    rintro u k1 ⟨rfl, rfl⟩
    simp only [go_sem, simprocAttr, r6, r7, r8]
    refine Hold.mk ⟨0, by omega, 1, by omega, rfl, rfl, ?_⟩
    simp only [go_sem, simprocAttr, r6, r7, hA]
    rfl
  · have h1 : i = 1 := by omega
    subst h1
    simp only [go_sem, simprocAttr, r3]
theorem two {h : AHeap} {xs bs : List Nat} {u w : Value} {md : Md} (ha : Bytes S h xs u) (hb : Bytes S h bs w) : IsSl (Rep.list rB) (fun j => S j ∨ h.next ≤ j) (h.push (.cells [u, w] md)) [xs, bs] (.slice (some ⟨h.next, 0, none⟩) 2 2) :=
  .fresh (css := [[u], [w]]) (.cons ⟨u, rfl, (ha.quiet (.push _ _)).weaken fun _ => .inl⟩ (.cons ⟨w, rfl, (hb.quiet (.push _ _)).weaken fun _ => .inl⟩ .nil)) rfl (by decide) (.inr (Nat.le_refl _)) (by simp; rfl) rfl
theorem one' {h : AHeap} {xs : List Nat} {u : Value} {md : Md} (ha : Bytes S h xs u) : IsSl (Rep.list rB) (fun j => S j ∨ h.next ≤ j) (h.push (.cells [u] md)) [xs] (.slice (some ⟨h.next, 0, none⟩) 1 1) :=
  .fresh (css := [[u]]) (.cons ⟨u, rfl, (ha.quiet (.push _ _)).weaken fun _ => .inl⟩ .nil) rfl (by decide) (.inr (Nat.le_refl _)) (by simp; rfl) rfl
theorem Seal_ok {bs : List Nat} (hb : Bytes S h bs v) (hn : bs.length ≤ 549755813888) : Does Try.prog 37 #[v] h (fun u h' => h.quiet h' ∧ Bytes (h.next ≤ ·) h' (sealN bs) u) := by
  obtain ⟨a, c, rfl⟩ := hb.shape
  refine spec_go mixed Try.func37 rfl Try.results37 (n := Try.f37.ntmps) (by kernel_rfl) (by simp) ?_
  simp only [go_sem, simprocAttr]
  refine cl_spec (Of1_ok (one' hb)) (fun _ _ _ hc => absurd hc (by decide +kernel)) ?_
  rintro u k ⟨rfl, rfl⟩
  simp only [go_sem, simprocAttr]
  refine cl_spec sbytes_ok (fun _ _ _ hc => absurd hc (by decide +kernel)) ?_
  rintro u k ⟨q, hs⟩
  obtain ⟨a5, c5, rfl⟩ := hs.shape
  simp only [go_sem, simprocAttr]
  have q0 : h.quiet k := (AHeap.quiet.push _ _).trans q
  refine cl_spec (Concat_ok (two (S := fun _ => True) ((hb.quiet q0).weaken fun _ _ => trivial) (hs.weaken fun _ _ => trivial)) (by simp [sumB_len]; omega)) (fun _ _ _ hc => absurd hc (by decide +kernel)) ?_
  rintro w k2 ⟨q2, hw⟩
  simp only [go_sem, simprocAttr]
  have q3 : k.quiet k2 := (AHeap.quiet.push _ _).trans q2
  refine ⟨q0.trans q3, ?_⟩
  have := hw.weaken (S' := (h.next ≤ ·)) (fun j hj => by have := q0.1; simp at hj; omega)
  simpa [sealN] using this
theorem Open_ok {bs : List Nat} (hb : Bytes S h bs v) (hn : bs.length ≤ 140737488355328) : Does Try.prog 75 #[v] h (fun u h' => h.quiet h' ∧ match openN bs with
    | some x => ∃ w, u = .tuple #[w, .int .i64 0] ∧ Bytes (h.next ≤ ·) h' x w
    | none => u = .tuple #[.slice none 0 0, .int .i64 4]) := by
  obtain ⟨a, c, rfl⟩ := hb.shape
  have hl := hb.len
  have e0 : IntKind.i64.wrap ((bs.length : Int) - 4) = (bs.length : Int) - 4 := by rw [wi64] <;> omega
  refine spec_go mixed Try.func75 rfl Try.results75 (n := Try.f75.ntmps) (by kernel_rfl) (by simp) ?_
  simp only [go_sem, simprocAttr, e0]
  by_cases h4 : bs.length < 4
  · have h4' : (bs.length : Int) - 4 < 0 := by omega
    simp only [go_sem, simprocAttr, h4', decide_true]
    rw [show openN bs = none from if_neg (fun e => by omega)]
    trivial
  · have h4' : ¬ ((bs.length : Int) - 4 < 0) := by omega
    have e1 : (bs.length : Int) - 4 = ((bs.length - 4 : Nat) : Int) := by omega
    obtain ⟨a1, c1, e5, s1⟩ := hb.slice 1 rfl (l := 0) (m := bs.length - 4) (by omega) (by omega)
    obtain ⟨a2, c2, e6, s2⟩ := hb.slice 1 rfl (l := bs.length - 4) (m := bs.length) (by omega) (by omega)
    have e5 : slI 1 a bs.length c (some 0) (some ((bs.length - 4 : Nat) : Int)) = some (.slice a1 (bs.length - 4) c1) := e5
    have s1 : Bytes S h (bs.take (bs.length - 4)) (.slice a1 (bs.length - 4) c1) := s1
    rw [List.take_of_length_le (by simp)] at s2
    rw [e1] at h4'
    simp only [go_sem, simprocAttr, e1, h4', decide_false, e6, e5]
    refine cl_spec (Of1_ok (one' s1)) (fun _ _ _ hc => absurd hc (by decide +kernel)) ?_
    rintro u k ⟨rfl, rfl⟩
    simp only [go_sem, simprocAttr, e1, h4', decide_false]
    refine cl_spec sbytes_ok (fun _ _ _ hc => absurd hc (by decide +kernel)) ?_
    rintro u k ⟨q, hs⟩
    simp only [go_sem, simprocAttr, e1, h4', decide_false]
    have q0 : h.quiet k := (AHeap.quiet.push _ _).trans q
    refine cl_spec (Equal_ok (S := fun _ => True) ((s2.quiet q0).weaken fun _ _ => trivial) (hs.weaken fun _ _ => trivial)) (fun _ _ _ hc => absurd hc (by decide +kernel)) ?_
    rintro u k2 ⟨rfl, rfl⟩
    simp only [go_sem, simprocAttr, e1, h4', decide_false]
    by_cases e : bs.drop (bs.length - 4) = sumB (sumN 1 (bs.take (bs.length - 4)))
    · rw [show openN bs = some (bs.take (bs.length - 4)) from if_pos ⟨by omega, e⟩]
      simp only [go_sem, simprocAttr, e, decide_true, e5]
      refine cl_spec (clone_ok (s1.quiet q0) (by simp; omega)) (fun _ _ _ hc => absurd hc (by decide +kernel)) ?_
      rintro w k3 ⟨q3, hw⟩
      simp only [go_sem, simprocAttr]
      refine ⟨AHeap.quiet.trans q0 q3, w, rfl, ?_⟩
      exact hw.weaken fun j hj => Nat.le_trans q0.1 hj
    · rw [show openN bs = none from if_neg (fun h => e h.2)]
      simp only [go_sem, simprocAttr, e, decide_false]
      exact q0
end
end Go.Proofs.Ytolnacokdjognaa
