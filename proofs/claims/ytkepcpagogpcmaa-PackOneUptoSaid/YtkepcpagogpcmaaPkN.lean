/- pack: the law PackNobody: what its call comes to. -/
import Derived.Test.YtkepcpagogpcmaaPkM
set_option linter.unusedSimpArgs false
set_option linter.unusedVariables false
set_option linter.unnecessarySimpa false
namespace Go.Proofs.Ytkepcpagogpcmaa
open Go.AM

section
variable {h : AHeap}
theorem PutN_ok (w : Value) : Does Try.prog 8 #[.pointer none, w] h (fun u h' => u = .tuple #[] ∧ h' = h) := by
  refine spec_go mixed Try.func8 rfl Try.results8 (n := Try.f8.ntmps) (by kernel_rfl) (by simp) ?_
  simp only [go_sem, simprocAttr]
theorem PartN_ok (w : Value) : Does Try.prog 9 #[.pointer none, w] h (fun u h' => u = .tuple #[] ∧ h' = h) := by
  refine spec_go mixed Try.func9 rfl Try.results9 (n := Try.f9.ntmps) (by kernel_rfl) (by simp) ?_
  simp only [go_sem, simprocAttr]
theorem BytesN_ok : Does Try.prog 11 #[.pointer none] h (fun u h' => u = .slice none 0 0 ∧ h' = h) := by
  refine spec_go mixed Try.func11 rfl Try.results11 (n := Try.f11.ntmps) (by kernel_rfl) (by simp) ?_
  simp only [go_sem, simprocAttr]
theorem AtN_ok : Does Try.prog 21 #[.pointer none] h (fun u h' => u = .int .i64 0 ∧ h' = h) := by
  refine spec_go mixed Try.func21 rfl Try.results21 (n := Try.f21.ntmps) (by kernel_rfl) (by simp) ?_
  simp only [go_sem, simprocAttr]
theorem LeftN_ok : Does Try.prog 19 #[.pointer none] h (fun u h' => u = .int .i64 0 ∧ h' = h) := by
  refine spec_go mixed Try.func19 rfl Try.results19 (n := Try.f19.ntmps) (by kernel_rfl) (by simp) ?_
  simp only [go_sem, simprocAttr]
theorem peekN_ok : Does Try.prog 24 #[.pointer none] h (fun u h' => u = .tuple #[.int .u64 0, .bool false] ∧ h' = h) := by
  refine spec_go mixed Try.func24 rfl Try.results24 (n := Try.f24.ntmps) (by kernel_rfl) (by simp) ?_
  simp only [go_sem, simprocAttr]
theorem GetN_ok : Does Try.prog 16 #[.pointer none] h (fun u h' => u = .int .u64 0 ∧ h' = h) := by
  refine spec_go mixed Try.func16 rfl Try.results16 (n := Try.f16.ntmps) (by kernel_rfl) (by simp) ?_
  simp only [go_sem, simprocAttr]
  refine cl_spec peekN_ok (fun _ _ _ hc => absurd hc (by decide +kernel)) ?_
  rintro u h' ⟨rfl, rfl⟩
  simp only [go_sem, simprocAttr]
theorem IntN_ok {m : Int} : Does Try.prog 22 #[.pointer none, .int .i64 m] h (fun u h' => u = .int .i64 0 ∧ h' = h) := by
  refine spec_go mixed Try.func22 rfl Try.results22 (n := Try.f22.ntmps) (by kernel_rfl) (by simp) ?_
  simp only [go_sem, simprocAttr]
  refine cl_spec peekN_ok (fun _ _ _ hc => absurd hc (by decide +kernel)) ?_
  rintro u h' ⟨rfl, rfl⟩
  simp only [go_sem, simprocAttr]
theorem PartRN_ok : Does Try.prog 17 #[.pointer none] h (fun u h' => u = .slice none 0 0 ∧ h' = h) := by
  refine spec_go mixed Try.func17 rfl Try.results17 (n := Try.f17.ntmps) (by kernel_rfl) (by simp) ?_
  simp only [go_sem, simprocAttr]
  refine cl_spec peekN_ok (fun _ _ _ hc => absurd hc (by decide +kernel)) ?_
  rintro u h' ⟨rfl, rfl⟩
  simp only [go_sem, simprocAttr]
end

theorem WrAt.fr {lo : Nat} {W : Nat → Prop} {h h' : AHeap} {id : Nat} {v : Value} {bs : List Nat} (hw : WrAt lo h id v bs) (f : Fw W h h') (h1 : ¬ W id) (h2 : ∀ j, blk v = some j → j < h.next → ¬ W j) : WrAt lo h' id v bs :=
  ⟨by rw [f.2 _ hw.lt h1]; exact hw.1, hw.2.1.mono (Nat.le_refl _) f.1 (fun _ e _ _ => e.elim) (fun j hj hl => f.2 j hl (h2 j hj hl)), hw.2.2⟩
theorem u8_ex (z : Int) : ∃ y : Nat, IntKind.u8.wrap z = (y : Nat) ∧ (y : Int) ≤ IntKind.u8.max := ⟨(z % 256).toNat, by rw [wrap_u8]; omega, by rw [u8_max]; omega⟩

theorem nobody_ok {h : AHeap} {n : Nat} {b : List Nat} {vb : Value} (hn : n < 18446744073709551616) (hb : Bytes (· < h.next) h b vb) (hl : b.length ≤ 1073741824) :
    Does Try.prog 7 #[.int .u64 n, vb] h (fun u _ => u = .bool true) := by
  obtain ⟨a, c, rfl⟩ := hb.shape
  have hbl := hb.len
  refine spec_go mixed Try.func7 rfl Try.results7 (n := Try.f7.ntmps) (by kernel_rfl) (by simp) ?_
  simp only [go_sem, simprocAttr]
  refine cl_spec (PutN_ok _) (fun _ _ _ hc => absurd hc (by decide +kernel)) ?_
  rintro u h1 ⟨rfl, rfl⟩
  simp only [go_sem, simprocAttr]
  refine cl_spec (PartN_ok _) (fun _ _ _ hc => absurd hc (by decide +kernel)) ?_
  rintro u h1 ⟨rfl, rfl⟩
  simp only [go_sem, simprocAttr]
  refine cl_spec BytesN_ok (fun _ _ _ hc => absurd hc (by decide +kernel)) ?_
  rintro u h1 ⟨rfl, rfl⟩
  simp only [go_sem, simprocAttr]
  refine go_gen fun h2 e2 => ?_
  have q0 : h.quiet h2 := by rw [e2]; exact ((((AHeap.quiet.refl _).push' _).push' _).push' _).push' _
  have g1 : h2.get (h.next + 1 + 1) = rdc (.slice none 0 0) ⟨[], 0, 0, 0⟩ := by rw [e2]; simp only [go_sem, simprocAttr, rdc]
  have g2 : h2.get (h.next + 1 + 1 + 1) = .cells [.pointer none, .pointer (some ⟨h.next + 1 + 1, 0, none⟩)] .rw := by rw [e2]; simp only [go_sem, simprocAttr]
  generalize hp : h.next + 1 + 1 + 1 = idp at *
  generalize hr : h.next + 1 + 1 = idr at *
  clear e2
  refine go_cutb (fun ρ k => h.quiet k ∧ ρ 1 = .slice a b.length c) ?_ ?_
  · refine go_loop (fun m ρ k => ∃ i : Nat, i ≤ 2 ∧ m = 2 - i ∧ (i ≤ 1 → k = h2) ∧ h.quiet k ∧ ρ 1 = .slice a b.length c ∧ ρ 29 = .slice (some ⟨idp, 0, none⟩) 2 2 ∧ ρ 30 = .int .i64 2 ∧ ρ 31 = .int .i64 i) 2 ⟨0, by omega, by omega, fun _ => rfl, q0, by simp only [go_sem, simprocAttr]⟩ ?_
    rintro m ρ k ⟨i, hi, rfl, ek, qk, r1, r29, r30, r31⟩
    simp only [go_sem, simprocAttr, r1, r29, r30, r31]
    refine cnd_decide (fun hx => ?_) (fun hx => ?_)
    · have := ek (by omega)
      subst this
      have hi2 : i = 0 ∨ i = 1 := by omega
      rcases hi2 with rfl | rfl
      · simp only [go_sem, simprocAttr, r1, r29, r30, r31, g2]
        refine cl_spec AtN_ok (fun u h' hp _ => by obtain ⟨_, rfl⟩ := hp; exact .refl _) ?_
        rintro u k1 ⟨rfl, rfl⟩
        simp only [go_sem, simprocAttr, r1, r29, r30, r31]
        refine cl_spec LeftN_ok (fun u h' hp _ => by obtain ⟨_, rfl⟩ := hp; exact .refl _) ?_
        rintro u k1 ⟨rfl, rfl⟩
        simp only [go_sem, simprocAttr, r1, r29, r30, r31]
        refine cl_spec GetN_ok (fun u h' hp _ => by obtain ⟨_, rfl⟩ := hp; exact .refl _) ?_
        rintro u k1 ⟨rfl, rfl⟩
        simp only [go_sem, simprocAttr, r1, r29, r30, r31]
        refine cl_spec PartRN_ok (fun u h' hp _ => by obtain ⟨_, rfl⟩ := hp; exact .refl _) ?_
        rintro u k1 ⟨rfl, rfl⟩
        simp only [go_sem, simprocAttr, r1, r29, r30, r31]
        refine cl_spec IntN_ok (fun u h' hp _ => by obtain ⟨_, rfl⟩ := hp; exact .refl _) ?_
        rintro u k1 ⟨rfl, rfl⟩
        simp only [go_sem, simprocAttr, r1, r29, r30, r31]
        exact Hold.mk ⟨1, by omega, 1, by omega, by omega, fun _ => rfl, qk, by simp only [go_sem, simprocAttr, r1, r29, r30, r31]; rfl⟩
      · have hr0 : RdAt (fun _ => False) k idr (.slice none 0 0) ⟨[], 0, 0, 0⟩ := ⟨g1, .nil _ _ _, fun e => e, Nat.le_refl _⟩
        simp only [go_sem, simprocAttr, r1, r29, r30, r31, g2]
        refine cl_spec (at_ok hr0) (fun u h' hp _ => by obtain ⟨_, rfl⟩ := hp; exact .refl _) ?_
        rintro u k1 ⟨rfl, rfl⟩
        simp only [go_sem, simprocAttr, r1, r29, r30, r31]
        refine cl_spec (Left_ok hr0) (fun u h' hp _ => by obtain ⟨_, rfl⟩ := hp; exact .refl _) ?_
        rintro u k1 ⟨rfl, rfl⟩
        simp only [go_sem, simprocAttr, r1, r29, r30, r31, List.length_nil]
        refine cl_spec (get_ok hr0) (fun _ _ _ hc => absurd hc (by decide +kernel)) ?_
        rintro u k2 ⟨rfl, hr2, f2⟩
        have e2 : (⟨[], 0, 0, 0⟩ : RdS).get = (0, ⟨[], 0, 3, 0⟩) := rfl
        rw [e2] at hr2 ⊢
        simp only [go_sem, simprocAttr, r1, r29, r30, r31]
        refine cl_spec (part_ok hr2 (fun j hj => hj.elim)) (fun _ _ _ hc => absurd hc (by decide +kernel)) ?_
        rintro u k3 ⟨hu, hr3, f3⟩
        have e3 : (⟨[], 0, 3, 0⟩ : RdS).part = ([], ⟨[], 0, 3, 0⟩) := rfl
        simp only [e3] at hu hr3
        obtain ⟨ap, cp, rfl⟩ := hu.shape
        simp only [go_sem, simprocAttr, r1, r29, r30, r31, List.length_nil]
        refine cl_spec (int_ok hr3 (by omega)) (fun _ _ _ hc => absurd hc (by decide +kernel)) ?_
        rintro u k4 ⟨rfl, hr4, f4⟩
        have e4 : (⟨[], 0, 3, 0⟩ : RdS).int 9 = (0, ⟨[], 0, 3, 0⟩) := rfl
        rw [e4]
        simp only [go_sem, simprocAttr, r1, r29, r30, r31]
        exact Hold.mk ⟨0, by omega, 2, by omega, by omega, fun e => by omega, Fw.behind (Fw.behind (Fw.behind qk f2 (fun j e => by omega)) f3 (fun j e => by omega)) f4 (fun j e => by omega), by simp only [go_sem, simprocAttr, r1, r29, r30, r31]; rfl⟩
    · simp only [go_sem, simprocAttr, r1]
      exact Hold.mk ⟨qk, r1⟩
  · clear g1 g2 q0
    rintro ρ k ⟨qk, r1⟩
    simp only [go_sem, simprocAttr, r1]
    have hr0 : RdAt (fun _ => False) (k.push (rdc (.slice none 0 0) ⟨[], 0, 0, 0⟩)) k.next (.slice none 0 0) ⟨[], 0, 0, 0⟩ := ⟨by simp, .nil _ _ _, fun e => e, Nat.le_refl _⟩
    refine cl_spec (get_ok hr0) (fun _ _ _ hc => absurd hc (by decide +kernel)) ?_
    rintro u k2 ⟨rfl, hr2, f2⟩
    have e2 : (⟨[], 0, 0, 0⟩ : RdS).get = (0, ⟨[], 0, 3, 0⟩) := rfl
    rw [e2] at hr2 ⊢
    have q2 : h.quiet k2 := Fw.behind (qk.push' _) f2 (fun j e => by have := qk.1; omega)
    simp only [go_sem, simprocAttr, r1]
    refine cl_spec (fault_ok hr2) (fun _ _ _ hc => absurd hc (by decide +kernel)) ?_
    rintro u k3 ⟨rfl, q3⟩
    simp only [go_sem, simprocAttr, r1]
    have q4 := q2.trans q3
    clear hr2 f2 q2 q3 hr0 qk
    generalize k3 = k at *
    obtain ⟨v5, h5, e5, l5, f5, _⟩ := (Lst.nil rB (k.next + 1) (fun _ => False) (k.push (.cells [.slice none 0 0] .rw))).app (ys := b) 1 rfl (bytes := 1) (n := b.length) (nat_all2 (fun n hn => by have := hb.vals rfl n hn; exact this)) rfl (by simp; omega) (by simp; omega) (by simp)
    rw [nat_flat] at e5
    obtain ⟨a5, c5, rfl, _⟩ := l5.len
    have q5 : (k.push (.cells [.slice none 0 0] .rw)).quiet h5 := f5.quiet (fun j _ e => by cases e)
    simp only [go_sem, simprocAttr, r1, (hb.quiet (q4.push' _)).acellsN, e5]
    have q6 := q5.push' (.cells [.slice a5 ([] ++ b).length c5] .rw)
    have l6 := l5.quiet (.push _ (.cells [.slice a5 ([] ++ b).length c5] .rw))
    simp only [List.nil_append] at l6 q6 ⊢
    have hlt6 : k.next < h5.next := by have := q5.1; simp at this; omega
    have w6 : WrAt (h5.next + 1) (h5.push (.cells [.slice a5 b.length c5] .rw)) k.next (.slice none 0 0) [] := ⟨by rw [q6.2 _ (by simp)]; simp, .nil _ _ _ _, by simp⟩
    have p6 : IsSl rB.list (k.next < ·) (h5.push (.cells [.slice a5 b.length c5] .rw)) [b] (.slice (some ⟨h5.next, 0, none⟩) 1 1) :=
      .fresh (css := [[.slice a5 b.length c5]]) (.cons ⟨_, rfl, l6.isSl (fun _ e _ => e.elim) (fun j hj => hj)⟩ .nil) rfl (by decide) hlt6 (AHeap.get_push_self _ _) rfl
    refine cl_spec (Part_ok w6 (by simp) p6 (fun j hj _ => ⟨by omega, by simp⟩) (by simp [partsB, leB_length]; omega)) (fun _ _ _ hc => absurd hc (by decide +kernel)) ?_
    rintro u h7 ⟨rfl, v7, w7, f7, _⟩
    simp only [List.nil_append] at w7
    have d7 : ∀ j, False ∨ k.next + 1 ≤ j → ¬ WrF k.next (.slice none 0 0) j := by
      rintro j (hj | hj) (rfl | e)
      · exact hj
      · exact hj
      · omega
      · cases e
    have l7 : Lst rB (k.next + 1) (fun _ => False) h7 b (.slice a5 b.length c5) := Lst.fr l6 f7 d7
    have lt5 : ∀ j, blk (.slice a5 b.length c5) = some j → j < h5.next + 1 := fun j hj => by have := (l6.blk_ge hj).2; simpa using this
    generalize h5.next = n5 at *
    have hps : (partsB [b]).length = b.length + 8 := by simp [partsB, leB_length]; omega
    generalize partsB [b] = ps at *
    clear w6 p6 f7 l6 q6 q5 f5 e5 l5 hlt6
    simp only [go_sem, simprocAttr, r1]
    refine cl_spec (Bytes_ok w7 (by omega)) (fun _ _ _ hc => absurd hc (by decide +kernel)) ?_
    rintro u h8 ⟨q8, b8⟩
    obtain ⟨a8, c8, rfl⟩ := b8.shape
    have w8 := w7.quiet q8
    have l8 := l7.quiet q8
    simp only [go_sem, simprocAttr, b8.acellsN]
    refine go_cutb (fun ρ k' => WrAt (n5 + 1) k' k.next v7 ps ∧ ρ 9 = .pointer (some ⟨k.next, 0, none⟩) ∧ ρ 11 = .string (ba ps)) ?_ ?_
    · refine go_loop (fun m ρ k' => ∃ (i : Nat) (xs : List Nat), i ≤ b.length ∧ m = b.length - i ∧ xs.length = b.length ∧ Lst rB (k.next + 1) (fun _ => False) k' xs (.slice a5 b.length c5) ∧ WrAt (n5 + 1) k' k.next v7 ps ∧
        ρ 9 = .pointer (some ⟨k.next, 0, none⟩) ∧ ρ 11 = .string (ba ps) ∧ ρ 10 = .slice a5 b.length c5 ∧ ρ 71 = .slice a5 b.length c5 ∧ ρ 72 = .int .i64 b.length ∧ ρ 73 = .int .i64 i) b.length ⟨0, b, by omega, by omega, rfl, l8, by simpa using w8, by simp only [go_sem, simprocAttr]⟩ ?_
      rintro m ρ k' ⟨i, xs, hi, rfl, hxs, hl, hw, r9, r11, r10, r71, r72, r73⟩
      simp only [go_sem, simprocAttr, r9, r11, r10, r71, r72, r73]
      refine cnd_decide (fun hx => ?_) (fun hx => ?_)
      · have hx' : i < b.length := by omega
        obtain ⟨ob, cc, x, rfl, hob, hob2, hg, hc, hcl, hxi, hmx, hset⟩ := hl.setN hx'
        have e9 : IntKind.i64.wrap ((i : Int) + 1) = ((i + 1 : Nat) : Int) := by rw [wi64] <;> omega
        have hx1 : i + 1 ≤ b.length := hx'
        obtain ⟨y, ey, hy⟩ := u8_ex (((BitVec.ofInt 8 (x : Int) ^^^ 255#8).toNat : Nat) : Int)
        simp only [go_sem, simprocAttr, r9, r11, r10, r71, r72, r73, hx', hx1, hg, hc, e9, hcl, ey]
        have lt5 := lt5 ob rfl
        refine Hold.mk ⟨b.length - (i + 1), by omega, i + 1, xs.set i y, by omega, rfl, by simpa using hxs, (by have t := hset y hy; rw [← ey] at t; exact t), hw.fr (.set _) (by omega) (fun j hj _ e => ?_), ?_⟩
        · have := (hw.2.1.blk_ge hj).1; omega
        · simp only [go_sem, simprocAttr, r9, r11, r10, r71, r72]
      · simp only [go_sem, simprocAttr, r9, r11]
        exact Hold.mk ⟨hw, r9, r11⟩
    · rintro ρ k1 ⟨w9, r9, r11⟩
      simp only [go_sem, simprocAttr, r9, r11]
      refine cl_spec (BytesL_ok w9 (by omega)) (fun _ _ _ hc => absurd hc (by decide +kernel)) ?_
      rintro u k2 ⟨q10, l10⟩
      obtain ⟨a10, c10, rfl, _⟩ := l10.len
      have w10 := w9.quiet q10
      simp only [go_sem, simprocAttr, r9, r11]
      refine go_cutb (fun ρ k' => WrAt (n5 + 1) k' k.next v7 ps ∧ ρ 9 = .pointer (some ⟨k.next, 0, none⟩) ∧ ρ 11 = .string (ba ps)) ?_ ?_
      · refine go_loop (fun m ρ k' => ∃ (i : Nat) (xs : List Nat), i ≤ ps.length ∧ m = ps.length - i ∧ xs.length = ps.length ∧ Lst rB k1.next (fun _ => False) k' xs (.slice a10 ps.length c10) ∧ WrAt (n5 + 1) k' k.next v7 ps ∧
          ρ 9 = .pointer (some ⟨k.next, 0, none⟩) ∧ ρ 11 = .string (ba ps) ∧ ρ 13 = .slice a10 ps.length c10 ∧ ρ 84 = .slice a10 ps.length c10 ∧ ρ 85 = .int .i64 ps.length ∧ ρ 86 = .int .i64 i) ps.length ⟨0, ps, by omega, by omega, rfl, l10, w10, by simp only [go_sem, simprocAttr, r9, r11]⟩ ?_
        rintro m ρ k' ⟨i, xs, hi, rfl, hxs, hl, hw, r9, r11, r10, r71, r72, r73⟩
        simp only [go_sem, simprocAttr, r9, r11, r10, r71, r72, r73]
        refine cnd_decide (fun hx => ?_) (fun hx => ?_)
        · have hx' : i < ps.length := by omega
          obtain ⟨ob, cc, x, rfl, hob, hob2, hg, hc, hcl, hxi, hmx, hset⟩ := hl.setN hx'
          have e9 : IntKind.i64.wrap ((i : Int) + 1) = ((i + 1 : Nat) : Int) := by rw [wi64] <;> omega
          have hx1 : i + 1 ≤ ps.length := hx'
          obtain ⟨y, ey, hy⟩ := u8_ex (((BitVec.ofInt 8 (x : Int) ^^^ 255#8).toNat : Nat) : Int)
          simp only [go_sem, simprocAttr, r9, r11, r10, r71, r72, r73, hx', hx1, hg, hc, e9, hcl, ey]
          refine Hold.mk ⟨ps.length - (i + 1), by omega, i + 1, xs.set i y, by omega, rfl, by simpa using hxs, (by have t := hset y hy; rw [← ey] at t; exact t), hw.fr (.set _) (by have := w9.lt; omega) (fun j hj _ e => ?_), ?_⟩
          · have := (w9.2.1.blk_ge hj).2; omega
          · simp only [go_sem, simprocAttr, r9, r11, r10, r71, r72]
        · simp only [go_sem, simprocAttr, r9, r11]
          exact Hold.mk ⟨hw, r9, r11⟩
      · rintro ρ k4 ⟨w11, r9, r11⟩
        simp only [go_sem, simprocAttr, r9, r11]
        refine cl_spec (Bytes_ok w11 (by omega)) (fun _ _ _ hc => absurd hc (by decide +kernel)) ?_
        rintro u k5 ⟨q11, b11⟩
        obtain ⟨a11, c11, rfl⟩ := b11.shape
        simp only [go_sem, simprocAttr, b11.acellsN, r11, beq_self_eq_true]
        refine cl_spec (alive_ok _) (fun u h' hp _ => by obtain ⟨_, rfl⟩ := hp; exact .refl _) ?_
        rintro u h' ⟨rfl, rfl⟩
        simp only [go_sem, simprocAttr]

end Go.Proofs.Ytkepcpagogpcmaa
