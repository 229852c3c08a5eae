/- net: the document's reader, and its messages. -/
import Derived.Test.YtclfemiiibgfdaaNeN
set_option linter.unusedSimpArgs false
set_option linter.unusedVariables false
set_option linter.unnecessarySimpa false
set_option maxRecDepth 100000
namespace Go.Proofs.Ytclfemiiibgfdaa
open Go.AM

def RdS.ok0 (s : RdS) : Prop := s.why = 0 → s.fat = 0
theorem RdS.ok0.wrong {s : RdS} (o : s.ok0) {e p : Int} (he : e ≠ 0) : (s.wrong e p).ok0 ∧ (s.wrong e p).why ≠ 0 := by
  unfold RdS.wrong RdS.ok0
  split
  · exact ⟨fun e' => absurd e' he, he⟩
  · rename_i hc
    exact ⟨o, fun e' => hc ⟨e', o e'⟩⟩
theorem RdS.ok0.short {s : RdS} (o : s.ok0) : s.short.ok0 := by
  unfold RdS.short
  split
  · exact o
  · exact (o.wrong (by decide)).1
theorem RdS.ok0.none {s : RdS} (o : s.ok0) (hp : s.peek = none) : s.short.why ≠ 0 := by
  unfold RdS.short
  split
  · rename_i h8
    intro e
    unfold RdS.peek at hp
    rw [if_pos ⟨e, o e, h8⟩] at hp
    cases hp
  · exact (o.wrong (by decide)).2
theorem RdS.ok0.int {s : RdS} (o : s.ok0) (m : Int) : (s.int m).2.ok0 := by
  unfold RdS.int
  split
  · exact o.short
  · split
    · exact (o.wrong (by decide)).1
    · exact o
theorem RdS.ok0.part {s : RdS} (o : s.ok0) : s.part.2.ok0 := by
  unfold RdS.part
  split
  · exact o.short
  · split
    · exact (o.wrong (by decide)).1
    · split
      · exact (o.wrong (by decide)).1
      · exact o
theorem RdS.ok0.fin {s : RdS} (o : s.ok0) : s.fin.ok0 := by
  unfold RdS.fin
  split
  · exact (o.wrong (by decide)).1
  · exact o
section
variable {h : AHeap} {id : Nat} {v : Value} {s : RdS} {S : Nat → Prop}
theorem fails_ok (hr : RdAt S h id v s) (o : s.ok0) (e p : Int) :
    Does Try.prog 62 #[.pointer (some ⟨id, 0, none⟩), .int .i64 e, .int .i64 p] h (fun u h' => u = .tuple #[] ∧ RdAt S h' id v (s.wrong e p) ∧ Fw (· = id) h h') := by
  refine spec_go mixed Try.func62 rfl Try.results62 (n := Try.f62.ntmps) (by kernel_rfl) (by simp) ?_
  simp only [go_sem, simprocAttr, hr.1, rdc]
  refine cnd_decide (fun hw => ?_) (fun hw => ?_)
  · simp only [go_sem, simprocAttr, hr.1, rdc]
    have := hr.set (s' := s.wrong e p) (by simp) (by simpa using hr.2.2.2)
    rw [RdS.wrong, if_pos ⟨hw, o hw⟩] at this ⊢
    exact ⟨this, .set _⟩
  · simp only [go_sem, simprocAttr]
    rw [RdS.wrong, if_neg (fun e => hw e.1)]
    exact ⟨hr, .refl _ _⟩
theorem shl_or {a x : Nat} (ha : a < 2 ^ 56) (hx : x < 256) :
    IntKind.u64.wrap (((BitVec.ofInt 64 (IntKind.u64.wrap ((a : Int) * 2 ^ (min 8 64))) ||| BitVec.ofInt 64 (x : Int)).toNat : Nat) : Int) = ((x + 256 * a : Nat) : Int) := by
  have e7 : IntKind.u64.wrap ((a : Int) * 2 ^ (min 8 64)) = ((a * 256 : Nat) : Int) := by
    rw [wrap_u64]
    simp only [Nat.reduceLeDiff, Nat.min_eq_left]
    omega
  have e : (BitVec.ofInt 64 ((a * 256 : Nat) : Int) ||| BitVec.ofInt 64 (x : Int)).toNat = x + 256 * a := by
    rw [BitVec.ofInt_natCast, BitVec.ofInt_natCast, BitVec.toNat_or, BitVec.toNat_ofNat, BitVec.toNat_ofNat, Nat.mod_eq_of_lt (by omega), Nat.mod_eq_of_lt (by omega), show a * 256 = a <<< 8 by rw [Nat.shiftLeft_eq], ← Nat.shiftLeft_add_eq_or_of_lt (by omega), Nat.shiftLeft_eq]
    omega
  rw [e7, e, wrap_u64]
  omega
theorem leN_drop {bs : List Nat} {i x : Nat} (hi : bs[i]? = some x) : leN (bs.drop i) = x + 256 * leN (bs.drop (i + 1)) := by
  rw [drop_cons hi]; rfl
theorem rpeek_ok (hr : RdAt S h id v s) (o : s.ok0) : Does Try.prog 61 #[.pointer (some ⟨id, 0, none⟩)] h
      (fun u h' => u = .int .u64 (s.peek.getD 0 : Nat) ∧ RdAt S h' id v s.short ∧ Fw (· = id) h h' ∧ (s.peek.isSome → h' = h)) := by
  obtain ⟨a, cap, rfl⟩ := hr.2.1.shape
  have hlen := hr.2.1.len
  refine spec_go mixed Try.func61 rfl Try.results61 (n := Try.f61.ntmps) (by kernel_rfl) (by simp) ?_
  simp only [go_sem, simprocAttr, hr.1, rdc]
  by_cases hw : s.why = 0
  · simp only [go_sem, simprocAttr, hw, decide_true, decide_false, hr.1, rdc]
    have e0 : IntKind.i64.wrap ((s.bs.length : Int) - s.at_) = (s.bs.length : Int) - s.at_ := by have := hr.2.2.2; rw [wi64] <;> omega
    by_cases h8 : s.at_ + 8 ≤ s.bs.length
    · have h8' : ¬ (s.bs.length : Int) - s.at_ < 8 := by omega
      obtain ⟨a', cap', hsl, hby⟩ := hr.2.1.slice 1 rfl (l := s.at_) (m := s.at_ + 8) (by omega) h8
      rw [show s.at_ + 8 - s.at_ = 8 by omega] at hsl hby
      have hpk : s.peek = some (leN ((s.bs.drop s.at_).take 8)) := by unfold RdS.peek; rw [if_pos ⟨hw, o hw, h8⟩]
      have hsh : s.short = s := by unfold RdS.short; rw [if_pos h8]
      rw [hpk, hsh]
      generalize hseg : (s.bs.drop s.at_).take 8 = seg at hby ⊢
      have hl8 : seg.length = 8 := hby.len.1.symm
      have hb256 : ∀ b ∈ seg, b < 256 := fun b hb => by have := hby.vals rfl b hb; rw [u8_max] at this; omega
      simp only [go_sem, simprocAttr, e0, h8', decide_false]
      refine go_loop (fun m ρ k => k = h ∧ ∃ i : Nat, i ≤ 8 ∧ m = 8 - i ∧ ρ 0 = .pointer (some ⟨id, 0, none⟩) ∧ ρ 4 = .int .i64 ((7 : Int) - i) ∧ ρ 3 = .int .u64 (leN (seg.drop (8 - i)) : Nat)) 8 ⟨rfl, 0, by omega, by omega, by simp only [go_sem, simprocAttr], by simp only [go_sem, simprocAttr]; try rfl, by simp only [go_sem, simprocAttr, show seg.drop (8 - 0) = [] from List.drop_of_length_le (by omega), leN]; try rfl⟩ ?_
      rintro m ρ k ⟨rfl, i, hi, rfl, r0, r4, r3⟩
      simp only [go_sem, simprocAttr, r0, r4, r3]
      refine cnd_decide (fun hx => ?_) (fun hx => ?_)
      · have hi8 : i < 8 := by omega
        obtain ⟨x, hxs⟩ : ∃ x, seg[7 - i]? = some x := ⟨_, List.getElem?_eq_getElem (by omega)⟩
        have hx256 := hb256 x (List.mem_of_getElem? hxs)
        have hxb : s.bs[s.at_ + (7 - i)]? = some x := by
          rw [← hxs, ← hseg, List.getElem?_take, if_pos (by omega), List.getElem?_drop]
        obtain ⟨b, off, sp, c, md, x', rfl, _, hg, hx', _, hc⟩ := hr.2.1.atN (show s.at_ + (7 - i) < s.bs.length by omega)
        obtain rfl : x' = x := by rw [hxb] at hx'; cases hx'; rfl
        have e1 : IntKind.i64.wrap ((s.at_ : Int) + (7 - i)) = ((s.at_ + (7 - i) : Nat) : Int) := by rw [wi64] <;> omega
        have e2 : IntKind.i64.wrap ((7 : Int) - i - 1) = (7 : Int) - (i + 1 : Nat) := by rw [wi64] <;> omega
        have e6 : IntKind.u64.wrap (x' : Int) = x' := by rw [wu64] <;> omega
        have hlt : s.at_ + (7 - i) < s.bs.length := by omega
        have h56 : leN (seg.drop (8 - i)) < 2 ^ 56 := by
          have := Go.AM.leN_lt (bs := seg.drop (8 - i)) (fun b hb => hb256 b (List.mem_of_mem_drop hb))
          rw [pow256, List.length_drop, hl8] at this
          exact Nat.lt_of_lt_of_le this (Nat.pow_le_pow_right (by omega) (by omega))
        have e8 := shl_or h56 hx256
        have e9 : ((x' + 256 * leN (seg.drop (8 - i)) : Nat) : Int) = ((leN (seg.drop (7 - i)) : Nat) : Int) := by
          rw [leN_drop hxs, show 7 - i + 1 = 8 - i by omega]
        simp only [go_sem, simprocAttr, r0, r4, r3, hr.1, rdc, hg, hc, e1, e2, e6, hlt]
        refine Hold.mk ⟨7 - i, by omega, rfl, i + 1, by omega, by omega, ?_⟩
        simp only [go_sem, simprocAttr, r0]
        exact congrArg (Value.int .u64) (e8.trans e9)
      · have : i = 8 := by omega
        subst this
        simp only [go_sem, simprocAttr, r0, r4, r3]
        exact ⟨hr, .refl _ _, fun _ => trivial⟩
    · have h8' : (s.bs.length : Int) - s.at_ < 8 := by omega
      have hpk : s.peek = none := by unfold RdS.peek; rw [if_neg (fun e => h8 e.2.2)]
      simp only [go_sem, simprocAttr, e0, h8', decide_true, hr.1, rdc]
      refine cl_spec (fails_ok hr o 3 s.bs.length) (fun _ _ _ hc => absurd hc (by decide +kernel)) ?_
      rintro u h' ⟨rfl, h1, h2⟩
      simp only [go_sem, simprocAttr, hpk, RdS.short, if_neg h8, Option.getD_none, Option.isSome_none]
      exact ⟨h1, h2, by simp⟩
  · simp only [go_sem, simprocAttr, hw, decide_true, decide_false]
    have : s.peek = none := by unfold RdS.peek; rw [if_neg (fun e => hw e.1)]
    have h2 : s.short = s := by unfold RdS.short; split <;> simp [RdS.wrong, hw]
    rw [this, h2]
    exact ⟨by simp, hr, .refl _ _, fun h => by simp at h⟩
theorem rInt_ok (hr : RdAt S h id v s) (o : s.ok0) : Does Try.prog 48 #[.pointer (some ⟨id, 0, none⟩), .int .i64 2147483648] h
      (fun u h' => u = .int .i64 (s.int 2147483648).1 ∧ RdAt S h' id v (s.int 2147483648).2 ∧ Fw (· = id) h h') := by
  obtain ⟨a, cap, rfl⟩ := hr.2.1.shape
  have hlen := hr.2.1.len
  refine spec_go mixed Try.func48 rfl Try.results48 (n := Try.f48.ntmps) (by kernel_rfl) (by simp) ?_
  simp only [go_sem, simprocAttr]
  refine cl_spec (rpeek_ok hr o) (fun _ _ _ hc => absurd hc (by decide +kernel)) ?_
  rintro u h' ⟨rfl, h1, h2, h3⟩
  unfold RdS.int
  cases hp : s.peek with
  | none =>
    have hw := o.none hp
    simp only [go_sem, simprocAttr, h1.1, rdc, hw, decide_false, decide_true, hp]
    exact ⟨h1, h2⟩
  | some n =>
    obtain ⟨k1, k2, k3, k4, _⟩ := RdS.peek_some hp
    have hn := hr.leN_lt hp
    rw [hp] at h3; have := h3 rfl; subst this
    have e1 : IntKind.u64.wrap 2147483648 = 2147483648 := by rw [wu64] <;> omega
    simp only [go_sem, simprocAttr, hr.1, rdc, k3, decide_true, hp, Option.getD_some, e1]
    by_cases hx : (2147483648 : Int) < n
    · simp only [go_sem, simprocAttr, hx, decide_true, hr.1, rdc, k3]
      refine cl_spec (fails_ok hr o 6 s.at_) (fun _ _ _ hc => absurd hc (by decide +kernel)) ?_
      rintro u h' ⟨rfl, h1, h2⟩
      have hw := (o.wrong (e := 6) (p := s.at_) (by decide)).2
      simp only [go_sem, simprocAttr, h1.1, rdc, hw, decide_true, decide_false]
      exact ⟨h1, h2⟩
    · have e : IntKind.i64.wrap (n : Int) = n := by rw [wi64] <;> omega
      have e9 : IntKind.i64.wrap ((s.at_ : Int) + 8) = ((s.at_ + 8 : Nat) : Int) := by rw [wi64] <;> omega
      simp only [go_sem, simprocAttr, hx, decide_true, decide_false, hr.1, rdc, k3, e, e9]
      have := hr.set (s' := { s with at_ := s.at_ + 8 }) rfl k1
      unfold rdc at this
      rw [k3] at this
      exact ⟨this, .set _⟩
theorem rPartR_ok (hr : RdAt S h id v s) (o : s.ok0) (hS : ∀ j, S j → j < h.next) (hn : s.bs.length ≤ 1099511627776) : Does Try.prog 49 #[.pointer (some ⟨id, 0, none⟩)] h
      (fun u h' => IsSl rB (fun j => h.next ≤ j) h' s.part.1 u ∧ RdAt S h' id v s.part.2 ∧ Fw (· = id) h h') := by
  obtain ⟨a, cap, rfl⟩ := hr.2.1.shape
  have hlen := hr.2.1.len
  refine spec_go mixed Try.func49 rfl Try.results49 (n := Try.f49.ntmps) (by kernel_rfl) (by simp) ?_
  simp only [go_sem, simprocAttr]
  refine cl_spec (rpeek_ok hr o) (fun _ _ _ hc => absurd hc (by decide +kernel)) ?_
  rintro u h' ⟨rfl, h1, h2, h3⟩
  unfold RdS.part
  cases hp : s.peek with
  | none =>
    have hw := o.none hp
    simp only [go_sem, simprocAttr, h1.1, rdc, hw, decide_false, decide_true, hp]
    exact ⟨.nil _ _ _, h1, h2⟩
  | some n =>
    obtain ⟨k1, k2, k3, k4, _⟩ := RdS.peek_some hp
    have hn := hr.leN_lt hp
    rw [hp] at h3; have := h3 rfl; subst this
    have e1 : IntKind.i64.wrap (IntKind.i64.wrap ((s.bs.length : Int) - s.at_) - 8) = (s.bs.length : Int) - s.at_ - 8 := by rw [wi64 (n := (s.bs.length : Int) - s.at_)] <;> first | omega | (rw [wi64] <;> omega)
    have e2 : IntKind.u64.wrap ((s.bs.length : Int) - s.at_ - 8) = (s.bs.length : Int) - s.at_ - 8 := by rw [wu64] <;> omega
    by_cases hx : 2147483648 < n
    · have hx' : (2147483648 : Int) < n := by omega
      simp only [go_sem, simprocAttr, hr.1, rdc, k3, decide_true, hp, Option.getD_some, hx', hx]
      refine cl_spec (fails_ok hr o 6 s.at_) (fun _ _ _ hc => absurd hc (by decide +kernel)) ?_
      rintro u h' ⟨rfl, h1, h2⟩
      have hw := (o.wrong (e := 6) (p := s.at_) (by decide)).2
      simp only [go_sem, simprocAttr, h1.1, rdc, hw, decide_true, decide_false]
      exact ⟨.nil _ _ _, h1, h2⟩
    · have hx' : ¬ (2147483648 : Int) < n := by omega
      by_cases hy : s.bs.length < s.at_ + 8 + n
      · have hy' : (s.bs.length : Int) - s.at_ - 8 < n := by omega
        simp only [go_sem, simprocAttr, hr.1, rdc, k3, decide_true, decide_false, hp, Option.getD_some, hx', hx, hy, e1, e2, hy']
        refine cl_spec (fails_ok hr o 3 s.bs.length) (fun _ _ _ hc => absurd hc (by decide +kernel)) ?_
        rintro u h' ⟨rfl, h1, h2⟩
        have hw := (o.wrong (e := 3) (p := s.bs.length) (by decide)).2
        simp only [go_sem, simprocAttr, h1.1, rdc, hw, decide_true, decide_false]
        exact ⟨.nil _ _ _, h1, h2⟩
      · have hy' : ¬ (s.bs.length : Int) - s.at_ - 8 < n := by omega
        have e3 : IntKind.i64.wrap (n : Int) = n := by rw [wi64] <;> omega
        have e9 : IntKind.i64.wrap ((s.at_ : Int) + 8) = ((s.at_ + 8 : Nat) : Int) := by rw [wi64] <;> omega
        have e10 : IntKind.i64.wrap (((s.at_ + 8 : Nat) : Int) + n) = ((s.at_ + 8 + n : Nat) : Int) := by rw [wi64] <;> omega
        have hlt := hr.lt
        have hr1 := hr.set (s' := { s with at_ := s.at_ + 8 + n }) rfl (by simp only; omega)
        have hg1 := hr1.1
        obtain ⟨a1, c1, es, s1⟩ := hr1.2.1.slice 1 rfl (l := s.at_ + 8) (m := s.at_ + 8 + n) (by omega) (by omega)
        rw [show s.at_ + 8 + n - (s.at_ + 8) = n by omega] at es s1
        simp only at es s1
        have q1 : Fw (· = id) h' (h'.set id (rdc (.slice a s.bs.length cap) { s with at_ := s.at_ + 8 + n })) := .set _
        unfold rdc at hg1 s1 q1
        have hr1 := hr1
        unfold rdc at hr1
        generalize hk : h'.set id (.cells [.slice a s.bs.length cap, .int .i64 ((s.at_ + 8 + n : Nat) : Int), .int .i64 s.why, .int .i64 s.fat] .rw) = k at hg1 s1 hr1 q1
        obtain ⟨v3, k5, e5, hl3, hf3, _⟩ := (Lst.nil rB k.next (fun _ => False) k).app (ys := (s.bs.drop (s.at_ + 8)).take n) 1 rfl (bytes := 1) (n := n) (nat_all2 (fun n hn => s1.vals rfl n hn)) (by simp; omega) (by simp; omega) (by simp; omega) (Nat.le_refl _)
        rw [nat_flat] at e5
        have q5 : k.quiet k5 := hf3.quiet (fun j _ h => by cases h)
        simp only [go_sem, simprocAttr, hr.1, rdc, k3, decide_true, decide_false, hp, Option.getD_some, hx', hx, hy, e1, e2, hy', e3, e9, e10]
        simp only [k3] at hk hg1 hr1 ⊢
        simp only [go_sem, simprocAttr, hk, hg1, es, s1.acellsN, e5]
        exact ⟨(hl3.isSl (S := (k.next ≤ ·)) (fun _ e _ => e.elim) (fun _ e => e)).weaken fun j hj => Nat.le_trans q1.1 hj, hr1.quiet q5, q1.then q5⟩
theorem rEnd_ok (hr : RdAt S h id v s) (o : s.ok0) : Does Try.prog 50 #[.pointer (some ⟨id, 0, none⟩)] h
      (fun u h' => u = .agg #[.int .i64 s.fin.why, .int .i64 s.fin.fat] ∧ RdAt S h' id v s.fin ∧ Fw (· = id) h h') := by
  have q0 : h.quiet (h.push (.cells [.int .i64 0, .int .i64 0] .rw)) := .push _ _
  have hr0 := hr.quiet q0
  have hlt := hr.lt
  obtain ⟨a, cap, rfl⟩ := hr.2.1.shape
  have hlen := hr.2.1.len
  refine spec_go mixed Try.func50 rfl Try.results50 (n := Try.f50.ntmps) (by kernel_rfl) (by simp) ?_
  simp only [go_sem, simprocAttr, hr0.1, rdc]
  have fin : ∀ h1, RdAt S h1 id (.slice a s.bs.length cap) s.fin → Fw (· = id) (h.push (.cells [.int .i64 0, .int .i64 0] .rw)) h1 → h1.get h.next = .cells [.int .i64 0, .int .i64 0] .rw ∧ h.next < h1.next ∧ ∀ o, RdAt S (h1.set h.next o) id (.slice a s.bs.length cap) s.fin ∧ Fw (· = id) h (h1.set h.next o) := by
    intro h1 hr1 f1
    have e1 : h1.get h.next = .cells [.int .i64 0, .int .i64 0] .rw := by rw [f1.2 _ (by simp) (by omega)]; simp
    have l1 : h.next < h1.next := AHeap.lt_of_alive h1 (by rw [e1]; simp)
    refine ⟨e1, l1, fun o => ?_⟩
    have hf : Fw (· = id) h (h1.set h.next o) := ⟨by have := f1.1; simp at this ⊢; omega, fun j hj hne => by
      rw [AHeap.get_set_ne _ _ (by omega), f1.2 j (by simp; omega) hne, AHeap.get_push_lt _ _ hj]⟩
    exact ⟨hr.fw hf (by rw [AHeap.get_set_ne _ _ (by omega)]; exact hr1.1) (by unfold RdS.fin; split <;> simp) (by unfold RdS.fin; split <;> simp [hr.2.2.2]), hf⟩
  refine cnd_decide (fun hx => ?_) (fun hx => ?_)
  · simp only [go_sem, simprocAttr, hr0.1, rdc]
    refine cl_spec (fails_ok hr0 o 16 s.at_) (fun _ _ _ hc => absurd hc (by decide +kernel)) ?_
    rintro u h1 ⟨rfl, hr1, f1⟩
    have ef : s.fin = s.wrong 16 s.at_ := by unfold RdS.fin; rw [if_pos (by omega)]
    obtain ⟨e1, l2, k⟩ := fin h1 (by rw [ef]; exact hr1) f1
    simp only [go_sem, simprocAttr, hr1.1, rdc, e1, AHeap.get_set_self _ _ l2]
    rw [ef] at k ⊢
    exact ⟨rfl, k _⟩
  · have ef : s.fin = s := by unfold RdS.fin; rw [if_neg (by omega)]
    obtain ⟨e1, l2, k⟩ := fin _ (by rw [ef]; exact hr0) (.refl _ _)
    have k := k (.cells [.int .i64 s.why, .int .i64 s.fat] .rw)
    simp only [go_sem, simprocAttr, hr0.1, rdc, e1, AHeap.get_set_self _ _ l2]
    rw [set_push1_0, ef] at k
    rw [ef]
    exact ⟨rfl, k⟩
theorem rRight_ok {m : Msg} (hv : Bytes S h m.load v) : Does Try.prog 43 #[.agg (m.cs v).toArray] h (fun u h' => u = .bool (decide m.right) ∧ h.quiet h') := by
  obtain ⟨a, c, rfl⟩ := hv.shape
  have hll := hv.len
  have hno : ¬ m.right → Value.bool false = Value.bool (decide m.right) := fun e => by rw [decide_eq_false e]
  have hyes : m.right → Value.bool true = Value.bool (decide m.right) := fun e => by rw [decide_eq_true e]
  refine spec_go mixed Try.func43 rfl Try.results43 (n := Try.f43.ntmps) (by kernel_rfl) (by simp) ?_
  simp only [go_sem, simprocAttr, cs_len, cs_one, cs_take, cs_put]
  have q0 : h.quiet (h.push (.cells (m.cs (.slice a m.load.length c)) .rw)) := .push _ _
  have g0 : (h.push (.cells (m.cs (.slice a m.load.length c)) .rw)).get h.next = .cells [.int .i64 m.fr, .int .i64 m.dst, .int .i64 m.kd, .int .i64 m.ep, .int .i64 m.sq, .int .i64 m.ak, .slice a m.load.length c] .rw := by simp [Msg.cs]
  have n0 : (h.push (.cells (m.cs (.slice a m.load.length c)) .rw)).next = h.next + 1 := by simp
  generalize h.push (.cells (m.cs (.slice a m.load.length c)) .rw) = k at q0 g0 n0
  simp only [go_sem, simprocAttr, g0, Msg.cs]
  have q1 : k.quiet (k.push (.cells [.int .i64 m.kd, .int .i64 m.ep, .int .i64 m.sq, .int .i64 m.ak] .rw)) := .push _ _
  have g1 : (k.push (.cells [.int .i64 m.kd, .int .i64 m.ep, .int .i64 m.sq, .int .i64 m.ak] .rw)).get k.next = .cells [.int .i64 m.kd, .int .i64 m.ep, .int .i64 m.sq, .int .i64 m.ak] .rw := by simp
  have g2 := (q1.2 h.next (by omega)).trans g0
  generalize k.push (.cells [.int .i64 m.kd, .int .i64 m.ep, .int .i64 m.sq, .int .i64 m.ak] .rw) = k1 at q1 g1 g2
  refine go_loop (fun z ρ k' => k' = k1 ∧ ∃ i : Nat, i ≤ 4 ∧ z = 4 - i ∧ (∀ j x, j < i → [m.kd, m.ep, m.sq, m.ak][j]? = some x → 0 ≤ x ∧ x ≤ 2147483648) ∧ ρ 1 = .pointer (some ⟨h.next, 0, none⟩) ∧ ρ 3 = .slice (some ⟨k.next, 0, none⟩) 4 4 ∧ ρ 4 = .int .i64 i) 4 ⟨rfl, 0, by omega, by omega, fun j x hj => by omega, by simp only [go_sem, simprocAttr]⟩ ?_
  rintro z ρ k' ⟨rfl, i, hi, rfl, hall, r1, r3, r4⟩
  simp only [go_sem, simprocAttr, r1, r3, r4]
  by_cases h4 : i < 4
  · have h4' : (i : Int) < 4 := by omega
    obtain ⟨x, hx⟩ : ∃ x, [m.kd, m.ep, m.sq, m.ak][i]? = some x := ⟨_, List.getElem?_eq_getElem (by simpa using h4)⟩
    have hx2 : ([.int .i64 m.kd, .int .i64 m.ep, .int .i64 m.sq, .int .i64 m.ak] : List Value)[i]? = some (.int .i64 x) := by
      have := congrArg (Option.map (Value.int .i64)) hx
      rw [← List.getElem?_map] at this
      exact this
    have hbad : ¬ (0 ≤ x ∧ x ≤ 2147483648) → ¬ m.right := fun e ⟨_, _, h3, h4, h5, h6, _⟩ => e (by
      have hm := List.mem_of_getElem? hx
      simp only [List.mem_cons, List.mem_nil_iff, or_false] at hm
      rcases hm with rfl | rfl | rfl | rfl
      · exact h3
      · exact h4
      · exact h5
      · exact h6)
    have e9 : IntKind.i64.wrap ((i : Int) + 1) = ((i + 1 : Nat) : Int) := by rw [wi64] <;> omega
    simp only [go_sem, simprocAttr, h4', h4, decide_true, g1, hx2, r1, r3, r4]
    by_cases c1 : x < 0
    · simp only [go_sem, simprocAttr, c1, decide_true]
      exact ⟨hno (hbad (by omega)), q0.trans q1⟩
    · by_cases c2 : 2147483648 < x
      · simp only [go_sem, simprocAttr, c1, c2, decide_true, decide_false, g1, hx2, r1, r3, r4, h4, h4']
        exact ⟨hno (hbad (by omega)), q0.trans q1⟩
      · simp only [go_sem, simprocAttr, c1, c2, decide_true, decide_false, g1, hx2, r1, r3, r4, h4, h4', e9]
        refine Hold.mk ⟨4 - (i + 1), by omega, rfl, i + 1, by omega, rfl, fun j y hj hy => ?_, by simp only [go_sem, simprocAttr, r1, r3]⟩
        rcases Nat.lt_or_eq_of_le (Nat.lt_succ_iff.1 hj) with hj | rfl
        · exact hall j y hj hy
        · obtain rfl : y = x := by rw [hx] at hy; cases hy; rfl
          omega
  · obtain rfl : i = 4 := by omega
    have b1 := hall 0 _ (by omega) rfl
    have b2 := hall 1 _ (by omega) rfl
    have b3 := hall 2 _ (by omega) rfl
    have b4 := hall 3 _ (by omega) rfl
    simp only [go_sem, simprocAttr, r1, r3, r4, g2]
    by_cases c1 : 0 ≤ m.fr
    · by_cases c2 : m.fr < 16
      · by_cases c3 : 0 ≤ m.dst
        · by_cases c4 : m.dst < 16
          · by_cases c5 : m.load.length ≤ 1200
            · have c5' : (m.load.length : Int) ≤ 1200 := by omega
              simp only [go_sem, simprocAttr, c1, c2, c3, c4, c5', decide_true, g2, r1]
              exact ⟨hyes ⟨⟨c1, by simp; omega⟩, ⟨c3, by simp; omega⟩, b1, b2, b3, b4, c5⟩, q0.trans q1⟩
            · have c5' : ¬ (m.load.length : Int) ≤ 1200 := by omega
              simp only [go_sem, simprocAttr, c1, c2, c3, c4, c5', decide_true, decide_false, g2, r1]
              exact ⟨hno fun e => c5 e.2.2.2.2.2.2, q0.trans q1⟩
          · simp only [go_sem, simprocAttr, c1, c2, c3, c4, decide_true, decide_false, g2, r1]
            exact ⟨hno fun e => c4 (by have := e.2.1.2; simp at this; omega), q0.trans q1⟩
        · simp only [go_sem, simprocAttr, c1, c2, c3, decide_true, decide_false, g2, r1]
          exact ⟨hno fun e => c3 e.2.1.1, q0.trans q1⟩
      · simp only [go_sem, simprocAttr, c1, c2, decide_true, decide_false, g2, r1]
        exact ⟨hno fun e => c2 (by have := e.1.2; simp at this; omega), q0.trans q1⟩
    · simp only [go_sem, simprocAttr, c1, decide_true, decide_false, g2, r1]
      exact ⟨hno fun e => c1 e.1.1, q0.trans q1⟩
theorem rPack_ok {m : Msg} (hv : Bytes S h m.load v) : Does Try.prog 24 #[.agg (m.cs v).toArray] h (fun u h' => h.quiet h' ∧ match packN m with
    | some x => ∃ w, u = .tuple #[w, .int .i64 0] ∧ Bytes (h.next ≤ ·) h' x w
    | none => u = .tuple #[.slice none 0 0, .int .i64 1]) := by
  obtain ⟨a, c, rfl⟩ := hv.shape
  have hll := hv.len
  refine spec_go mixed Try.func24 rfl Try.results24 (n := Try.f24.ntmps) (by kernel_rfl) (by simp) ?_
  simp only [go_sem, simprocAttr, cs_len, cs_one, cs_take, cs_put]
  have q0 : h.quiet (h.push (.cells (m.cs (.slice a m.load.length c)) .rw)) := .push _ _
  have g0 : (h.push (.cells (m.cs (.slice a m.load.length c)) .rw)).get h.next = .cells (m.cs (.slice a m.load.length c)) .rw := by simp
  have n0 : (h.push (.cells (m.cs (.slice a m.load.length c)) .rw)).next = h.next + 1 := by simp
  generalize h.push (.cells (m.cs (.slice a m.load.length c)) .rw) = k at q0 g0 n0
  refine cl_spec (rRight_ok (hv.quiet q0)) (fun u h' hp _ => hp.2) ?_
  rintro u k1 ⟨rfl, q1⟩
  have g1 := (q1.2 h.next (by omega)).trans g0
  by_cases hr : m.right
  · rw [show packN m = some (sealN m.encode) from if_pos hr]
    have w0 : ∀ i x, m.ns[i]? = some x → IntKind.u64.wrap x = ((x.toNat : Nat) : Int) ∧ x.toNat < 18446744073709551616 := fun i x hx => by
      have := (m.right_iff.1 hr).1 i x hx
      have h1 := this.1
      have h2 := this.2
      have h3 : x ≤ 2147483648 := by split at h2 <;> omega
      exact ⟨by rw [wu64] <;> omega, by omega⟩
    have w1 := (w0 0 _ rfl).1
    have w2 := (w0 1 _ rfl).1
    have w3 := (w0 2 _ rfl).1
    have w4 := (w0 3 _ rfl).1
    have w5 := (w0 4 _ rfl).1
    have w6 := (w0 5 _ rfl).1
    have hln := (m.right_iff.1 hr).2
    simp only [go_sem, simprocAttr, hr, decide_true, g1, Msg.cs, w1, w2, w3, w4, w5, w6]
    have q2 : k1.quiet (k1.push (.cells ((m.ns.map Int.toNat).map fun n => .int .u64 (n : Nat)) .rw)) := .push _ _
    have hw2 : Words (· = k1.next) (k1.push (.cells ((m.ns.map Int.toNat).map fun n => .int .u64 (n : Nat)) .rw)) (m.ns.map Int.toNat) (.slice (some ⟨k1.next, 0, none⟩) 6 6) := freshN (fun n hn => by
      obtain ⟨x, hx, rfl⟩ := List.mem_map.1 hn
      obtain ⟨i, hi⟩ := List.mem_iff_getElem?.1 hx
      have := (w0 i x hi).2
      rw [u64_max]; omega) (by simp [Msg.ns])
    change k1.quiet (k1.push (.cells [.int .u64 (m.fr.toNat : Nat), .int .u64 (m.dst.toNat : Nat), .int .u64 (m.kd.toNat : Nat), .int .u64 (m.ep.toNat : Nat), .int .u64 (m.sq.toNat : Nat), .int .u64 (m.ak.toNat : Nat)] .rw)) at q2
    change Words (· = k1.next) (k1.push (.cells [.int .u64 (m.fr.toNat : Nat), .int .u64 (m.dst.toNat : Nat), .int .u64 (m.kd.toNat : Nat), .int .u64 (m.ep.toNat : Nat), .int .u64 (m.sq.toNat : Nat), .int .u64 (m.ak.toNat : Nat)] .rw)) (m.ns.map Int.toNat) (.slice (some ⟨k1.next, 0, none⟩) 6 6) at hw2
    refine cl_spec (rPut_ok (S := fun _ => True) (.nil _ _ _) (hw2.weaken fun _ _ => trivial) (by simp [Msg.ns])) (fun _ _ _ hc => absurd hc (by decide +kernel)) ?_
    rintro u k3 ⟨q3, hl3⟩
    have g3 := ((q2.trans q3).2 h.next (AHeap.lt_of_alive k1 (by rw [g1]; simp))).trans g1
    simp only [List.nil_append] at hl3
    have hln3 : ((m.ns.map Int.toNat).flatMap (leB 8)).length = 48 := by rw [flat8]; rfl
    have hb3 := hl3.isSl (S := fun _ => True) (fun _ e _ => e.elim) (fun _ _ => trivial)
    obtain ⟨a3, c3, rfl⟩ := hb3.shape
    simp only [go_sem, simprocAttr, g3, Msg.cs]
    have q4 : k3.quiet (k3.push (.cells [.slice a m.load.length c] .rw)) := .push _ _
    have qq := (((q0.trans q1).trans q2).trans q3)
    refine cl_spec (rPart_ok (S := fun _ => True) (hb3.quiet q4) ((one' (hv.quiet qq)).weaken fun _ _ => trivial) (by rw [hln3, partsB_length]; simp; omega)) (fun _ _ _ hc => absurd hc (by decide +kernel)) ?_
    rintro u k5 ⟨q5, hb5⟩
    rw [show (m.ns.map Int.toNat).flatMap (leB 8) ++ partsB [m.load] = m.encode from rfl] at hb5
    have hel : m.encode.length ≤ 1300 := by
      show ((m.ns.map Int.toNat).flatMap (leB 8) ++ partsB [m.load]).length ≤ 1300
      rw [List.length_append, hln3, partsB_length]; simp; omega
    obtain ⟨a5, c5, rfl⟩ := hb5.shape
    simp only [go_sem, simprocAttr]
    refine cl_spec (rSeal_ok hb5 (by omega)) (fun _ _ _ hc => absurd hc (by decide +kernel)) ?_
    rintro u k6 ⟨q6, hb6⟩
    simp only [go_sem, simprocAttr]
    exact ⟨((qq.trans q4).trans q5).trans q6, u, rfl, hb6.weaken fun j hj => Nat.le_trans ((qq.trans q4).trans q5).1 hj⟩
  · rw [show packN m = none from if_neg hr]
    simp only [go_sem, simprocAttr, hr, decide_false]
    exact q0.trans q1
theorem stR_ok0 {s : RdS} (o : s.ok0) : ∀ i, (stR s i).ok0
  | 0 => o
  | i + 1 => (stR_ok0 o i).int _
theorem rUnpack_ok {b : List Nat} (hv : Bytes S h b v) (hn : b.length ≤ 549755813888) : Does Try.prog 25 #[v] h (fun u h' => h.quiet h' ∧ match unpackN b with
    | .ok m => ∃ w, u = .tuple #[.agg (m.cs w).toArray, .int .i64 0] ∧ Bytes (h.next ≤ ·) h' m.load w
    | .error e => u = .tuple #[.agg (Msg.zero.cs (.slice none 0 0)).toArray, .int .i64 e]) := by
  obtain ⟨a, c, rfl⟩ := hv.shape
  refine spec_go mixed Try.func25 rfl Try.results25 (n := Try.f25.ntmps) (by kernel_rfl) (by simp) ?_
  simp only [go_sem, simprocAttr]
  refine cl_spec (rOpen_ok (hv.quiet (.push _ _)) hn) (fun _ _ _ hc => absurd hc (by decide +kernel)) ?_
  rintro u k ⟨q, hp⟩
  have hq1 : h.quiet k := (AHeap.quiet.push _ _).trans q
  have hz := q.2 h.next (by simp)
  rw [AHeap.get_push_self] at hz
  unfold unpackN
  cases ho : openN b with
  | none =>
    rw [ho] at hp
    obtain rfl := hp
    simp only [go_sem, simprocAttr, hz]
    rw [AHeap.set_get hz (by simp), hz]
    simp only [go_sem, simprocAttr]
    exact ⟨hq1, rfl⟩
  | some x =>
    rw [ho] at hp
    obtain ⟨w, rfl, hx⟩ := hp
    obtain ⟨a2, c2, rfl⟩ := hx.shape
    have hxl := (openN_some ho).2
    have hhk : h.next < k.next := AHeap.lt_of_alive k (by rw [hz]; simp)
    simp only [go_sem, simprocAttr]
    have o0 : (⟨x, 0, 0, 0⟩ : RdS).ok0 := fun _ => rfl
    have qp : k.quiet (k.push (.cells [.slice a2 x.length c2, .int .i64 0, .int .i64 0, .int .i64 0] .rw)) := .push _ _
    have r0 : RdAt (fun j => h.next ≤ j ∧ j < k.next) (k.push (.cells [.slice a2 x.length c2, .int .i64 0, .int .i64 0, .int .i64 0] .rw)) k.next (.slice a2 x.length c2) ⟨x, 0, 0, 0⟩ :=
      ⟨by simp [rdc], (hx.mono fun j hj hl => ⟨⟨by simp at hj; omega, hl⟩, qp.2 j hl⟩), fun e => by omega, by simp⟩
    generalize k.push (.cells [.slice a2 x.length c2, .int .i64 0, .int .i64 0, .int .i64 0] .rw) = kb at r0 qp
    generalize hs0 : (⟨x, 0, 0, 0⟩ : RdS) = s0 at r0 o0
    have hkb := r0.lt
    refine cl_spec (rInt_ok (s := stR s0 0) r0 (stR_ok0 o0 0)) (fun _ _ _ hc => absurd hc (by decide +kernel)) ?_
    rintro u k1 ⟨rfl, r1, f1⟩
    simp only [go_sem, simprocAttr]
    refine cl_spec (rInt_ok (s := stR s0 1) r1 (stR_ok0 o0 1)) (fun _ _ _ hc => absurd hc (by decide +kernel)) ?_
    rintro u k2 ⟨rfl, r2, f2⟩
    simp only [go_sem, simprocAttr]
    refine cl_spec (rInt_ok (s := stR s0 2) r2 (stR_ok0 o0 2)) (fun _ _ _ hc => absurd hc (by decide +kernel)) ?_
    rintro u k3 ⟨rfl, r3, f3⟩
    simp only [go_sem, simprocAttr]
    refine cl_spec (rInt_ok (s := stR s0 3) r3 (stR_ok0 o0 3)) (fun _ _ _ hc => absurd hc (by decide +kernel)) ?_
    rintro u k4 ⟨rfl, r4, f4⟩
    simp only [go_sem, simprocAttr]
    refine cl_spec (rInt_ok (s := stR s0 4) r4 (stR_ok0 o0 4)) (fun _ _ _ hc => absurd hc (by decide +kernel)) ?_
    rintro u k5 ⟨rfl, r5, f5⟩
    simp only [go_sem, simprocAttr]
    refine cl_spec (rInt_ok (s := stR s0 5) r5 (stR_ok0 o0 5)) (fun _ _ _ hc => absurd hc (by decide +kernel)) ?_
    rintro u k6 ⟨rfl, r6, f6⟩
    replace r6 : RdAt (fun j => h.next ≤ j ∧ j < k.next) k6 k.next (.slice a2 x.length c2) (stR s0 6) := r6
    have F6 : Fw (· = k.next) kb k6 := ((((f1.trans f2 (fun _ _ e => e) (fun _ _ e => e)).trans f3 (fun _ _ e => e) (fun _ _ e => e)).trans f4 (fun _ _ e => e) (fun _ _ e => e)).trans f5 (fun _ _ e => e) (fun _ _ e => e)).trans f6 (fun _ _ e => e) (fun _ _ e => e)
    have hz6 := (F6.2 _ (Nat.lt_of_lt_of_le hhk qp.1) (by omega)).trans ((qp.2 _ hhk).trans hz)
    have xe : ∀ i, ((stR s0 i).int 2147483648).1 = xnR s0 i := fun _ => rfl
    simp only [go_sem, simprocAttr, xe]
    have qm : k6.quiet (k6.push (.cells [.int .i64 (xnR s0 0), .int .i64 (xnR s0 1), .int .i64 (xnR s0 2), .int .i64 (xnR s0 3), .int .i64 (xnR s0 4), .int .i64 (xnR s0 5), .slice none 0 0] .rw)) := .push _ _
    have gm : (k6.push (.cells [.int .i64 (xnR s0 0), .int .i64 (xnR s0 1), .int .i64 (xnR s0 2), .int .i64 (xnR s0 3), .int .i64 (xnR s0 4), .int .i64 (xnR s0 5), .slice none 0 0] .rw)).get k6.next = .cells [.int .i64 (xnR s0 0), .int .i64 (xnR s0 1), .int .i64 (xnR s0 2), .int .i64 (xnR s0 3), .int .i64 (xnR s0 4), .int .i64 (xnR s0 5), .slice none 0 0] .rw := by simp
    have hzm := (qm.2 _ (AHeap.lt_of_alive k6 (i := h.next) (by rw [hz6]; simp))).trans hz6
    have rm := r6.quiet qm
    generalize k6.push (.cells [.int .i64 (xnR s0 0), .int .i64 (xnR s0 1), .int .i64 (xnR s0 2), .int .i64 (xnR s0 3), .int .i64 (xnR s0 4), .int .i64 (xnR s0 5), .slice none 0 0] .rw) = km at qm gm hzm rm
    have hk6 : k.next < k6.next := r6.lt
    have hkm := AHeap.lt_of_alive km (i := k6.next) (by rw [gm]; simp)
    have hhm := AHeap.lt_of_alive km (i := h.next) (by rw [hzm]; simp)
    refine cl_spec (rPartR_ok rm (stR_ok0 o0 6) (fun j hj => by have := rm.lt; omega) (by have := rm.2.1.len.1; omega)) (fun _ _ _ hc => absurd hc (by decide +kernel)) ?_
    rintro lv k7 ⟨hlv, r7, f7⟩
    have gm7 := (f7.2 _ hkm (by omega)).trans gm
    have hn7 := AHeap.lt_of_alive k7 (i := k6.next) (by rw [gm7]; simp)
    obtain ⟨al, cv, rfl⟩ := hlv.shape
    simp only [go_sem, simprocAttr, gm7]
    have fs : Fw (· = k6.next) k7 (k7.set k6.next (.cells ((mOf s0).cs (.slice al (mOf s0).load.length cv)) .rw)) := .set _
    have gs : (k7.set k6.next (.cells ((mOf s0).cs (.slice al (mOf s0).load.length cv)) .rw)).get k6.next = .cells ((mOf s0).cs (.slice al (mOf s0).load.length cv)) .rw := AHeap.get_set_self _ _ hn7
    change cl _ _ _ _ _ _ _ _ _ _ (k7.set k6.next (.cells ((mOf s0).cs (.slice al (mOf s0).load.length cv)) .rw))
    have hlv8 : Bytes (fun j => km.next ≤ j) (k7.set k6.next (.cells ((mOf s0).cs (.slice al (mOf s0).load.length cv)) .rw)) (mOf s0).load (.slice al (mOf s0).load.length cv) := hlv.fr fs (fun j hj _ => by omega)
    have r8 : RdAt (fun j => h.next ≤ j ∧ j < k.next) (k7.set k6.next (.cells ((mOf s0).cs (.slice al (mOf s0).load.length cv)) .rw)) k.next (.slice a2 x.length c2) (stR s0 6).part.2 := ⟨(fs.2 _ r7.lt (by omega)).trans r7.1, r7.2.1.fr fs (fun j hj _ => by omega), r7.2.2⟩
    generalize k7.set k6.next (.cells ((mOf s0).cs (.slice al (mOf s0).load.length cv)) .rw) = k8 at fs gs hlv8 r8
    have o6 := (stR_ok0 o0 6).part
    refine cl_spec (rEnd_ok r8 o6) (fun _ _ _ hc => absurd hc (by decide +kernel)) ?_
    rintro u k9 ⟨rfl, r9, f9⟩
    have hn8 := AHeap.lt_of_alive k8 (i := k6.next) (by rw [gs]; simp)
    have gs9 := (f9.2 _ hn8 (by omega)).trans gs
    have hlv9 := hlv8.fr f9 (fun j hj _ => by have := qm.1; omega)
    have hn9 := AHeap.lt_of_alive k9 (i := k6.next) (by rw [gs9]; simp)
    have ofin := o6.fin
    have F9 : Fw (fun j => j = k.next ∨ j = k6.next) km k9 := (((f7.mono (V := fun j => j = k.next ∨ j = k6.next) (fun _ _ e => .inl e))).trans fs (fun _ _ e => e) (fun _ _ e => .inr e)).trans f9 (fun _ _ e => e) (fun _ _ e => .inl e)
    have q09 : h.quiet k9 := Fw.behind ((hq1.trans (Fw.behind qp F6 (fun j e => by omega))).trans qm) F9 (fun j e => by omega)
    have hz9 := (F9.2 _ hhm (by omega)).trans hzm
    have hn0 := AHeap.lt_of_alive k9 (i := h.next) (by rw [hz9]; simp)
    have hone : ((mOf s0).cs (.slice al (mOf s0).load.length cv)).all one = true := rfl
    have hlen : ((mOf s0).cs (.slice al (mOf s0).load.length cv)).length = 7 := rfl
    change RdAt _ k9 k.next _ (finR s0) at r9
    change (finR s0).ok0 at ofin
    have efin : (stR s0 6).part.2.fin = finR s0 := rfl
    by_cases hw : (finR s0).why = 0
    · have hf : (finR s0).why = 0 ∧ (finR s0).fat = 0 := ⟨hw, ofin hw⟩
      simp only [go_sem, simprocAttr, efin, hw, decide_true, decide_false, gs9, hlen, hone, List.take_of_length_le (Nat.le_of_eq hlen), List.drop_zero]
      refine cl_spec (rRight_ok hlv9) (fun u h' hp _ => hp.2) ?_
      rintro u k10 ⟨rfl, q10⟩
      have gs10 := (q10.2 _ hn9).trans gs9
      have hz10 := (q10.2 _ hn0).trans hz9
      have hn10 := AHeap.lt_of_alive k10 (i := h.next) (by rw [hz10]; simp)
      have hlv10 := hlv9.quiet q10
      have hqs : ∀ o, h.quiet (k10.set h.next o) := fun o => (q09.trans q10).set' (Nat.le_refl _) o
      by_cases hr : (mOf s0).right
      · have hput : putCells [.int .i64 0, .int .i64 0, .int .i64 0, .int .i64 0, .int .i64 0, .int .i64 0, .slice none 0 0] 0 ((mOf s0).cs (.slice al (mOf s0).load.length cv)) = (mOf s0).cs (.slice al (mOf s0).load.length cv) := rfl
        rw [if_pos ⟨hf.2, hr⟩]
        simp only [go_sem, simprocAttr, hr, decide_true, decide_false, gs10, hz10, hlen, hone, List.take_of_length_le (Nat.le_of_eq hlen), List.drop_zero, hput, AHeap.get_set_self _ _ hn10]
        exact ⟨hqs _, _, rfl, (hlv10.fr (W := (· = h.next)) (.set _) (fun j hj _ => by omega)).weaken (fun j hj => by have := qm.1; have := F6.1; have := qp.1; omega)⟩
      · rw [if_neg (fun e => hr e.2)]
        simp only [go_sem, simprocAttr, hr, decide_false, gs10, hz10, hlen, hone, AHeap.get_set_self _ _ hn10]
        exact ⟨hqs _, rfl⟩
    · have hqs : ∀ o, h.quiet (k9.set h.next o) := fun o => q09.set' (Nat.le_refl _) o
      rw [if_neg (fun e => hw e.1.1)]
      simp only [go_sem, simprocAttr, efin, hw, decide_true, decide_false, hz9, AHeap.get_set_self _ _ hn0]
      exact ⟨hqs _, rfl⟩
end
end Go.Proofs.Ytclfemiiibgfdaa
