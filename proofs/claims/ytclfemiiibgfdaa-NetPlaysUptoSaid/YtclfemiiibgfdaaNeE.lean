/- net: comparing and packing messages. -/
import Derived.Test.YtclfemiiibgfdaaNeD
set_option linter.unusedSimpArgs false
set_option linter.unusedVariables false
set_option linter.unnecessarySimpa false
set_option maxRecDepth 100000
namespace Go.Proofs.Ytclfemiiibgfdaa
open Go.AM

theorem Msg.ext' {m n : Msg} : m = n ↔ m.ns = n.ns ∧ m.load = n.load := by
  constructor
  · rintro rfl; exact ⟨rfl, rfl⟩
  · rintro ⟨h1, h2⟩
    cases m; cases n
    simp only [Msg.ns, List.cons.injEq, and_true] at h1 h2
    obtain ⟨rfl, rfl, rfl, rfl, rfl, rfl⟩ := h1
    subst h2; rfl
instance : DecidableEq Msg := fun m n => decidable_of_iff _ Msg.ext'.symm
def Msg.encode (m : Msg) : List Nat := (m.ns.map Int.toNat).flatMap (leB 8) ++ partsB [m.load]
def packN (m : Msg) : Option (List Nat) := if m.right then some (sealN m.encode) else none
section
variable {h : AHeap} {S S' Z : Nat → Prop} {v w : Value}
theorem nSame_ok {m n : Msg} (hv : Bytes S h m.load v) (hw : Bytes S h n.load w) : Does Try.prog 26 #[.agg (m.cs v).toArray, .agg (n.cs w).toArray] h (fun u h' => u = .bool (decide (m = n)) ∧ h.quiet h') := by
  obtain ⟨a, c, rfl⟩ := hv.shape
  obtain ⟨a2, c2, rfl⟩ := hw.shape
  have hext := @Msg.ext' m n
  have hget := fun i (hi : i < 6) => m.cs_get (v := .slice a m.load.length c) hi
  have h6 : (m.cs (.slice a m.load.length c))[6]? = some (.slice a m.load.length c) := rfl
  have hlen : (m.cs (.slice a m.load.length c)).length = 7 := rfl
  have hone : (m.cs (.slice a m.load.length c)).all one = true := rfl
  have hget2 := fun i (hi : i < 6) => n.cs_get (v := .slice a2 n.load.length c2) hi
  have h62 : (n.cs (.slice a2 n.load.length c2))[6]? = some (.slice a2 n.load.length c2) := rfl
  have hlen2 : (n.cs (.slice a2 n.load.length c2)).length = 7 := rfl
  have hone2 : (n.cs (.slice a2 n.load.length c2)).all one = true := rfl
  have hl1 : m.ns.length = 6 := rfl
  have hl2 : n.ns.length = 6 := rfl
  generalize m.cs (.slice a m.load.length c) = cs at hget h6 hlen hone
  generalize n.cs (.slice a2 n.load.length c2) = cs2 at hget2 h62 hlen2 hone2
  refine spec_go mixed Try.func26 rfl Try.results26 (n := Try.f26.ntmps) (by kernel_rfl) (by simp) ?_
  simp only [go_sem, simprocAttr, hlen, hone, hlen2, hone2]
  refine cl_spec numbers_ok (fun u h' hp _ => by rw [hp.2]; exact .push _ _) ?_
  rintro u k ⟨rfl, rfl⟩
  simp only [go_sem, simprocAttr]
  have hg1 : (((h.push (.cells cs .rw)).push (.cells cs2 .rw)).push (.cells (mptrs h.next) .rw)).get h.next = .cells cs .rw := by simp only [go_sem, simprocAttr]
  have hg2 : (((h.push (.cells cs .rw)).push (.cells cs2 .rw)).push (.cells (mptrs h.next) .rw)).get (h.next + 1) = .cells cs2 .rw := by simp only [go_sem, simprocAttr]
  have hg3 : (((h.push (.cells cs .rw)).push (.cells cs2 .rw)).push (.cells (mptrs h.next) .rw)).get (h.next + 2) = .cells (mptrs h.next) .rw := by simp only [go_sem, simprocAttr]
  have hq : h.quiet (((h.push (.cells cs .rw)).push (.cells cs2 .rw)).push (.cells (mptrs h.next) .rw)) := by simp only [go_sem, simprocAttr]
  generalize (((h.push (.cells cs .rw)).push (.cells cs2 .rw)).push (.cells (mptrs h.next) .rw)) = k at hg1 hg2 hg3 hq
  have hn1 := AHeap.lt_of_alive k (i := h.next) (by rw [hg1]; simp)
  have hn2 := AHeap.lt_of_alive k (i := h.next + 1) (by rw [hg2]; simp)
  have hn3 := AHeap.lt_of_alive k (i := h.next + 2) (by rw [hg3]; simp)
  refine go_loop (fun z ρ k' => ∃ i : Nat, i ≤ 6 ∧ z = 6 - i ∧ k.quiet k' ∧ m.ns.take i = n.ns.take i ∧ ρ 2 = .pointer (some ⟨h.next, 0, none⟩) ∧ ρ 3 = .pointer (some ⟨h.next + 1, 0, none⟩) ∧ ρ 7 = .slice (some ⟨h.next + 2, 0, none⟩) 6 6 ∧ ρ 8 = .int .i64 6 ∧ ρ 9 = .int .i64 i) 6 ⟨0, by omega, by omega, .refl _, rfl, by simp only [go_sem, simprocAttr]⟩ ?_
  rintro z ρ k' ⟨i, hi, rfl, q, ht, r2, r3, r7, r8, r9⟩
  have g1 := (q.2 _ hn1).trans hg1
  have g2 := (q.2 _ hn2).trans hg2
  have g3 := (q.2 _ hn3).trans hg3
  simp only [go_sem, simprocAttr, r2, r3, r7, r8, r9]
  refine cnd_decide (fun hy => ?_) (fun hy => ?_)
  · have h1 : i < 6 := by omega
    obtain ⟨x, hx, hcx⟩ := hget i h1
    obtain ⟨y, hyy, hcy⟩ := hget2 i h1
    have hp := mptrs_get (id := h.next) h1
    have hp2 := mptrs_get (id := h.next + 1) h1
    have e9 : IntKind.i64.wrap ((i : Int) + 1) = ((i + 1 : Nat) : Int) := by rw [wi64] <;> omega
    simp only [go_sem, simprocAttr, r2, r3, r7, r8, r9, hy, g3, hp, g1, hcx]
    refine cl_spec numbers_ok (fun u h' hp _ => by rw [hp.2]; exact .push _ _) ?_
    rintro u k2 ⟨rfl, rfl⟩
    have q2 : k'.quiet (k'.push (.cells (mptrs (h.next + 1)) .rw)) := .push _ _
    have f1 := (q2.2 _ (Nat.lt_of_lt_of_le hn1 q.1)).trans g1
    have f2 := (q2.2 _ (Nat.lt_of_lt_of_le hn2 q.1)).trans g2
    have f3 := (q2.2 _ (Nat.lt_of_lt_of_le hn3 q.1)).trans g3
    have f4 : (k'.push (.cells (mptrs (h.next + 1)) .rw)).get k'.next = .cells (mptrs (h.next + 1)) .rw := by simp
    generalize k'.push (.cells (mptrs (h.next + 1)) .rw) = k3 at q2 f1 f2 f3 f4
    obtain ⟨s1, s2⟩ := take_eq_step ht hx hyy
    by_cases e : x = y
    · simp only [go_sem, simprocAttr, r2, r3, r7, r8, r9, hy, f1, f2, f3, f4, hp, hp2, hcx, hcy, e, decide_true, e9]
      exact Hold.mk ⟨6 - (i + 1), by omega, i + 1, by omega, rfl, q.trans q2, s1 e, by simp only [go_sem, simprocAttr, r2, r3, r7, r8]⟩
    · have : (m = n) = False := eq_false fun e' => s2 e (hext.1 e').1
      simp only [go_sem, simprocAttr, r2, r3, r7, r8, r9, hy, f1, f2, f3, f4, hp, hp2, hcx, hcy, e, decide_false, e9, this]
      exact hq.trans (q.trans q2)
  · have : i = 6 := by omega
    subst this
    rw [List.take_of_length_le (by omega), List.take_of_length_le (by omega)] at ht
    have q3 := hq.trans q
    simp only [go_sem, simprocAttr, r2, r3, g1, g2, h6, h62]
    refine cl_spec (Equal_ok (hv.quiet q3) (hw.quiet q3)) (fun _ _ _ hc => absurd hc (by decide +kernel)) ?_
    rintro u k2 ⟨rfl, rfl⟩
    have : (m.load = n.load) = (m = n) := propext ⟨fun e => hext.2 ⟨ht, e⟩, fun e => (hext.1 e).2⟩
    simp only [go_sem, simprocAttr, this]
    exact q3
theorem rSame_ok {m n : Msg} (hv : Bytes S h m.load v) (hw : Bytes S h n.load w) : Does Try.prog 12 #[.agg (m.cs v).toArray, .agg (n.cs w).toArray] h (fun u h' => u = .bool (decide (m = n)) ∧ h.quiet h') := by
  obtain ⟨a, c, rfl⟩ := hv.shape
  obtain ⟨a2, c2, rfl⟩ := hw.shape
  have hext := @Msg.ext' m n
  have q : h.quiet ((h.push (.cells (m.cs (.slice a m.load.length c)) .rw)).push (.cells (n.cs (.slice a2 n.load.length c2)) .rw)) := by simp only [go_sem, simprocAttr]
  refine spec_go mixed Try.func12 rfl Try.results12 (n := Try.f12.ntmps) (by kernel_rfl) (by simp) ?_
  cases m with | mk m0 m1 m2 m3 m4 m5 ml =>
  cases n with | mk n0 n1 n2 n3 n4 n5 nl =>
  simp only [Msg.ns, List.cons.injEq, and_true] at hext
  dsimp only at hv hw q ⊢
  by_cases e0 : m0 = n0
  case neg => simp only [go_sem, simprocAttr, Msg.cs, e0, eq_self, decide_true, decide_false, eq_false fun e => e0 (hext.1 e).1.1]
  subst e0
  by_cases e1 : m1 = n1
  case neg => simp only [go_sem, simprocAttr, Msg.cs, e1, eq_self, decide_true, decide_false, eq_false fun e => e1 (hext.1 e).1.2.1]
  subst e1
  by_cases e2 : m2 = n2
  case neg => simp only [go_sem, simprocAttr, Msg.cs, e2, eq_self, decide_true, decide_false, eq_false fun e => e2 (hext.1 e).1.2.2.1]
  subst e2
  by_cases e3 : m3 = n3
  case neg => simp only [go_sem, simprocAttr, Msg.cs, e3, eq_self, decide_true, decide_false, eq_false fun e => e3 (hext.1 e).1.2.2.2.1]
  subst e3
  by_cases e4 : m4 = n4
  case neg => simp only [go_sem, simprocAttr, Msg.cs, e4, eq_self, decide_true, decide_false, eq_false fun e => e4 (hext.1 e).1.2.2.2.2.1]
  subst e4
  by_cases e5 : m5 = n5
  case neg => simp only [go_sem, simprocAttr, Msg.cs, e5, eq_self, decide_true, decide_false, eq_false fun e => e5 (hext.1 e).1.2.2.2.2.2]
  subst e5
  simp only [go_sem, simprocAttr, Msg.cs, eq_self, decide_true]
  refine cl_spec (same_ok (hv.quiet q) (hw.quiet q)) (fun _ _ _ hc => absurd hc (by decide +kernel)) ?_
  rintro u k2 ⟨rfl, rfl⟩
  have : (ml = nl) = (Msg.mk m0 m1 m2 m3 m4 m5 ml = Msg.mk m0 m1 m2 m3 m4 m5 nl) := propext ⟨fun e => hext.2 ⟨⟨rfl, rfl, rfl, rfl, rfl, rfl⟩, e⟩, fun e => (hext.1 e).2⟩
  simp only [go_sem, simprocAttr, Msg.cs, eq_self, decide_true, this]
/-- The first numbers, put. -/
def Msg.fst (m : Msg) (i : Nat) : List Nat := ((m.ns.take i).map Int.toNat).flatMap (leB 8)
theorem Msg.fst_succ {m : Msg} {i : Nat} {x : Int} (hx : m.ns[i]? = some x) : m.fst (i + 1) = m.fst i ++ leB 8 x.toNat := by
  unfold Msg.fst
  rw [List.take_add_one, hx]
  simp
theorem Msg.fst_len {m : Msg} {i : Nat} (hi : i ≤ 6) : (m.fst i).length = 8 * i := by
  unfold Msg.fst
  rw [flat8, List.length_map, List.length_take, show m.ns.length = 6 from rfl, Nat.min_eq_left hi]
theorem Msg.fst_end (m : Msg) : m.fst 6 ++ partsB [m.load] = m.encode := rfl
theorem Pack_ok {m : Msg} (hv : Bytes S h m.load v) : Does Try.prog 9 #[.agg (m.cs v).toArray] h (fun u h' => h.quiet h' ∧ match packN m with
    | some b => ∃ w, u = .tuple #[w, .int .i64 0] ∧ Bytes (h.next ≤ ·) h' b w
    | none => u = .tuple #[.slice none 0 0, .int .i64 1]) := by
  obtain ⟨a, c, rfl⟩ := hv.shape
  have hvl := hv.len
  have hri := m.right_iff
  have hget := fun i (hi : i < 6) => m.cs_get (v := .slice a m.load.length c) hi
  have h6 : (m.cs (.slice a m.load.length c))[6]? = some (.slice a m.load.length c) := rfl
  have hlen : (m.cs (.slice a m.load.length c)).length = 7 := rfl
  have hone : (m.cs (.slice a m.load.length c)).all one = true := rfl
  have hR := fun (h : AHeap) (q : Bytes S h m.load (.slice a m.load.length c)) => right_ok q
  generalize m.cs (.slice a m.load.length c) = cs at hget h6 hlen hone hR
  refine spec_go mixed Try.func9 rfl Try.results9 (n := Try.f9.ntmps) (by kernel_rfl) (by simp) ?_
  simp only [go_sem, simprocAttr, hlen, hone, List.take_of_length_le (Nat.le_of_eq hlen)]
  refine cl_spec (hR _ (hv.quiet (.push _ _))) (fun _ _ _ hc => absurd hc (by decide +kernel)) ?_
  rintro u k ⟨rfl, q1⟩
  have hq1 : h.quiet k := (AHeap.quiet.push _ _).trans q1
  have hg1 : k.get h.next = .cells cs .rw := by rw [q1.2 _ (by simp)]; simp
  by_cases hr : m.right
  · rw [show packN m = some (sealN m.encode) from if_pos hr]
    simp only [go_sem, simprocAttr, hr, decide_true]
    have hn1 := AHeap.lt_of_alive k (i := h.next) (by rw [hg1]; simp)
    refine cl_spec numbers_ok (fun u h' hp _ => by rw [hp.2]; exact .push _ _) ?_
    rintro u k1 ⟨rfl, rfl⟩
    simp only [go_sem, simprocAttr]
    have e1 : ((k.push (.cells [.slice none 0 0] .rw)).push (.cells (mptrs h.next) .rw)).get k.next = .cells [.slice none 0 0] .rw := by simp only [go_sem, simprocAttr]
    have e2 : ((k.push (.cells [.slice none 0 0] .rw)).push (.cells (mptrs h.next) .rw)).get (k.next + 1) = .cells (mptrs h.next) .rw := by simp only [go_sem, simprocAttr]
    have e3 : k.quiet ((k.push (.cells [.slice none 0 0] .rw)).push (.cells (mptrs h.next) .rw)) := by simp only [go_sem, simprocAttr]
    generalize (k.push (.cells [.slice none 0 0] .rw)).push (.cells (mptrs h.next) .rw) = kb at e1 e2 e3
    have hb1 := AHeap.lt_of_alive kb (i := k.next) (by rw [e1]; simp)
    have hb2 := AHeap.lt_of_alive kb (i := k.next + 1) (by rw [e2]; simp)
    have e0 := (e3.2 _ hn1).trans hg1
    have hb0 := AHeap.lt_of_alive kb (i := h.next) (by rw [e0]; simp)
    have hq0 : h.quiet kb := hq1.trans e3
    have n01 : h.next ≠ k.next := by omega
    refine go_loop (fun z ρ k' => ∃ (i : Nat) (u : Value), i ≤ 6 ∧ z = 6 - i ∧ Fw (· = k.next) kb k' ∧ WrAt kb.next k' k.next u (m.fst i) ∧ ρ 1 = .pointer (some ⟨h.next, 0, none⟩) ∧ ρ 4 = .pointer (some ⟨k.next, 0, none⟩) ∧ ρ 10 = .slice (some ⟨k.next + 1, 0, none⟩) 6 6 ∧ ρ 11 = .int .i64 6 ∧ ρ 12 = .int .i64 i) 6 ⟨0, .slice none 0 0, by omega, by omega, .refl _ _, ⟨e1, .nil _ _ _ _, by simp⟩, by simp only [go_sem, simprocAttr]⟩ ?_
    rintro z ρ k' ⟨i, u, hi, rfl, f, hW, r1, r4, r10, r11, r12⟩
    have g0 := (f.2 _ hb0 n01).trans e0
    have g2 := (f.2 _ hb2 (by omega)).trans e2
    simp only [go_sem, simprocAttr, r1, r4, r10, r11, r12]
    refine cnd_decide (fun hy => ?_) (fun hy => ?_)
    · have h1 : i < 6 := by omega
      obtain ⟨x, hx, hcx⟩ := hget i h1
      have hox := (hri.1 hr).1 i x hx
      have hx8 : 0 ≤ x ∧ x ≤ 2147483648 := by unfold okN at hox; split at hox <;> omega
      have hp := mptrs_get (id := h.next) h1
      have e9 : IntKind.i64.wrap ((i : Int) + 1) = ((i + 1 : Nat) : Int) := by rw [wi64] <;> omega
      have e8 : IntKind.u64.wrap x = ((x.toNat : Nat) : Int) := by rw [wu64] <;> omega
      simp only [go_sem, simprocAttr, r1, r4, r10, r11, r12, hy, g2, hp, g0, hcx, e8]
      have qp : k'.quiet (k'.push (.cells [.int .u64 (x.toNat : Nat)] .rw)) := .push _ _
      have hWlt := hW.lt
      refine cl_spec (Put_ok (hW.quiet qp) (by have := f.1; simp; omega) (IsSl.fresh1 (h := k') (x := x.toNat) (md := .rw) (by rw [u64_max]; omega)) (fun j hj _ => ⟨by omega, fun e => by have := (hW.2.1.blk_ge e).2; omega⟩) (by rw [Msg.fst_len hi]; simp; omega)) (fun _ _ _ hc => absurd hc (by decide +kernel)) ?_
      rintro w' k2 ⟨rfl, u2, hW2, f2, n2⟩
      rw [show [x.toNat].flatMap (leB 8) = leB 8 x.toNat by simp, ← Msg.fst_succ hx] at hW2
      have f3 : Fw (· = k.next) kb k2 := (f.then qp).trans f2 (fun j _ e => e) (fun j hj e => e.elim id (fun e => by have := (hW.2.1.blk_ge e).1; omega))
      simp only [go_sem, simprocAttr, r1, r4, r10, r11, r12, hy, e9]
      exact Hold.mk ⟨6 - (i + 1), by omega, i + 1, u2, by omega, rfl, f3, hW2, by simp only [go_sem, simprocAttr, r1, r4, r10, r11]⟩
    · have : i = 6 := by omega
      subst this
      have hqf : h.quiet k' := Fw.behind hq0 f (fun j e => by omega)
      simp only [go_sem, simprocAttr, r1, r4, g0, h6]
      have qp : k'.quiet (k'.push (.cells [.slice a m.load.length c] .rw)) := .push _ _
      have hWlt := hW.lt
      have hml := (hri.1 hr).2
      refine cl_spec (Part_ok (hW.quiet qp) (by have := f.1; simp; omega) (one' (md := .rw) ((hv.bound).quiet hqf)) (fun j hj hjn => ?_) (by rw [Msg.fst_len (Nat.le_refl _), partsB_length]; simp; omega)) (fun _ _ _ hc => absurd hc (by decide +kernel)) ?_
      · rcases hj with ⟨_, hj⟩ | hj
        · exact ⟨by have := hq1.1; omega, fun e => by have := (hW.2.1.blk_ge e).1; have := hq0.1; omega⟩
        · exact ⟨by omega, fun e => by have := (hW.2.1.blk_ge e).2; omega⟩
      rintro w' k2 ⟨rfl, u2, hW2, f2, n2⟩
      rw [Msg.fst_end] at hW2
      have f3 : Fw (· = k.next) kb k2 := (f.then qp).trans f2 (fun j _ e => e) (fun j hj e => e.elim id (fun e => by have := (hW.2.1.blk_ge e).1; omega))
      have hqf2 : h.quiet k2 := Fw.behind hq0 f3 (fun j e => by have := hq1.1; omega)
      have hel : m.encode.length ≤ 1300 := by rw [← Msg.fst_end, List.length_append, Msg.fst_len (Nat.le_refl _), partsB_length]; simp; omega
      simp only [go_sem, simprocAttr, r1, r4]
      refine cl_spec (Bytes_ok hW2 (by omega)) (fun _ _ _ hc => absurd hc (by decide +kernel)) ?_
      rintro w' k3 ⟨q3, hs3⟩
      simp only [go_sem, simprocAttr]
      refine cl_spec (Seal_ok hs3 (by omega)) (fun _ _ _ hc => absurd hc (by decide +kernel)) ?_
      rintro w'' k4 ⟨q4, hs4⟩
      simp only [go_sem, simprocAttr]
      exact ⟨hqf2.trans (q3.trans q4), w'', rfl, hs4.weaken fun j hj => Nat.le_trans (hqf2.trans q3).1 hj⟩
  · rw [show packN m = none from if_neg hr]
    simp only [go_sem, simprocAttr, hr, decide_false]
    exact hq1
end
end Go.Proofs.Ytclfemiiibgfdaa
