/- cow: lists of extents that may be: the program's package of them. -/
import Derived.Test.YtfdbadpiklmbaaaCoE
set_option linter.unusedSimpArgs false
set_option linter.unusedVariables false
set_option linter.unnecessarySimpa false
set_option maxRecDepth 100000
namespace Go.Proofs.Ytfdbadpiklmbaaa
open Go.AM

def Blks (off n : Int) : Prop := 0 ≤ off ∧ 1 ≤ n ∧ off + n ≤ 1024
instance (a b : Int) : Decidable (Blks a b) := inferInstanceAs (Decidable (_ ∧ _))
instance (x : Ext) : Decidable x.ok := inferInstanceAs (Decidable (_ ∧ _))
/-- A list, from some block on. -/
def Lis : Int → List Ext → Prop
  | _, [] => True
  | z, x :: l => x.ok ∧ z ≤ x.off ∧ Lis (x.off + x.len) l
def Adj : List Ext → Prop
  | [] => True
  | [_] => True
  | x :: y :: l => ¬ x.meets y ∧ Adj (y :: l)
def RightL (l : List Ext) : Prop := l.length ≤ 1024 ∧ Lis 0 l ∧ Adj l

theorem IsSl.atX {S : Nat → Prop} {h : AHeap} {xs : List Ext} {a : Option Addr} {n cap : Nat} (hs : IsSl rExt S h xs (.slice a n cap)) {i : Nat} (hi : i < n) :
    ∃ b off sp c md x, a = some ⟨b, off, sp⟩ ∧ S b ∧ h.get b = .cells c md ∧ xs[i]? = some x ∧ x.inI ∧ off + i * 4 + 4 ≤ c.length ∧ (c.drop (off + i * 4)).take 4 = x.cs := by
  obtain ⟨b, off, sp, c, md, cs, x, h1, h2, h3, h4, h5, h6, h7⟩ := hs.at 4 rfl hi
  obtain ⟨rfl, h8⟩ := rExt_iff.1 h5
  exact ⟨b, off, sp, c, md, x, h1, h2, h3, h4, h8, h6, h7⟩

theorem ans_no {P : Prop} (h : ¬ P) : ∃ b : Bool, Value.bool false = .bool b ∧ (b = true ↔ P) := ⟨false, rfl, by simp [h]⟩
theorem ans_yes {P : Prop} (h : P) : ∃ b : Bool, Value.bool true = .bool b ∧ (b = true ↔ P) := ⟨true, rfl, by simp [h]⟩
section
variable {h h0 : AHeap} {S S' Z : Nat → Prop}
theorem blocks_ok {off n : Int} (hn : inI n) (ho : inI off) : Does Try.prog 62 #[.int .i64 off, .int .i64 n] h (fun u h' => u = .bool (decide (Blks off n)) ∧ h' = h) := by
  refine spec_go mixed Try.func62 rfl Try.results62 (n := Try.f62.ntmps) (by kernel_rfl) (by simp) ?_
  unfold inI at *
  by_cases c1 : 0 ≤ off
  · by_cases c2 : off < 1024
    · have e1 : IntKind.i64.wrap (1024 - off) = 1024 - off := by rw [wi64] <;> omega
      by_cases c3 : 1 ≤ n
      · by_cases c4 : n ≤ 1024 - off
        · simp only [go_sem, simprocAttr, decide_eq_true c1, decide_eq_true c2, decide_eq_true c3, e1, decide_eq_true c4]
          exact congrArg Value.bool (decide_eq_true (by unfold Blks; omega)).symm
        · simp only [go_sem, simprocAttr, decide_eq_true c1, decide_eq_true c2, decide_eq_true c3, e1, decide_eq_false c4]
          exact congrArg Value.bool (decide_eq_false (by unfold Blks; omega)).symm
      · simp only [go_sem, simprocAttr, decide_eq_true c1, decide_eq_true c2, decide_eq_false c3]
        exact congrArg Value.bool (decide_eq_false (by unfold Blks; omega)).symm
    · simp only [go_sem, simprocAttr, decide_eq_true c1, decide_eq_false c2]
      exact congrArg Value.bool (decide_eq_false (by unfold Blks; omega)).symm
  · simp only [go_sem, simprocAttr, decide_eq_false c1]
    exact congrArg Value.bool (decide_eq_false (by unfold Blks; omega)).symm
theorem may_ok {x : Ext} (hx : x.inI) : Does Try.prog 65 #[x.ag] h (fun u h' => u = .bool (decide x.ok) ∧ h.quiet h') := by
  obtain ⟨x1, x2, x3, x4⟩ := hx
  refine spec_go mixed Try.func65 rfl Try.results65 (n := Try.f65.ntmps) (by kernel_rfl) (by simp) ?_
  simp only [go_sem, simprocAttr, Ext.ag]
  refine cl_spec (blocks_ok x2 x1) (fun _ _ _ hc => absurd hc (by decide +kernel)) ?_
  rintro u k ⟨rfl, hk⟩
  obtain rfl : _ = k := hk.symm
  by_cases c0 : Blks x.off x.len
  · have c0' := c0
    unfold Blks at c0'
    have e1 : IntKind.i64.wrap (1099511627776 - x.len) = 1099511627776 - x.len := by rw [wi64] <;> omega
    by_cases c1 : 0 ≤ x.phys
    · by_cases c2 : x.phys ≤ 1099511627776 - x.len
      · by_cases c3 : 0 ≤ x.birth
        · by_cases c4 : x.birth ≤ 1099511627776
          · simp only [go_sem, simprocAttr, decide_eq_true c0, decide_eq_true c1, e1, decide_eq_true c2, decide_eq_true c3, decide_eq_true c4]
            exact congrArg Value.bool (decide_eq_true (by unfold Ext.ok; omega)).symm
          · simp only [go_sem, simprocAttr, decide_eq_true c0, decide_eq_true c1, e1, decide_eq_true c2, decide_eq_true c3, decide_eq_false c4]
            exact congrArg Value.bool (decide_eq_false (by unfold Ext.ok; omega)).symm
        · simp only [go_sem, simprocAttr, decide_eq_true c0, decide_eq_true c1, e1, decide_eq_true c2, decide_eq_false c3]
          exact congrArg Value.bool (decide_eq_false (by unfold Ext.ok; omega)).symm
      · simp only [go_sem, simprocAttr, decide_eq_true c0, decide_eq_true c1, e1, decide_eq_false c2]
        exact congrArg Value.bool (decide_eq_false (by unfold Ext.ok; omega)).symm
    · simp only [go_sem, simprocAttr, decide_eq_true c0, decide_eq_false c1]
      exact congrArg Value.bool (decide_eq_false (by unfold Ext.ok; omega)).symm
  · simp only [go_sem, simprocAttr, decide_eq_false c0]
    exact congrArg Value.bool (decide_eq_false (by unfold Ext.ok; unfold Blks at c0; omega)).symm
theorem end_ok {x : Ext} (hx : x.ok) : Does Try.prog 66 #[x.ag] h (fun u h' => u = .int .i64 (x.off + x.len) ∧ h.quiet h') := by
  unfold Ext.ok at hx
  have e1 : IntKind.i64.wrap (x.off + x.len) = x.off + x.len := by rw [wi64] <;> omega
  refine spec_go mixed Try.func66 rfl Try.results66 (n := Try.f66.ntmps) (by kernel_rfl) (by simp) ?_
  simp only [go_sem, simprocAttr, Ext.ag, e1]
theorem emeets_ok {a b : Ext} (ha : a.ok) (hb : b.ok) : Does Try.prog 51 #[a.ag, b.ag] h (fun u h' => u = .bool (decide (a.meets b)) ∧ h.quiet h') := by
  have ha' := ha
  have hb' := hb
  unfold Ext.ok at ha' hb'
  have e2 : IntKind.i64.wrap (a.phys + a.len) = a.phys + a.len := by rw [wi64] <;> omega
  refine spec_go mixed Try.func51 rfl Try.results51 (n := Try.f51.ntmps) (by kernel_rfl) (by simp) ?_
  simp only [go_sem, simprocAttr, Ext.ag]
  refine cl_gen fun k1 e1 => ?_
  have q1 : h.quiet k1 := by rw [e1]; simp only [go_sem, simprocAttr]
  have ga : k1.get h.next = .cells a.cs .rw := by rw [e1]; simp only [go_sem, simprocAttr, Ext.cs]
  have gb : k1.get (h.next + 1) = .cells b.cs .rw := by rw [e1]; simp only [go_sem, simprocAttr, Ext.cs]
  have n1 : k1.next = h.next + 2 := by rw [e1]; simp
  clear e1
  refine cl_spec (end_ok ha) (fun u h' hp _ => hp.2) ?_
  rintro u k ⟨rfl, qk⟩
  have ga := (qk.2 _ (by omega)).trans ga
  have gb := (qk.2 _ (by omega)).trans gb
  unfold Ext.cs at ga gb
  by_cases c1 : a.off + a.len = b.off
  · have c1' : (a.off + a.len = b.off) = True := eq_true c1
    by_cases c2 : a.phys + a.len = b.phys
    · have c2' : (a.phys + a.len = b.phys) = True := eq_true c2
      by_cases c3 : a.birth = b.birth
      · have c3' : (a.birth = b.birth) = True := eq_true c3
        simp only [go_sem, simprocAttr, ga, gb, e2, c1', c2', c3']
        exact ⟨congrArg Value.bool (decide_eq_true ⟨c1, c2, c3⟩).symm, q1.trans qk⟩
      · have c3' : (a.birth = b.birth) = False := eq_false c3
        simp only [go_sem, simprocAttr, ga, gb, e2, c1', c2', c3']
        exact ⟨congrArg Value.bool (decide_eq_false (fun e => c3 e.2.2)).symm, q1.trans qk⟩
    · have c2' : (a.phys + a.len = b.phys) = False := eq_false c2
      simp only [go_sem, simprocAttr, ga, gb, e2, c1', c2']
      exact ⟨congrArg Value.bool (decide_eq_false (fun e => c2 e.2.1)).symm, q1.trans qk⟩
  · have c1' : (a.off + a.len = b.off) = False := eq_false c1
    simp only [go_sem, simprocAttr, ga, gb, c1']
    exact ⟨congrArg Value.bool (decide_eq_false (fun e => c1 e.1)).symm, q1.trans qk⟩

theorem isList_ok {xs : List Ext} {v : Value} (hx : IsSl rExt S h xs v) : Does Try.prog 50 #[v] h (fun u h' => (∃ b : Bool, u = .bool b ∧ (b = true ↔ Lis 0 xs)) ∧ h.quiet h') := by
  obtain ⟨a, c, rfl⟩ := hx.shape
  have hlen := hx.len
  refine spec_go mixed Try.func50 rfl Try.results50 (n := Try.f50.ntmps) (by kernel_rfl) (by simp) ?_
  simp only [go_sem, simprocAttr]
  refine go_loop (fun z ρ k => ∃ (i : Nat) (la : Int), i ≤ xs.length ∧ z = xs.length - i ∧ h.quiet k ∧ (Lis 0 xs ↔ Lis la (xs.drop i)) ∧ ρ 3 = .int .i64 la ∧ ρ 6 = .slice a xs.length c ∧ ρ 7 = .int .i64 xs.length ∧ ρ 8 = .int .i64 i) xs.length ⟨0, 0, by omega, by omega, .refl _, by simp, by simp only [go_sem, simprocAttr]⟩ ?_
  rintro z ρ k ⟨i, la, hi, rfl, q, hiff, r3, r6, r7, r8⟩
  simp only [go_sem, simprocAttr, r3, r6, r7, r8]
  refine cnd_decide (fun hy => ?_) (fun hy => ?_)
  · have h1 : i < xs.length := by omega
    have e9 : IntKind.i64.wrap ((i : Int) + 1) = ((i + 1 : Nat) : Int) := by rw [wi64] <;> omega
    obtain ⟨b, off, sp, cc, md, x, rfl, _, hg, hxi, hxx, hle, hdt⟩ := IsSl.atX (hx.quiet q) h1
    have hdr : xs.drop i = x :: xs.drop (i + 1) := drop_cons hxi
    rw [hdr] at hiff
    unfold Ext.cs at hdt
    simp only [go_sem, simprocAttr, r3, r6, r7, r8, hg, hle, hdt, h1]
    refine cl_gen fun k1 e1 => ?_
    have q1 : k.quiet k1 := by rw [e1]; simp only [go_sem, simprocAttr]
    have g1 : k1.get k.next = .cells x.cs .rw := by rw [e1]; simp only [go_sem, simprocAttr, Ext.cs]
    have n1 : k1.next = k.next + 1 := by rw [e1]; simp
    clear e1
    refine cl_spec (may_ok hxx) (fun _ _ _ hc => absurd hc (by decide +kernel)) ?_
    rintro u k2 ⟨rfl, q2⟩
    have g2 := (q2.2 _ (by omega)).trans g1
    have Q2 := q.trans (q1.trans q2)
    by_cases c1 : x.ok
    · by_cases c2 : x.off < la
      · simp only [go_sem, simprocAttr, decide_eq_true c1, g2, Ext.cs, r3, decide_eq_true c2]
        exact ⟨ans_no fun e => (by have := (hiff.1 e).2.1; omega), Q2⟩
      · simp only [go_sem, simprocAttr, decide_eq_true c1, g2, Ext.cs, r3, decide_eq_false c2]
        refine cl_spec (end_ok c1) (fun _ _ _ hc => absurd hc (by decide +kernel)) ?_
        rintro u k3 ⟨rfl, q3⟩
        simp only [go_sem, simprocAttr, r8, e9]
        refine Hold.mk ⟨xs.length - (i + 1), by omega, i + 1, x.off + x.len, by omega, rfl, Q2.trans q3, hiff.trans ⟨fun e => e.2.2, fun e => ⟨c1, by omega, e⟩⟩, by simp only [go_sem, simprocAttr, r6, r7]⟩
    · simp only [go_sem, simprocAttr, decide_eq_false c1]
      exact ⟨ans_no fun e => c1 (hiff.1 e).1, Q2⟩
  · simp only [go_sem, simprocAttr]
    have hi' : i = xs.length := by omega
    rw [hi', List.drop_eq_nil_of_le (Nat.le_refl _)] at hiff
    exact ⟨ans_yes (hiff.2 trivial), q⟩
theorem Lis.oks : ∀ {l : List Ext} {z : Int}, Lis z l → ∀ x ∈ l, x.ok
  | [], _, _, x, hx => by cases hx
  | y :: l, _, h, x, hx => by
    rcases List.mem_cons.1 hx with rfl | hx
    · exact h.1
    · exact h.2.2.oks x hx
theorem RightL.oks {l : List Ext} (h : RightL l) : ∀ x ∈ l, x.ok := h.2.1.oks
theorem Right_ok {xs : List Ext} {v : Value} (hx : IsSl rExt S h xs v) : Does Try.prog 30 #[v] h (fun u h' => (∃ b : Bool, u = .bool b ∧ (b = true ↔ RightL xs)) ∧ h.quiet h') := by
  obtain ⟨a, c, rfl⟩ := hx.shape
  have hlen := hx.len
  refine spec_go mixed Try.func30 rfl Try.results30 (n := Try.f30.ntmps) (by kernel_rfl) (by simp) ?_
  by_cases c1 : 1024 < xs.length
  · have c1' : (1024 : Int) < xs.length := by omega
    simp only [go_sem, simprocAttr, decide_eq_true c1']
    exact ans_no fun e => by have := e.1; omega
  have c1' : ¬ (1024 : Int) < xs.length := by omega
  simp only [go_sem, simprocAttr, decide_eq_false c1']
  refine cl_spec (isList_ok hx) (fun _ _ _ hc => absurd hc (by decide +kernel)) ?_
  rintro u k ⟨⟨b, rfl, hb⟩, q⟩
  cases b with
  | false =>
    simp only [go_sem, simprocAttr]
    exact ⟨ans_no fun e => by (have := hb.2 e.2.1; cases this), q⟩
  | true =>
    have hL := hb.1 rfl
    obtain ⟨a1, c2, s1, i1⟩ := hx.slice 4 rfl (show min 1 xs.length ≤ xs.length by omega) (Nat.le_refl xs.length)
    have hm : min 1 (xs.length : Int) = ((min 1 xs.length : Nat) : Int) := by omega
    simp only [go_sem, simprocAttr, hm, s1]
    refine go_loop (fun z ρ k => ∃ (i : Nat), i ≤ xs.length - min 1 xs.length ∧ z = xs.length - i ∧ h.quiet k ∧ (Adj xs ↔ Adj (xs.drop i)) ∧ ρ 0 = .slice a xs.length c ∧ ρ 17 = .int .i64 ((xs.length - min 1 xs.length : Nat) : Int) ∧ ρ 18 = .int .i64 i) xs.length ⟨0, by omega, by omega, q, by simp, by simp only [go_sem, simprocAttr]⟩ ?_
    rintro z ρ k ⟨i, hi, rfl, q, hiff, r0, r17, r18⟩
    simp only [go_sem, simprocAttr, r0, r17, r18]
    refine cnd_decide (fun hy => ?_) (fun hy => ?_)
    · have h1 : i < xs.length := by omega
      have h2 : i + 1 < xs.length := by omega
      have e9 : IntKind.i64.wrap ((i : Int) + 1) = ((i + 1 : Nat) : Int) := by rw [wi64] <;> omega
      obtain ⟨b, off, sp, cc, md, x, hA, _, hg, hxi, hxx, hle, hdt⟩ := IsSl.atX (hx.quiet q) h1
      obtain ⟨b2, off2, sp2, cc2, md2, y, hA2, _, hg2, hyi, hyy, hle2, hdt2⟩ := IsSl.atX (hx.quiet q) h2
      rw [hA] at hA2
      cases hA2
      rw [hg] at hg2
      cases hg2
      have hdr : xs.drop i = x :: y :: xs.drop (i + 2) := by rw [drop_cons hxi, drop_cons hyi]
      have hdr1 : xs.drop (i + 1) = y :: xs.drop (i + 2) := drop_cons hyi
      rw [hdr] at hiff
      unfold Ext.cs at hdt hdt2
      simp only [go_sem, simprocAttr, r0, r17, r18, hA, hg, hle, hdt, h1, e9, h2, hle2, hdt2]
      refine cl_spec (emeets_ok (hL.oks x (List.mem_of_getElem? hxi)) (hL.oks y (List.mem_of_getElem? hyi))) (fun _ _ _ hc => absurd hc (by decide +kernel)) ?_
      rintro u k2 ⟨rfl, q2⟩
      by_cases cm : x.meets y
      · simp only [go_sem, simprocAttr, decide_eq_true cm]
        exact ⟨ans_no fun e => (hiff.1 e.2.2).1 cm, q.trans q2⟩
      · simp only [go_sem, simprocAttr, decide_eq_false cm, r18, e9]
        refine Hold.mk ⟨xs.length - (i + 1), by omega, i + 1, by omega, rfl, q.trans q2, ?_, by simp only [go_sem, simprocAttr, r0, r17, hA]⟩
        rw [hdr1]
        exact hiff.trans ⟨fun e => e.2, fun e => ⟨cm, e⟩⟩
    · simp only [go_sem, simprocAttr]
      have : Adj (xs.drop i) := by
        have hl : (xs.drop i).length ≤ 1 := by rw [List.length_drop]; omega
        match xs.drop i, hl with
        | [], _ => trivial
        | [_], _ => trivial
      exact ⟨ans_yes ⟨by omega, hL, hiff.2 this⟩, q⟩
theorem within_nil {f t : Int} {w : Value} : Does Try.prog 63 #[.slice none 0 0, .int .i64 f, .int .i64 t, w] h (fun u h' => u = .tuple #[] ∧ h' = h) := by
  refine spec_go mixed Try.func63 rfl Try.results63 (n := Try.f63.ntmps) (by kernel_rfl) (by simp) ?_
  simp only [go_sem, simprocAttr]
  refine go_loop (fun z ρ k => z = 0 ∧ h = k ∧ ρ 12 = .int .i64 0 ∧ ρ 13 = .int .i64 0) 0 ⟨rfl, rfl, by simp only [go_sem, simprocAttr]⟩ ?_
  rintro z ρ k ⟨rfl, rfl, r12, r13⟩
  simp only [go_sem, simprocAttr, r12, r13]
theorem Part_nil {off n : Int} (hn : inI n) (ho : inI off) : Does Try.prog 42 #[.slice none 0 0, .int .i64 off, .int .i64 n] h (fun u h' => u = .tuple #[.slice none 0 0, .int .i64 (if Blks off n then 0 else 1)] ∧ h.quiet h') := by
  have hR : RightL [] := ⟨by simp, trivial, trivial⟩
  refine spec_go mixed Try.func42 rfl Try.results42 (n := Try.f42.ntmps) (by kernel_rfl) (by simp) ?_
  simp only [go_sem, simprocAttr]
  refine cl_spec (Right_ok (IsSl.nil rExt (fun _ => True) h)) (fun _ _ _ hc => absurd hc (by decide +kernel)) ?_
  rintro u k ⟨⟨b, rfl, hb⟩, q⟩
  obtain rfl : b = true := hb.2 hR
  simp only [go_sem, simprocAttr]
  refine cl_spec (blocks_ok hn ho) (fun _ _ _ hc => absurd hc (by decide +kernel)) ?_
  rintro u k2 ⟨rfl, hk⟩
  obtain rfl : k = k2 := hk.symm
  by_cases c : Blks off n
  · rw [if_pos c]
    simp only [go_sem, simprocAttr, decide_eq_true c]
    refine cl_gen fun k1 e1 => ?_
    have q1 : k.quiet k1 := by rw [e1]; simp only [go_sem, simprocAttr]
    have g1 : k1.get k.next = .cells [.slice none 0 0] .rw := by rw [e1]; simp only [go_sem, simprocAttr]
    clear e1
    refine cl_spec within_nil (fun _ _ _ hc => absurd hc (by decide +kernel)) ?_
    rintro u k2 ⟨rfl, hk⟩
    obtain rfl : k1 = k2 := hk.symm
    simp only [go_sem, simprocAttr, g1]
    exact q.trans q1
  · rw [if_neg c]
    simp only [go_sem, simprocAttr, decide_eq_false c]
    exact q
end
end Go.Proofs.Ytfdbadpiklmbaaa
