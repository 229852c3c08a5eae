/- pack: the laws PackPuts, PackBack, PackOne: what each call of them comes to. -/
import Derived.Test.YtkepcpagogpcmaaPkW
import Derived.Test.YtkepcpagogpcmaaPkA
set_option linter.unusedSimpArgs false
set_option linter.unusedVariables false
set_option linter.unnecessarySimpa false
namespace Go.Proofs.Ytkepcpagogpcmaa
open Go.AM

theorem WrAt.ge {lo n : Nat} {h : AHeap} {id : Nat} {v : Value} {bs : List Nat} (hw : WrAt lo h id v bs) (h1 : n ≤ id) (h2 : n ≤ lo) : ∀ j, WrF id v j → n ≤ j := fun j e => by
  rcases e with rfl | e
  · exact h1
  · have := (hw.2.1.blk_ge e).1; omega
theorem WrAt.off {lo n : Nat} {h : AHeap} {id : Nat} {v : Value} {bs : List Nat} (hw : WrAt lo h id v bs) (h1 : n ≤ id) (h2 : n ≤ lo) {m : Nat} : ∀ j, j < n → j < m → j ≠ id ∧ blk v ≠ some j := fun j hj _ =>
  ⟨by omega, fun e => by have := (hw.2.1.blk_ge e).1; omega⟩
theorem WrAt.new (h : AHeap) : WrAt (h.next + 1) (h.push (.cells [.slice none 0 0] .rw)) h.next (.slice none 0 0) [] := ⟨by simp, .nil _ _ _ _, by simp⟩

theorem puts_ok {h : AHeap} {a b : List Nat} {l : List (List Nat)} {va vl vb : Value} (ha : Words (· < h.next) h a va) (hl : IsSl rB.list (· < h.next) h l vl) (hb : Words (· < h.next) h b vb) (hn : 8 * a.length + (partsB l).length + 8 * b.length ≤ 35184372088832) :
    Does Try.prog 3 #[va, vl, vb] h (fun u _ => u = .bool true) := by
  refine spec_go mixed Try.func3 rfl Try.results3 (n := Try.f3.ntmps) (by kernel_rfl) (by simp) ?_
  simp only [go_sem, simprocAttr]
  have q1 : h.quiet (h.push (.cells [.slice none 0 0] .rw)) := .push _ _
  have w1 := WrAt.new h
  refine cl_spec (Put_ok w1 (by simp) (ha.quiet q1) (w1.off (by simp) (by omega)) (by simp; omega)) (fun _ _ _ hc => absurd hc (by decide +kernel)) ?_
  rintro u h2 ⟨rfl, v2, w2, f2, n2⟩
  have q2 := Fw.behind q1 f2 (w1.ge (by simp) (by omega))
  simp only [go_sem, simprocAttr]
  refine cl_spec (Part_ok w2 (by have := q2.1; have := w2.lt; omega) (hl.quiet q2) (w2.off (by simp) (by omega)) (by simp only [List.length_append, List.length_nil, flat8]; omega)) (fun _ _ _ hc => absurd hc (by decide +kernel)) ?_
  rintro u h3 ⟨rfl, v3, w3, f3, n3⟩
  have q3 := Fw.behind q2 f3 (w2.ge (by simp) (by omega))
  simp only [go_sem, simprocAttr]
  refine cl_spec (Put_ok w3 (by have := q3.1; have := w3.lt; omega) (hb.quiet q3) (w3.off (by simp) (by omega)) (by simp only [List.length_append, List.length_nil, flat8]; omega)) (fun _ _ _ hc => absurd hc (by decide +kernel)) ?_
  rintro u h4 ⟨rfl, v4, w4, f4, n4⟩
  have q4 := Fw.behind q3 f4 (w3.ge (by simp) (by omega))
  simp only [go_sem, simprocAttr]
  refine cl_spec (Bytes_ok w4 (by simp only [List.length_append, List.length_nil, flat8]; omega)) (fun u h' hp _ => hp.1) ?_
  rintro u h5 ⟨q5, b5⟩
  have k5 := q4.trans q5
  simp only [go_sem, simprocAttr]
  refine cl_spec (rPut_ok (S := fun _ => True) (.nil _ _ _) ((ha.quiet k5).weaken (fun _ _ => trivial)) (by simp; omega)) (fun u h' hp _ => hp.1) ?_
  rintro x6 h6 ⟨q6, b6⟩
  simp only [go_sem, simprocAttr]
  refine cl_spec (rPart_ok (S := fun _ => True) (b6.isSl (fun _ e _ => e.elim) (fun _ _ => trivial)) ((hl.quiet (k5.trans q6)).weaken (fun _ _ => trivial)) (by simp only [List.length_append, List.length_nil, flat8]; omega)) (fun u h' hp _ => hp.1) ?_
  rintro x7 h7 ⟨q7, b7⟩
  simp only [go_sem, simprocAttr]
  refine cl_spec (rPut_ok (S := fun _ => True) (b7.weaken (fun _ _ => trivial)) ((hb.quiet ((k5.trans q6).trans q7)).weaken (fun _ _ => trivial)) (by simp only [List.length_append, List.length_nil, flat8]; omega)) (fun u h' hp _ => hp.1) ?_
  rintro x8 h8 ⟨q8, b8⟩
  simp only [go_sem, simprocAttr]
  refine cl_spec (same_ok (S := fun _ => True) ((b5.quiet ((q6.trans q7).trans q8)).weaken (fun _ _ => trivial)) (b8.isSl (fun _ e _ => e.elim) (fun _ _ => trivial))) (fun u h' hp _ => by obtain ⟨_, rfl⟩ := hp; exact .refl _) ?_
  rintro u h9 ⟨rfl, rfl⟩
  simp only [go_sem, simprocAttr, List.nil_append, decide_true]
  refine cl_spec (alive_ok _) (fun u h' hp _ => by obtain ⟨_, rfl⟩ := hp; exact .refl _) ?_
  rintro u h' ⟨rfl, rfl⟩
  simp only [go_sem, simprocAttr]

/-! What stands at the place is got. -/
theorem RdS.peek_at {s : RdS} {n : Nat} {rest : List Nat} (hd : s.bs.drop s.at_ = leB 8 n ++ rest) (hn : n < 18446744073709551616) (h1 : s.why = 0) (h2 : s.fat = 0) : s.peek = some n := by
  have hl := congrArg List.length hd
  rw [List.length_append, leB_length, List.length_drop] at hl
  unfold RdS.peek
  rw [if_pos ⟨h1, h2, by omega⟩, hd, List.take_append_of_le_length (by rw [leB_length]; omega), List.take_of_length_le (by rw [leB_length]; omega), leN_leB 8 n (by simpa using hn)]
theorem RdS.get_at {s : RdS} {n : Nat} {rest : List Nat} (hd : s.bs.drop s.at_ = leB 8 n ++ rest) (hn : n < 18446744073709551616) (h1 : s.why = 0) (h2 : s.fat = 0) : s.get = (n, { s with at_ := s.at_ + 8 }) ∧ s.bs.drop (s.at_ + 8) = rest := by
  refine ⟨by unfold RdS.get; rw [RdS.peek_at hd hn h1 h2], ?_⟩
  rw [← List.drop_drop, hd, List.drop_append_of_le_length (by rw [leB_length]; omega), List.drop_of_length_le (by rw [leB_length]; omega)]; rfl
theorem RdS.part_at {s : RdS} {p rest : List Nat} (hd : s.bs.drop s.at_ = leB 8 p.length ++ (p ++ rest)) (hn : p.length ≤ 2147483648) (h1 : s.why = 0) (h2 : s.fat = 0) : s.part = (p, { s with at_ := s.at_ + 8 + p.length }) ∧ s.bs.drop (s.at_ + 8 + p.length) = rest := by
  have hl := congrArg List.length hd
  rw [List.length_append, List.length_append, leB_length, List.length_drop] at hl
  have h8 := (RdS.get_at hd (by omega) h1 h2).2
  refine ⟨?_, ?_⟩
  · unfold RdS.part
    rw [RdS.peek_at hd (by omega) h1 h2]
    simp only
    rw [if_neg (by omega), if_neg (by omega), h8]
    simp
  · rw [← List.drop_drop, h8]; simp

theorem back_ok {h : AHeap} {a : List Nat} {l : List (List Nat)} {va vl : Value} (ha : Words (· < h.next) h a va) (hl : IsSl rB.list (· < h.next) h l vl) (hn : 8 * a.length + (partsB l).length ≤ 1073741824) :
    Does Try.prog 4 #[va, vl] h (fun u _ => u = .bool true) := by
  obtain ⟨aa, ca, rfl⟩ := ha.shape
  obtain ⟨al, cl, rfl⟩ := hl.shape
  have hla := ha.len
  have hll := hl.len
  refine spec_go mixed Try.func4 rfl Try.results4 (n := Try.f4.ntmps) (by kernel_rfl) (by simp) ?_
  simp only [go_sem, simprocAttr]
  have q1 : h.quiet (h.push (.cells [.slice none 0 0] .rw)) := .push _ _
  have w1 := WrAt.new h
  refine cl_spec (Put_ok w1 (by simp) (ha.quiet q1) (w1.off (by simp) (by omega)) (by simp; omega)) (fun _ _ _ hc => absurd hc (by decide +kernel)) ?_
  rintro u h2 ⟨rfl, v2, w2, f2, n2⟩
  have q2 := Fw.behind q1 f2 (w1.ge (by simp) (by omega))
  simp only [go_sem, simprocAttr]
  refine cl_spec (Part_ok w2 (by have := q2.1; have := w2.lt; omega) (hl.quiet q2) (w2.off (by simp) (by omega)) (by simp only [List.length_append, List.length_nil, flat8]; omega)) (fun _ _ _ hc => absurd hc (by decide +kernel)) ?_
  rintro u h3 ⟨rfl, v3, w3, f3, n3⟩
  have q3 := Fw.behind q2 f3 (w2.ge (by simp) (by omega))
  simp only [go_sem, simprocAttr]
  refine cl_spec (Bytes_ok w3 (by simp only [List.length_append, List.length_nil, flat8]; omega)) (fun u h' hp _ => hp.1) ?_
  rintro x4 h4 ⟨q4, b4⟩
  have k4 := q3.trans q4
  have b4 := b4.bound
  simp only [go_sem, simprocAttr]
  refine cl_spec (new_ok b4 (fun j hj => hj.2)) (fun _ _ _ hc => absurd hc (by decide +kernel)) ?_
  rintro u h5 ⟨rfl, rfl, hr⟩
  have hge : h.next ≤ h4.next := k4.1
  generalize hS : (fun j => h3.next ≤ j ∧ j < h4.next) = S at hr
  have k5 := k4.trans (.push _ (rdc x4 ⟨[] ++ a.flatMap (leB 8) ++ partsB l, 0, 0, 0⟩))
  generalize h4.push (rdc x4 ⟨[] ++ a.flatMap (leB 8) ++ partsB l, 0, 0, 0⟩) = h5 at hr k5 ⊢
  generalize hbs : [] ++ a.flatMap (leB 8) ++ partsB l = bs at hr
  have old : ∀ (k : AHeap), Fw (· = h4.next) h5 k → h.quiet k := fun k f => Fw.behind k5 f (fun j e => by omega)
  simp only [go_sem, simprocAttr]
  refine go_loop (fun m ρ k => ∃ (i at_ : Nat), i ≤ a.length ∧ m = a.length - i ∧ RdAt S k h4.next x4 ⟨bs, at_, 0, 0⟩ ∧ Fw (· = h4.next) h5 k ∧ bs.drop at_ = (a.drop i).flatMap (leB 8) ++ partsB l ∧
    ρ 1 = .slice al l.length cl ∧ ρ 6 = .pointer (some ⟨h4.next, 0, none⟩) ∧ ρ 19 = .slice aa a.length ca ∧ ρ 20 = .int .i64 a.length ∧ ρ 21 = .int .i64 i) a.length ⟨0, 0, by omega, by omega, hr, .refl _ _, by rw [← hbs]; simp, by simp only [go_sem, simprocAttr]⟩ ?_
  rintro m ρ k ⟨i, at_, hi, rfl, hr, f5, hd, r1, r6, r19, r20, r21⟩
  simp only [go_sem, simprocAttr, r1, r6, r19, r20, r21]
  refine cnd_decide (fun hx => ?_) (fun hx => ?_)
  · have hx' : i < a.length := by omega
    obtain ⟨b, off, sp, c, md, x, rfl, _, hg, hxi, hmx, hc⟩ := (ha.quiet (old k f5)).atN hx'
    rw [u64_max] at hmx
    have e9 : IntKind.i64.wrap ((i : Int) + 1) = ((i + 1 : Nat) : Int) := by rw [wi64] <;> omega
    simp only [go_sem, simprocAttr, r1, r6, r19, r20, r21, hx', hg, hc]
    refine cl_spec (get_ok hr) (fun _ _ _ hc => absurd hc (by decide +kernel)) ?_
    rintro u k1 ⟨rfl, hr1, f1⟩
    obtain ⟨eg, ed⟩ := RdS.get_at (s := ⟨bs, at_, 0, 0⟩) (n := x) (rest := (a.drop (i + 1)).flatMap (leB 8) ++ partsB l) (by rw [hd, List.drop_eq_getElem_cons hx', List.getElem?_eq_getElem hx'] at *; simp_all) (by omega) rfl rfl
    rw [eg] at hr1 ⊢
    simp only [go_sem, simprocAttr, r1, r6, r19, r20, r21, e9]
    refine Hold.mk ⟨a.length - (i + 1), by omega, i + 1, at_ + 8, by omega, rfl, hr1, f5.trans f1 (fun _ _ e => e) (fun _ _ e => e), ed, ?_⟩
    simp only [go_sem, simprocAttr, r1, r6, r19, r20, r21]
  · have : i = a.length := by omega
    subst this
    simp only [go_sem, simprocAttr, r1, r6]
    replace hd : bs.drop at_ = partsB l := by simpa using hd
    refine go_loop (fun m ρ k => ∃ (i at_ : Nat), i ≤ l.length ∧ m = l.length - i ∧ RdAt S k h4.next x4 ⟨bs, at_, 0, 0⟩ ∧ Fw (· = h4.next) h5 k ∧ bs.drop at_ = partsB (l.drop i) ∧
      ρ 6 = .pointer (some ⟨h4.next, 0, none⟩) ∧ ρ 30 = .slice al l.length cl ∧ ρ 31 = .int .i64 l.length ∧ ρ 32 = .int .i64 i) l.length ⟨0, at_, by omega, by omega, hr, f5, hd, by simp only [go_sem, simprocAttr, r6]⟩ ?_
    rintro m ρ k ⟨i, at_, hi, rfl, hr, f5, hd, r6, r30, r31, r32⟩
    simp only [go_sem, simprocAttr, r6, r30, r31, r32]
    refine cnd_decide (fun hx => ?_) (fun hx => ?_)
    · have hx' : i < l.length := by omega
      obtain ⟨b, off, sp, c, md, p, pv, rfl, hb, hg, hxi, hp, hc⟩ := (hl.quiet (old k f5)).atL hx'
      have e9 : IntKind.i64.wrap ((i : Int) + 1) = ((i + 1 : Nat) : Int) := by rw [wi64] <;> omega
      have hple := partsB_le hxi
      have hS4 : ∀ j, S j → j < h4.next := by rw [← hS]; exact fun j hj => hj.2
      simp only [go_sem, simprocAttr, r6, r30, r31, r32, hx', hg, hc]
      refine cl_spec (part_ok hr (fun j hj => by have := hS4 j hj; have := hr.lt; omega)) (fun u h' hp' _ => absurd ‹_› (by decide +kernel)) ?_
      rintro u k1 ⟨hu, hr1, f1⟩
      obtain ⟨eg, ed⟩ := RdS.part_at (s := ⟨bs, at_, 0, 0⟩) (p := p) (rest := partsB (l.drop (i + 1))) (by
        rw [List.getElem?_eq_getElem hx'] at hxi
        have e : l[i] = p := Option.some.inj hxi
        show bs.drop at_ = _
        rw [hd, List.drop_eq_getElem_cons hx', e]; simp [partsB]) (by omega) rfl rfl
      rw [eg] at hr1 hu
      have hp1 : Bytes (fun _ => True) k1 p pv := (hp.fr f1 (fun j hj _ e => by omega)).weaken (fun _ _ => trivial)
      simp only [go_sem, simprocAttr, r6, r30, r31, r32]
      refine cl_spec (same_ok (S := fun _ => True) (hu.weaken (fun _ _ => trivial)) hp1) (fun _ _ _ hc => absurd hc (by decide +kernel)) ?_
      rintro u k2 ⟨rfl, rfl⟩
      simp only [go_sem, simprocAttr, r6, r30, r31, r32, e9, decide_true]
      refine Hold.mk ⟨l.length - (i + 1), by omega, i + 1, at_ + 8 + p.length, by omega, rfl, hr1, f5.trans f1 (fun _ _ e => e) (fun _ _ e => e), ed, ?_⟩
      simp only [go_sem, simprocAttr, r6, r30, r31, r32]
    · have : i = l.length := by omega
      subst this
      simp only [go_sem, simprocAttr, r6]
      refine cl_spec (fin_ok hr) (fun _ _ _ hc => absurd hc (by decide +kernel)) ?_
      rintro u k1 ⟨rfl, hr1, f1⟩
      have he : bs.length ≤ at_ := by have := congrArg List.length hd; simp [partsB] at this; omega
      have ef : (⟨bs, at_, 0, 0⟩ : RdS).fin = ⟨bs, at_, 0, 0⟩ := by unfold RdS.fin; rw [if_neg (by simp only; omega)]
      rw [ef]
      simp only [go_sem, simprocAttr]
      refine cl_spec (alive_ok _) (fun u h' hp _ => by obtain ⟨_, rfl⟩ := hp; exact .refl _) ?_
      rintro u h' ⟨rfl, rfl⟩
      simp only [go_sem, simprocAttr]

end Go.Proofs.Ytkepcpagogpcmaa
