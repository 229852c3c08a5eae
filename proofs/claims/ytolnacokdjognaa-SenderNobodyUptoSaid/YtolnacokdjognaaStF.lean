/- stream: encoding. -/
import Derived.Test.YtolnacokdjognaaStE
set_option linter.unusedSimpArgs false
set_option linter.unusedVariables false
set_option linter.unnecessarySimpa false
set_option maxRecDepth 100000
namespace Go.Proofs.Ytolnacokdjognaa
open Go.AM
def encE (l : List Rec) : Except Int (List Nat) := if ∃ r ∈ l, ¬ r.may then .error 1 else if 65536 < (encN l).length then .error 6 else .ok (encN l)
def Rec.fst (r : Rec) (i : Nat) : List Nat := ((r.ns.take i).map Int.toNat).flatMap (leB 8)
theorem Rec.fst_succ {m : Rec} {i : Nat} {x : Int} (hx : m.ns[i]? = some x) : m.fst (i + 1) = m.fst i ++ leB 8 x.toNat := by
  unfold Rec.fst
  rw [List.take_add_one, hx]; simp
theorem Rec.fst_len {m : Rec} {i : Nat} (hi : i ≤ 7) : (m.fst i).length = 8 * i := by
  unfold Rec.fst
  rw [flat8, List.length_map, List.length_take, m.ns_len, Nat.min_eq_left hi]
theorem Rec.fst_end (m : Rec) : m.fst 7 ++ leB 8 m.data.length ++ m.data.flatMap (leB 8) = m.body := by
  unfold Rec.fst Rec.body Rec.nums
  rw [List.take_of_length_le (Nat.le_of_eq m.ns_len), List.flatMap_append, List.flatMap_cons, List.append_assoc]
theorem recB_parts (r : Rec) : partsB [sealN r.body] = recB r := by simp [partsB, recB]
theorem encN_succ {l : List Rec} {i : Nat} {r : Rec} (h : l[i]? = some r) : encN (l.take (i + 1)) = encN (l.take i) ++ recB r := by
  unfold encN
  rw [List.take_add_one, h]; simp
theorem encN_le (l : List Rec) (i : Nat) : (encN (l.take i)).length ≤ (encN l).length := by
  have : encN l = encN (l.take i) ++ encN (l.drop i) := by
    unfold encN
    rw [← List.flatMap_append, List.take_append_drop]
  rw [this, List.length_append]; omega
section
variable {h k : AHeap} {S S' Z : Nat → Prop} {v w : Value}
theorem Encode_ok {l : List Rec} (hs : IsSl rRec S h l v) : Does Try.prog 16 #[v] h (fun u h' => h.quiet h' ∧ match encE l with
    | .ok b => ∃ w, u = .tuple #[w, .int .i64 0] ∧ Lst rB h.next (fun _ => False) h' b w
    | .error e => u = .tuple #[.slice none 0 0, .int .i64 e]) := by
  obtain ⟨a, c, rfl⟩ := hs.shape
  have hll := hs.len
  refine spec_go mixed Try.func16 rfl Try.results16 (n := Try.f16.ntmps) (by kernel_rfl) (by simp) ?_
  simp only [go_sem, simprocAttr]
  refine cl_spec (cf_rec hs (p := fun r => ¬ r.may) (fun hv => notMay1_ok hv)) (fun _ _ _ hc => absurd hc (by decide +kernel)) ?_
  rintro u k0 ⟨q0, rfl⟩
  by_cases c1 : ∃ r ∈ l, ¬ r.may
  · rw [show encE l = .error 1 from if_pos c1]
    simp only [go_sem, simprocAttr, decide_eq_true c1]
    exact q0
  · have hmay : ∀ r ∈ l, r.may := fun r hr => Classical.byContradiction fun e => c1 ⟨r, hr, e⟩
    have hE : encE l = if 65536 < (encN l).length then .error 6 else .ok (encN l) := if_neg c1
    rw [hE]
    simp only [go_sem, simprocAttr, decide_eq_false c1]
    have qb : k0.quiet (k0.push (.cells [.slice none 0 0] .rw)) := .push _ _
    have gb : (k0.push (.cells [.slice none 0 0] .rw)).get k0.next = .cells [.slice none 0 0] .rw := by simp
    have nb : (k0.push (.cells [.slice none 0 0] .rw)).next = k0.next + 1 := by simp
    generalize k0.push (.cells [.slice none 0 0] .rw) = kb at qb gb nb
    have q0b := q0.trans qb
    refine go_loop (fun z ρ k => ∃ (i : Nat) (u : Value), i ≤ l.length ∧ z = l.length - i ∧ Fw (· = k0.next) kb k ∧ WrAt kb.next k k0.next u (encN (l.take i)) ∧ (encN (l.take i)).length ≤ 65536 ∧ ρ 4 = .pointer (some ⟨k0.next, 0, none⟩) ∧ ρ 5 = .int .i64 (encN (l.take i)).length ∧ ρ 14 = .slice a l.length c ∧ ρ 15 = .int .i64 l.length ∧ ρ 16 = .int .i64 i) l.length
      ⟨0, .slice none 0 0, by omega, by omega, .refl _ _, ⟨gb, .nil _ _ _ _, by simp⟩, by simp [encN], by simp only [go_sem, simprocAttr]; simp [encN]⟩ ?_
    rintro z ρ k ⟨i, u, hi, rfl, f, hW, hsz, r4, r5, r14, r15, r16⟩
    simp only [go_sem, simprocAttr, r4, r5, r14, r15, r16]
    refine cnd_decide (fun hy => ?_) (fun hy => ?_)
    · have h1 : i < l.length := by omega
      have qk : h.quiet k := Fw.behind q0b f (fun j e => by have := q0.1; omega)
      obtain ⟨b, off, sp, cc, md, m, mv, hA, _, hg, hmi, hmv, hmI, hle, hdt⟩ := IsSl.atR (hs.bound.quiet qk) h1
      obtain ⟨am, cm, rfl⟩ := hmv.shape
      have hmm := hmay m (List.mem_of_getElem? hmi)
      have hmd := hmm.len
      have hget := fun i (hi : i < 7) => rc_get (m := m) (v := .slice am m.data.length cm) hi
      have hri := m.ok_iff.1 hmm.1
      simp only [go_sem, simprocAttr, r4, r5, r14, r15, r16, h1, hA, hg, hle, hdt, rc_len, rc_one, rc_take, rc_put]
      refine cl_spec snumbers_ok (fun u h' hp _ => by rw [hp.2]; exact .push _ _) ?_
      rintro u' k1 ⟨rfl, rfl⟩
      have e1 : (((k.push (.cells (m.cs (.slice am m.data.length cm)) .rw)).push (.cells [.slice none 0 0] .rw)).push (.cells (rptrs k.next) .rw)).get k.next = .cells (m.cs (.slice am m.data.length cm)) .rw := by simp only [go_sem, simprocAttr]
      have e2 : (((k.push (.cells (m.cs (.slice am m.data.length cm)) .rw)).push (.cells [.slice none 0 0] .rw)).push (.cells (rptrs k.next) .rw)).get (k.next + 1) = .cells [.slice none 0 0] .rw := by simp only [go_sem, simprocAttr]
      have e3 : (((k.push (.cells (m.cs (.slice am m.data.length cm)) .rw)).push (.cells [.slice none 0 0] .rw)).push (.cells (rptrs k.next) .rw)).get (k.next + 2) = .cells (rptrs k.next) .rw := by simp only [go_sem, simprocAttr]
      have e4 : k.quiet (((k.push (.cells (m.cs (.slice am m.data.length cm)) .rw)).push (.cells [.slice none 0 0] .rw)).push (.cells (rptrs k.next) .rw)) := by simp only [go_sem, simprocAttr]
      have e5 : (((k.push (.cells (m.cs (.slice am m.data.length cm)) .rw)).push (.cells [.slice none 0 0] .rw)).push (.cells (rptrs k.next) .rw)).next = k.next + 3 := by simp
      simp only [go_sem, simprocAttr]
      generalize ((k.push (.cells (m.cs (.slice am m.data.length cm)) .rw)).push (.cells [.slice none 0 0] .rw)).push (.cells (rptrs k.next) .rw) = kc at e1 e2 e3 e4 e5
      refine go_cutb (fun ρ k' => ∃ u, Fw (· = k.next + 1) kc k' ∧ WrAt kc.next k' (k.next + 1) u (m.fst 7) ∧ ρ 4 = .pointer (some ⟨k0.next, 0, none⟩) ∧ ρ 5 = .int .i64 (encN (l.take i)).length ∧ ρ 7 = .pointer (some ⟨k.next, 0, none⟩) ∧ ρ 8 = .pointer (some ⟨k.next + 1, 0, none⟩) ∧ ρ 14 = .slice a l.length c ∧ ρ 15 = .int .i64 l.length ∧ ρ 16 = .int .i64 i) ?_ ?_
      · refine go_loop (fun z ρ k' => ∃ (j : Nat) (u : Value), j ≤ 7 ∧ z = 7 - j ∧ Fw (· = k.next + 1) kc k' ∧ WrAt kc.next k' (k.next + 1) u (m.fst j) ∧ ρ 4 = .pointer (some ⟨k0.next, 0, none⟩) ∧ ρ 5 = .int .i64 (encN (l.take i)).length ∧ ρ 7 = .pointer (some ⟨k.next, 0, none⟩) ∧ ρ 8 = .pointer (some ⟨k.next + 1, 0, none⟩) ∧ ρ 14 = .slice a l.length c ∧ ρ 15 = .int .i64 l.length ∧ ρ 16 = .int .i64 i ∧ ρ 20 = .slice (some ⟨k.next + 2, 0, none⟩) 7 7 ∧ ρ 21 = .int .i64 7 ∧ ρ 22 = .int .i64 j) 7 ⟨0, .slice none 0 0, by omega, by omega, .refl _ _, ⟨e2, .nil _ _ _ _, by simp⟩, by simp only [go_sem, simprocAttr, r4, r5, r14, r15, r16, hA]⟩ ?_
        rintro z ρ k' ⟨j, u', hj, rfl, f', hW', r4, r5, r7, r8, r14, r15, r16, r20, r21, r22⟩
        have g1 := (f'.2 _ (by omega) (by omega)).trans e1
        have g3 := (f'.2 _ (by omega) (by omega)).trans e3
        simp only [go_sem, simprocAttr, r4, r5, r7, r8, r14, r15, r16, r20, r21, r22]
        refine cnd_decide (fun hz => ?_) (fun hz => ?_)
        · have hj7 : j < 7 := by omega
          obtain ⟨x, hx, hcx⟩ := hget j hj7
          have hx8 := hri j x hx
          have hp := rptrs_get (id := k.next) hj7
          have e9 : IntKind.i64.wrap ((j : Int) + 1) = ((j + 1 : Nat) : Int) := by rw [wi64] <;> omega
          have e8 : IntKind.u64.wrap x = ((x.toNat : Nat) : Int) := by have := hx8.1; have := hx8.2; rw [wu64] <;> omega
          simp only [go_sem, simprocAttr, r4, r5, r7, r8, r14, r15, r16, r20, r21, r22, hz, hj7, g3, hp, g1, hcx, e8]
          have qp : k'.quiet (k'.push (.cells [.int .u64 (x.toNat : Nat)] .rw)) := .push _ _
          have hWlt := hW'.lt
          refine cl_spec (Put_ok (hW'.quiet qp) (by have := f'.1; simp; omega) (IsSl.fresh1 (h := k') (x := x.toNat) (md := .rw) (by have := hx8.2; rw [u64_max]; omega)) (fun j hj _ => ⟨by omega, fun e => by have := (hW'.2.1.blk_ge e).2; omega⟩) (by rw [Rec.fst_len hj]; simp; omega)) (fun _ _ _ hc => absurd hc (by decide +kernel)) ?_
          rintro w' k2 ⟨rfl, u2, hW2, f2, n2⟩
          rw [show [x.toNat].flatMap (leB 8) = leB 8 x.toNat by simp, ← Rec.fst_succ hx] at hW2
          have f3 : Fw (· = k.next + 1) kc k2 := (f'.then qp).trans f2 (fun j _ e => e) (fun j hj e => e.elim id (fun e => by have := (hW'.2.1.blk_ge e).1; omega))
          simp only [go_sem, simprocAttr, r4, r5, r7, r8, r14, r15, r16, r20, r21, r22, e9]
          exact Hold.mk ⟨7 - (j + 1), by omega, j + 1, u2, by omega, rfl, f3, hW2, by simp only [go_sem, simprocAttr, r4, r5, r7, r8, r14, r15, r16, r20, r21]⟩
        · have : j = 7 := by omega
          subst this
          simp only [go_sem, simprocAttr, r4, r5, r7, r8, r14, r15, r16]
          exact Hold.mk ⟨u', f', hW', r4, r5, r7, r8, r14, r15, r16⟩
      · rintro ρ k' ⟨u', f', hW', r4, r5, r7, r8, r14, r15, r16⟩
        have g1 := (f'.2 _ (by omega) (by omega)).trans e1
        have qkk : k.quiet k' := Fw.behind e4 f' (fun j e => by omega)
        have e8 : IntKind.u64.wrap (m.data.length : Int) = m.data.length := by rw [wu64] <;> omega
        simp only [go_sem, simprocAttr, r4, r5, r7, r8, r14, r15, r16, g1, rc_7, e8]
        have qp : k'.quiet (k'.push (.cells [.int .u64 (m.data.length : Nat)] .rw)) := .push _ _
        have hWlt := hW'.lt
        refine cl_spec (Put_ok (hW'.quiet qp) (by have := f'.1; simp; omega) (IsSl.fresh1 (h := k') (x := m.data.length) (md := .rw) (by rw [u64_max]; omega)) (fun j hj _ => ⟨by omega, fun e => by have := (hW'.2.1.blk_ge e).2; omega⟩) (by rw [Rec.fst_len (Nat.le_refl _)]; simp)) (fun _ _ _ hc => absurd hc (by decide +kernel)) ?_
        rintro w' k2 ⟨rfl, u2, hW2, f2, n2⟩
        rw [show [m.data.length].flatMap (leB 8) = leB 8 m.data.length by simp] at hW2
        have f3 : Fw (· = k.next + 1) kc k2 := (f'.then qp).trans f2 (fun j _ e => e) (fun j hj e => e.elim id (fun e => by have := (hW'.2.1.blk_ge e).1; omega))
        have g12 := (f3.2 _ (by omega) (by omega)).trans e1
        have qkk2 : k.quiet k2 := Fw.behind e4 f3 (fun j e => by omega)
        simp only [go_sem, simprocAttr, r4, r5, r7, r8, r14, r15, r16, g12, rc_7]
        refine cl_spec (Put_ok hW2 (by have := f3.1; omega) (hmv.quiet qkk2) (fun j hj _ => ⟨by have := hj.2; have := qk.1; omega, fun e => by have := (hW2.2.1.blk_ge e).1; have := hj.2; have := qk.1; omega⟩) (by rw [List.length_append, Rec.fst_len (Nat.le_refl _), leB_length]; omega)) (fun _ _ _ hc => absurd hc (by decide +kernel)) ?_
        rintro w' k3 ⟨rfl, u3, hW3, f3', n3⟩
        rw [m.fst_end] at hW3
        have f4 : Fw (· = k.next + 1) kc k3 := f3.trans f3' (fun j _ e => e) (fun j hj e => e.elim id (fun e => by have := (hW2.2.1.blk_ge e).1; omega))
        have hbl := m.body_len
        simp only [go_sem, simprocAttr, r4, r5, r7, r8, r14, r15, r16]
        refine cl_spec (Bytes_ok hW3 (by omega)) (fun _ _ _ hc => absurd hc (by decide +kernel)) ?_
        rintro w' k4 ⟨q4, hs4⟩
        simp only [go_sem, simprocAttr]
        refine cl_spec (Seal_ok hs4 (by omega)) (fun _ _ _ hc => absurd hc (by decide +kernel)) ?_
        rintro w'' k5 ⟨q5, hs5⟩
        have qkk5 : k.quiet k5 := (Fw.behind e4 f4 (fun j e => by omega)).trans (q4.trans q5)
        obtain ⟨a5, c5, rfl⟩ := hs5.shape
        have qp5 : k5.quiet (k5.push (.cells [.slice a5 (sealN m.body).length c5] .rw)) := .push _ _
        have hWk := hW.quiet (qkk5.trans qp5)
        have hsl := seal_len m
        have hrl := recB_len m
        have hAk := hW.lt
        simp only [go_sem, simprocAttr, r4, r5, r7, r8, r14, r15, r16]
        refine cl_spec (Part_ok hWk (by have := f.1; have := qkk5.1; simp; omega) (one' (md := .rw) hs5) (fun j hj _ => ?_) (by rw [recB_parts]; omega)) (fun _ _ _ hc => absurd hc (by decide +kernel)) ?_
        · rcases hj with hj | hj
          · exact ⟨by have := qkk5.1; have := q4.1; have := f4.1; omega, fun e => by have := (hW.2.1.blk_ge e).2; have := q4.1; have := f4.1; omega⟩
          · exact ⟨by have := qkk5.1; omega, fun e => by have := (hW.2.1.blk_ge e).2; have := qkk5.1; omega⟩
        rintro w' k6 ⟨rfl, u6, hW6, f6, n6⟩
        rw [recB_parts, ← encN_succ hmi] at hW6
        have f7 : Fw (· = k0.next) kb k6 := (f.then (qkk5.trans qp5)).trans f6 (fun j _ e => e) (fun j hj e => e.elim id (fun e => by have := (hW.2.1.blk_ge e).1; omega))
        have hel : (encN (l.take (i + 1))).length = (encN (l.take i)).length + (recB m).length := by rw [encN_succ hmi, List.length_append]
        have e10 : IntKind.i64.wrap (8 + ((sealN m.body).length : Int)) = ((recB m).length : Int) := by rw [wi64] <;> omega
        have e11 : IntKind.i64.wrap (((encN (l.take i)).length : Int) + (recB m).length) = ((encN (l.take (i + 1))).length : Int) := by rw [wi64] <;> omega
        have e9 : IntKind.i64.wrap ((i : Int) + 1) = ((i + 1 : Nat) : Int) := by rw [wi64] <;> omega
        simp only [go_sem, simprocAttr, r4, r5, r7, r8, r14, r15, r16, e10, e11]
        by_cases hbig : 65536 < (encN (l.take (i + 1))).length
        · have hbig' : (65536 : Int) < (encN (l.take (i + 1))).length := by omega
          have := encN_le l (i + 1)
          rw [if_pos (by omega)]
          simp only [go_sem, simprocAttr, hbig', decide_true]
          exact Fw.behind q0b f7 (fun j e => by have := q0.1; omega)
        · have hbig' : ¬ (65536 : Int) < (encN (l.take (i + 1))).length := by omega
          simp only [go_sem, simprocAttr, hbig', decide_false, r4, r5, r14, r15, r16, e9]
          exact Hold.mk ⟨l.length - (i + 1), by omega, i + 1, u6, by omega, rfl, f7, hW6, by omega, by simp only [go_sem, simprocAttr, r4, r14, r15, hA]⟩
    · have : i = l.length := by omega
      subst this
      rw [List.take_length] at hW hsz
      have qk : h.quiet k := Fw.behind q0b f (fun j e => by have := q0.1; omega)
      rw [if_neg (by omega)]
      simp only [go_sem, simprocAttr, r4]
      refine cl_spec (BytesL_ok hW (by omega)) (fun _ _ _ hc => absurd hc (by decide +kernel)) ?_
      rintro u' k2 ⟨q2, hl2⟩
      simp only [go_sem, simprocAttr]
      exact ⟨qk.trans q2, _, rfl, hl2.mono qk.1 (Nat.le_refl _) (fun _ e _ _ => e.elim) (fun _ _ _ => rfl)⟩
end
end Go.Proofs.Ytolnacokdjognaa
