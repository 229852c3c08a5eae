/- sums: slices of bytes compared, and joined. -/
import Derived.Test.YtolnacokdjognaaNeA
set_option linter.unusedSimpArgs false
set_option linter.unusedVariables false
set_option linter.unnecessarySimpa false
set_option maxRecDepth 100000
namespace Go.Proofs.Ytolnacokdjognaa
open Go.AM

theorem take_eq_step {α : Type} {xs ys : List α} {i : Nat} {x y : α} (h : xs.take i = ys.take i) (hx : xs[i]? = some x) (hy : ys[i]? = some y) : (x = y → xs.take (i + 1) = ys.take (i + 1)) ∧ (x ≠ y → xs ≠ ys) := by
  refine ⟨fun e => by rw [List.take_add_one, List.take_add_one, h, hx, hy, e], fun hn e => hn ?_⟩
  subst e; rw [hx] at hy; exact Option.some.inj hy
theorem putCells_eq (c vs : List Value) (o : Nat) (h : o + vs.length ≤ c.length) : putCells c o vs = c.take o ++ vs ++ c.drop (o + vs.length) := by
  have e : c = c.take o ++ (c.drop o) := (List.take_append_drop _ _).symm
  have hl : (c.take o).length = o := by simp; omega
  have e2 : c.drop o = (c.drop o).take vs.length ++ c.drop (o + vs.length) := by rw [← List.drop_drop]; exact (List.take_append_drop _ _).symm
  conv => lhs; rw [e]
  rw [putCells_append [] _ _ _ _ (by omega), hl, Nat.sub_self]
  conv => lhs; rw [e2]
  rw [putCells_le _ _ _ _ (by simp; omega)]
  have := putCells_all vs [] ((c.drop o).take vs.length) (by simp; omega)
  simp only [List.length_nil, List.nil_append] at this
  rw [this, List.append_assoc]

/-- A list with room behind it: so many places, the first of them these numbers. -/
def LstC (lo : Nat) (h : AHeap) (xs : List Nat) (cap : Nat) (v : Value) : Prop :=
  xs.length ≤ cap ∧ (∀ x ∈ xs, (x : Int) ≤ IntKind.u8.max) ∧ ((cap = 0 ∧ v = .slice none 0 0) ∨ ∃ ob c, v = .slice (some ⟨ob, 0, some 1⟩) xs.length cap ∧ lo ≤ ob ∧ h.get ob = .cells c (.tail 1) ∧ c.length = cap ∧ c.take xs.length = xs.map fun n => .int .u8 (n : Nat))

section
variable {h : AHeap} {S : Nat → Prop}

theorem LstC.isSl {lo : Nat} {xs : List Nat} {cap : Nat} {v : Value} (hl : LstC lo h xs cap v) (h62 : cap ≤ 281474976710656) : IsSl rB (lo ≤ ·) h xs v := by
  obtain ⟨h1, h2, ⟨rfl, rfl⟩ | ⟨ob, c, rfl, h3, h4, h5, h6⟩⟩ := hl
  · have : xs = [] := List.eq_nil_of_length_eq_zero (by omega)
    subst this; exact .nil _ _ _
  · refine ⟨_, _, _, rfl, h1, by omega, (fun h => by cases h), (fun ad h => by cases h; exact .inr rfl), nat_all2 h2, fun _ => ⟨_, _, _, rfl, h3, h4, ?_, ?_⟩⟩
    · show 0 + xs.length * 1 ≤ c.length; omega
    · show (c.drop 0).take (xs.length * 1) = _
      rw [List.drop_zero, Nat.mul_one, h6, nat_flat]

theorem LstC.app {lo : Nat} {xs ys : List Nat} {cap : Nat} {v : Value} (hl : LstC lo h xs cap v) (hy : ∀ y ∈ ys, (y : Int) ≤ IntKind.u8.max) (hc : xs.length + ys.length ≤ cap) :
    ∃ v' h', aappend h 1 1 v ys.length (ys.map fun n => .int .u8 (n : Nat)) = some (v', h') ∧ LstC lo h' (xs ++ ys) cap v' ∧ Fw (lo ≤ ·) h h' := by
  obtain ⟨h1, h2, ⟨rfl, rfl⟩ | ⟨ob, c, rfl, h3, h4, h5, h6⟩⟩ := hl
  · have hx : xs = [] := List.eq_nil_of_length_eq_zero (by omega)
    have hys : ys = [] := List.eq_nil_of_length_eq_zero (by omega)
    subst hx hys
    exact ⟨_, _, by rw [aappend_nil, if_pos List.length_nil], ⟨Nat.le_refl _, by simp, .inl ⟨rfl, rfl⟩⟩, .refl _ _⟩
  · by_cases hn0 : ys.length = 0
    · have hys : ys = [] := List.eq_nil_of_length_eq_zero hn0
      subst hys
      exact ⟨.slice (some ⟨ob, 0, some 1⟩) xs.length cap, h, by rw [aappend_u, if_pos List.length_nil], ⟨by simpa using h1, by simpa using h2, .inr ⟨ob, c, by simp, h3, h4, h5, by simpa using h6⟩⟩, .refl _ _⟩
    · have hlt : ob < h.next := AHeap.lt_of_alive h (by rw [h4]; simp)
      refine ⟨_, _, by rw [aappend_u, if_neg hn0, if_pos hc, h4, appIn_cells, if_pos ⟨by simp, by omega⟩], ⟨by simpa using hc, ?_, .inr ⟨ob, _, by simp, h3, AHeap.get_set_self _ _ hlt, ?_, ?_⟩⟩, ?_⟩
      · intro x hx
        rcases List.mem_append.1 hx with hx | hx
        · exact h2 x hx
        · exact hy x hx
      · rw [length_putCells]; exact h5
      · rw [putCells_eq _ _ _ (by simp; omega), Nat.zero_add, Nat.mul_one, List.length_append, List.take_append_of_le_length (by simp; omega), List.take_of_length_le (by simp; omega), h6, List.map_append]
      · exact (Fw.set _).mono fun j _ e => by subst e; exact h3

theorem Grow_ok {n : Nat} (hn : n ≤ 1099511627776) : Does Try.prog 45 #[.slice none 0 0, .int .i64 n] h (fun u h' => h.quiet h' ∧ LstC h.next h' [] n u) := by
  have e1 : IntKind.i64.wrap ((n : Int) - IntKind.i64.wrap 0) = n := by
    rw [show IntKind.i64.wrap 0 = 0 from rfl, wi64] <;> omega
  have e0 : ¬ ((n : Int) < 0) := by omega
  refine spec_go mixed Try.func45 rfl Try.results45 (n := Try.f45.ntmps) (by kernel_rfl) (by simp) ?_
  simp only [go_sem, simprocAttr, e0, e1, decide_false]
  by_cases hn0 : (0 : Int) < n
  · have b1 : (n : Int) * 1 ≤ 140737488355328 := by omega
    have b2 : (n : Int) ≤ 4611686018427387904 := by omega
    simp only [go_sem, simprocAttr, hn0, decide_true, b1, b2]
    exact ⟨Nat.zero_le _, by simp, .inr ⟨h.next, azeros [.int .u8 0] n, by simp, Nat.le_refl _, by simp, by simp [azeros], rfl⟩⟩
  · have : n = 0 := by omega
    subst this
    simp only [go_sem, simprocAttr, hn0, decide_false]
    exact ⟨Nat.le_refl _, by simp, .inl ⟨rfl, rfl⟩⟩

theorem sum_take (ls : List (List Nat)) {i : Nat} {x : List Nat} (hi : ls[i]? = some x) : (ls.take (i + 1)).flatten = (ls.take i).flatten ++ x := by
  rw [List.take_add_one, hi]; simp
theorem flat_take_le (ls : List (List Nat)) (i : Nat) : (ls.take i).flatten.length ≤ ls.flatten.length := by
  conv => rhs; rw [← List.take_append_drop i ls, List.flatten_append, List.length_append]
  omega

theorem Concat_ok {ls : List (List Nat)} {v : Value} (hx : IsSl (Rep.list rB) S h ls v) (hn : ls.flatten.length ≤ 1099511627776) : Does Try.prog 21 #[v] h (fun u h' => h.quiet h' ∧ Bytes (h.next ≤ ·) h' ls.flatten u) := by
  obtain ⟨a, c, rfl⟩ := hx.shape
  have hl := hx.len
  refine spec_go mixed Try.func21 rfl Try.results21 (n := Try.f21.ntmps) (by kernel_rfl) (by simp) ?_
  simp only [go_sem, simprocAttr]
  refine go_loop (fun z ρ k => ∃ i : Nat, i ≤ ls.length ∧ z = ls.length - i ∧ k = h ∧ ρ 0 = .slice a ls.length c ∧ ρ 3 = .int .i64 ((ls.take i).flatten.length : Nat) ∧ ρ 9 = .slice a ls.length c ∧ ρ 10 = .int .i64 ls.length ∧ ρ 11 = .int .i64 i) ls.length
    ⟨0, by omega, by omega, rfl, by simp only [go_sem, simprocAttr]; simp⟩ ?_
  rintro z ρ k ⟨i, hi, rfl, rfl, r0, r3, r9, r10, r11⟩
  simp only [go_sem, simprocAttr, r0, r3, r9, r10, r11]
  refine cnd_decide (fun hx' => ?_) (fun hx' => ?_)
  · have h1 : i < ls.length := by omega
    obtain ⟨b, off, sp, cc, md, x, u, rfl, _, hg, hxi, hxu, hc⟩ := hx.atL h1
    obtain ⟨ax, cx, rfl⟩ := hxu.shape
    have e9 : IntKind.i64.wrap ((i : Int) + 1) = ((i + 1 : Nat) : Int) := by rw [wi64] <;> omega
    have ht := congrArg List.length (sum_take ls hxi)
    rw [List.length_append] at ht
    have hb := flat_take_le ls (i + 1)
    have e3 : IntKind.i64.wrap (((ls.take i).flatten.length : Nat) + (x.length : Nat) : Int) = ((ls.take (i + 1)).flatten.length : Nat) := by rw [wi64] <;> omega
    simp only [go_sem, simprocAttr, r0, r3, r9, r10, r11, h1, hg, hc, e3, e9]
    exact Hold.mk ⟨ls.length - (i + 1), by omega, i + 1, by omega, rfl, rfl, by simp only [go_sem, simprocAttr, r0, r9, r10]⟩
  · have : i = ls.length := by omega
    subst this
    rw [List.take_length] at r3
    simp only [go_sem, simprocAttr, r0, r3]
    refine cl_spec (Grow_ok hn) (fun _ _ _ hc => absurd hc (by decide +kernel)) ?_
    rintro u k1 ⟨q1, hl1⟩
    simp only [go_sem, simprocAttr, r0]
    refine go_loop (fun z ρ k2 => ∃ (i : Nat) (u : Value), i ≤ ls.length ∧ z = ls.length - i ∧ k.quiet k2 ∧ LstC k.next k2 (ls.take i).flatten ls.flatten.length u ∧ ρ 6 = u ∧ ρ 25 = .slice a ls.length c ∧ ρ 26 = .int .i64 ls.length ∧ ρ 27 = .int .i64 i) ls.length
      ⟨0, u, by omega, by omega, q1, by simpa using hl1, by simp only [go_sem, simprocAttr]⟩ ?_
    rintro z ρ k2 ⟨i, u, hi, rfl, qk, hl2, r6, r25, r26, r27⟩
    simp only [go_sem, simprocAttr, r6, r25, r26, r27]
    refine cnd_decide (fun hx' => ?_) (fun hx' => ?_)
    · have h1 : i < ls.length := by omega
      obtain ⟨b, off, sp, cc, md, x, xu, rfl, _, hg, hxi, hxu, hc⟩ := (hx.quiet qk).atL h1
      obtain ⟨ax, cx, rfl⟩ := hxu.shape
      have e9 : IntKind.i64.wrap ((i : Int) + 1) = ((i + 1 : Nat) : Int) := by rw [wi64] <;> omega
      have ht := congrArg List.length (sum_take ls hxi)
      rw [List.length_append] at ht
      have hb := flat_take_le ls (i + 1)
      obtain ⟨u4, k4, e4, hl4, hf4⟩ := hl2.app (ys := x) (fun n hn => by have := hxu.vals rfl n hn; exact this) (by omega)
      simp only [go_sem, simprocAttr, r6, r25, r26, r27, h1, hg, hc, hxu.acellsN, e4, e9]
      refine Hold.mk ⟨ls.length - (i + 1), by omega, i + 1, u4, by omega, rfl, Fw.behind qk hf4 (fun j e => e), ?_, by simp only [go_sem, simprocAttr, r25, r26]⟩
      rw [sum_take ls hxi]; exact hl4
    · have : i = ls.length := by omega
      subst this
      rw [List.take_length] at hl2
      simp only [go_sem, simprocAttr, r6]
      exact ⟨qk, hl2.isSl (by omega)⟩
theorem Equal_ok {xs ys : List Nat} {v w : Value} (hx : Bytes S h xs v) (hy : Bytes S h ys w) : Does Try.prog 78 #[v, w] h (fun u h' => u = .bool (decide (xs = ys)) ∧ h' = h) := by
  obtain ⟨a, c, rfl⟩ := hx.shape
  obtain ⟨a2, c2, rfl⟩ := hy.shape
  have l1 := hx.len
  refine spec_go mixed Try.func78 rfl Try.results78 (n := Try.f78.ntmps) (by kernel_rfl) (by simp) ?_
  simp only [go_sem, simprocAttr]
  by_cases hl : xs.length = ys.length
  · have hl' : ((xs.length : Nat) : Int) = ys.length := by omega
    simp only [go_sem, simprocAttr, hl', decide_true]
    refine go_loop (fun z ρ k => ∃ i : Nat, i ≤ xs.length ∧ z = xs.length - i ∧ k = h ∧ xs.take i = ys.take i ∧ ρ 0 = .slice a xs.length c ∧ ρ 1 = .slice a2 ys.length c2 ∧ ρ 12 = .int .i64 ys.length ∧ ρ 13 = .int .i64 i) xs.length ⟨0, by omega, by omega, rfl, rfl, by simp only [go_sem, simprocAttr, hl']⟩ ?_
    rintro z ρ k ⟨i, hi, rfl, rfl, ht, r0, r1, r12, r13⟩
    simp only [go_sem, simprocAttr, r0, r1, r12, r13]
    refine cnd_decide (fun hx' => ?_) (fun hx' => ?_)
    · have h1 : i < xs.length := by omega
      have h2 : i < ys.length := by omega
      obtain ⟨b, off, sp, cc, md, x, rfl, _, hg, hxi, hmx, hc⟩ := hx.atN h1
      obtain ⟨b2, off2, sp2, cc2, md2, y, rfl, _, hg2, hyi, hmy, hc2⟩ := hy.atN h2
      have e9 : IntKind.i64.wrap ((i : Int) + 1) = ((i + 1 : Nat) : Int) := by rw [wi64] <;> omega
      obtain ⟨s1, s2⟩ := take_eq_step ht hxi hyi
      by_cases e : x = y
      · subst e
        simp only [go_sem, simprocAttr, r0, r1, r12, r13, h1, h2, hg, hc, hg2, hc2, e9, decide_true]
        exact Hold.mk ⟨xs.length - (i + 1), by omega, i + 1, by omega, rfl, rfl, s1 rfl, by simp only [go_sem, simprocAttr, r0, r1, r12]⟩
      · have e' : ¬ ((x : Nat) : Int) = y := by omega
        simp only [go_sem, simprocAttr, r0, r1, r12, r13, h1, h2, hg, hc, hg2, hc2, e9, e', decide_false]
        exact congrArg Value.bool (decide_eq_false (s2 e)).symm
    · have : i = xs.length := by omega
      subst this
      rw [List.take_length, hl, List.take_length] at ht
      simp only [go_sem, simprocAttr]
      exact congrArg Value.bool (decide_eq_true ht).symm
  · have hl' : ¬ ((xs.length : Nat) : Int) = ys.length := by omega
    simp only [go_sem, simprocAttr, hl', decide_false]
    exact congrArg Value.bool (decide_eq_false (fun e => hl (by rw [e]))).symm

end
end Go.Proofs.Ytolnacokdjognaa
