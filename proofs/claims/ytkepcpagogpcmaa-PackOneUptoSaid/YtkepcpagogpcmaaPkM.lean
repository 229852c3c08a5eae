/- pack: the law PackOne: what its call comes to. -/
import Derived.Test.YtkepcpagogpcmaaPkL
set_option linter.unusedSimpArgs false
set_option linter.unusedVariables false
set_option linter.unnecessarySimpa false
namespace Go.Proofs.Ytkepcpagogpcmaa
open Go.AM

theorem RdS.part_one {s : RdS} (hb : ∀ x ∈ s.bs, x < 256) (h1 : s.why = 0) (h2 : s.fat = 0) :
    (s.at_ + 8 + s.part.1.length ≤ s.bs.length ∧ s.part.2 = { s with at_ := s.at_ + 8 + s.part.1.length } ∧ s.bs.take (s.at_ + 8 + s.part.1.length) = s.bs.take s.at_ ++ (leB 8 s.part.1.length ++ s.part.1)) ∨
    (s.part.1 = [] ∧ s.part.2.why ≠ 0 ∧ s.part.2.bs = s.bs) := by
  unfold RdS.part
  cases hp : s.peek with
  | none =>
    right
    refine ⟨rfl, ?_, by simp⟩
    unfold RdS.peek at hp
    by_cases h8 : s.at_ + 8 ≤ s.bs.length
    · rw [if_pos ⟨h1, h2, h8⟩] at hp; cases hp
    · simp [RdS.short, h8, RdS.wrong, h1, h2]
  | some n =>
    obtain ⟨k1, k2, _, _, k5⟩ := RdS.peek_some hp
    simp only
    split
    · right; exact ⟨rfl, by simp [RdS.wrong, h1, h2], by simp⟩
    · split
      · right; exact ⟨rfl, by simp [RdS.wrong, h1, h2], by simp⟩
      · left
        have hl : ((s.bs.drop (s.at_ + 8)).take n).length = n := by simp; omega
        rw [hl]
        refine ⟨by omega, rfl, ?_⟩
        have h8 : ((s.bs.drop s.at_).take 8).length = 8 := by simp; omega
        have e := leB_leN ((s.bs.drop s.at_).take 8) (fun x hx => hb x (List.mem_of_mem_drop (List.mem_of_mem_take hx)))
        rw [h8, ← k5] at e
        rw [e, Nat.add_assoc, List.take_add, List.take_add, List.drop_drop]

theorem Lst.fr {α : Type} {r : Rep α} {lo : Nat} {T W : Nat → Prop} {h h' : AHeap} {xs : List α} {v : Value} (hl : Lst r lo T h xs v) (f : Fw W h h') (hd : ∀ j, T j ∨ lo ≤ j → ¬ W j) : Lst r lo T h' xs v :=
  hl.mono (Nat.le_refl _) f.1 (fun j hj hlt _ => ⟨hj, f.2 j hlt (hd j (.inl hj))⟩) (fun j hj hlt => f.2 j hlt (hd j (.inr (hl.blk_ge hj).1)))

theorem one_ok {h : AHeap} {b : List Nat} {vb : Value} (hb : Bytes (· < h.next) h b vb) (hn : b.length ≤ 1073741824) :
    Does Try.prog 5 #[vb] h (fun u _ => u = .bool true) := by
  obtain ⟨a, c, rfl⟩ := hb.shape
  have hbl := hb.len
  refine spec_go mixed Try.func5 rfl Try.results5 (n := Try.f5.ntmps) (by kernel_rfl) (by simp) ?_
  simp only [go_sem, simprocAttr]
  refine cl_spec (new_ok hb (fun j hj => hj)) (fun _ _ _ hc => absurd hc (by decide +kernel)) ?_
  rintro u h1 ⟨rfl, rfl, hr⟩
  have q1 : h.quiet (h.push (rdc (.slice a b.length c) ⟨b, 0, 0, 0⟩)) := .push _ _
  have n1 : h.next < (h.push (rdc (.slice a b.length c) ⟨b, 0, 0, 0⟩)).next := by simp
  generalize h.push (rdc (.slice a b.length c) ⟨b, 0, 0, 0⟩) = h1 at *
  simp only [go_sem, simprocAttr]
  refine go_cutb (fun ρ k => ∃ (s : RdS) (l : List (List Nat)) (u : Value), s.bs = b ∧ RdAt (· < h.next) k h.next (.slice a b.length c) s ∧ h.quiet k ∧ Lst rB.list (h.next + 1) (h.next < ·) k l u ∧ (s.why = 0 ∧ s.fat = 0 → partsB l = b) ∧
    ρ 0 = .slice a b.length c ∧ ρ 3 = .pointer (some ⟨h.next, 0, none⟩) ∧ ρ 4 = u) ?_ ?_
  · refine go_loop (fun m ρ k => ∃ (s : RdS) (l : List (List Nat)) (u : Value), s.bs = b ∧ RdAt (· < h.next) k h.next (.slice a b.length c) s ∧ h.quiet k ∧ Lst rB.list (h.next + 1) (h.next < ·) k l u ∧
        (s.why = 0 ∧ s.fat = 0 → 8 * l.length ≤ s.at_ ∧ partsB l = b.take s.at_) ∧ m = (if s.why = 0 ∧ s.fat = 0 then b.length - s.at_ + 1 else 0) ∧ ρ 0 = .slice a b.length c ∧ ρ 3 = .pointer (some ⟨h.next, 0, none⟩) ∧ ρ 4 = u) (b.length + 1)
      ⟨_, [], _, rfl, hr, q1, .nil _ _ _ _, by simp [partsB], by simp, by simp only [go_sem, simprocAttr]⟩ ?_
    rintro m ρ k ⟨s, l, u, rfl, hr, qk, hl, hp, rfl, r0, r3, r4⟩
    simp only [go_sem, simprocAttr, r0, r3, r4]
    refine cl_spec (Left_ok hr) (fun u h' hp _ => by obtain ⟨_, rfl⟩ := hp; exact .refl _) ?_
    rintro u' k' ⟨rfl, rfl⟩
    have hat := hr.2.2.2
    by_cases hx : 0 < (s.bs.length : Int) - s.at_
    · simp only [go_sem, simprocAttr, hx, r0, r3, r4]
      refine cl_spec (fault_ok hr) (fun u h' hp _ => hp.2) ?_
      rintro u' k2 ⟨rfl, q2⟩
      have hr2 := hr.quiet q2
      have hl2 := hl.quiet q2
      by_cases hw : s.why = 0 ∧ s.fat = 0
      · obtain ⟨hll, hp⟩ := hp hw
        simp only [go_sem, simprocAttr, r0, r3, r4, hw.1, hw.2]
        refine cl_spec (part_ok hr2 (fun j hj => by have := hr2.lt; omega)) (fun _ _ _ hc => absurd hc (by decide +kernel)) ?_
        rintro u3 k3 ⟨hu3, hr3, f3⟩
        have hl3 := Lst.fr hl2 f3 (fun j hj => by omega)
        have hlt := hr.lt
        obtain ⟨u4, k4, e4, hl4, hf4, _⟩ := (hl3.quiet (.push _ (.cells [u3] .rw))).app1 (r := rB.list) (y := s.part.1) (cs := [u3]) (bytes := 24) 1 rfl ⟨u3, rfl, (hu3.quiet (.push _ (.cells [u3] .rw))).mono (fun j hj hlt' => ⟨⟨by have := q2.1; omega, fun e => by have := (hl2.blk_ge e).2; omega⟩, rfl⟩)⟩ (by omega) (by omega) (by have := f3.1; have := q2.1; simp; omega)
        obtain ⟨ap, cp, rfl⟩ := hu3.shape
        simp only [go_sem, simprocAttr, r0, r3, r4, e4]
        have f4 : Fw (fun j => h.next < j) k3 k4 := (Fw.of_quiet (.push _ _)).trans hf4 (fun _ _ e => e) (fun j _ e => by have := (hl3.blk_ge e).1; omega)
        have hr4 : RdAt (· < h.next) k4 h.next (.slice a s.bs.length c) s.part.2 := ⟨by rw [f4.2 _ hr3.lt (by omega)]; exact hr3.1, hr3.2.1.fr f4 (fun j hj _ => by omega), hr3.2.2⟩
        have q4 : h.quiet k4 := Fw.behind (Fw.behind (qk.trans q2) f3 (fun j e => by omega)) f4 (fun j e => by omega)
        rcases RdS.part_one (s := s) hb.lt256 hw.1 hw.2 with ⟨g1, g2, g3⟩ | ⟨g1, g2, g3⟩
        · refine Hold.mk ⟨s.bs.length - (s.at_ + 8 + s.part.1.length) + 1, by omega, s.part.2, l ++ [s.part.1], u4, by rw [g2], hr4, q4, hl4, fun _ => ⟨by rw [g2]; simp; omega, ?_⟩, by rw [g2, if_pos hw], ?_⟩
          · rw [g2]; simp only; rw [g3]; simp [partsB, ← hp]
          · simp only [go_sem, simprocAttr, r0, r3]
        · refine Hold.mk ⟨0, by omega, s.part.2, l ++ [s.part.1], u4, g3, hr4, q4, hl4, fun e => absurd e.1 g2, by rw [if_neg (fun e => g2 e.1)], ?_⟩
          simp only [go_sem, simprocAttr, r0, r3]
      · have hwd : (decide (s.why = 0) && decide (s.fat = 0)) = false := by by_cases h1 : s.why = 0 <;> by_cases h2 : s.fat = 0 <;> simp_all
        simp only [go_sem, simprocAttr, r0, r3, r4, hwd]
        exact Hold.mk ⟨s, l, u, rfl, hr2, qk.trans q2, hl2, fun e => absurd e hw, by simp only [go_sem, simprocAttr, r0, r3, r4]⟩
    · simp only [go_sem, simprocAttr, hx, r0, r3, r4]
      refine Hold.mk ⟨s, l, u, rfl, hr, qk, hl, fun e => ?_, by simp only [go_sem, simprocAttr, r0, r3, r4]⟩
      rw [(hp e).2, List.take_of_length_le (by omega)]
  · rintro ρ k ⟨s, l, u, rfl, hr, qk, hl, hp, r0, r3, r4⟩
    simp only [go_sem, simprocAttr, r0, r3, r4]
    refine cl_spec (fault_ok hr) (fun _ _ _ hc => absurd hc (by decide +kernel)) ?_
    rintro u' k2 ⟨rfl, q2⟩
    have hl2 := hl.quiet q2
    by_cases hw : s.why = 0 ∧ s.fat = 0
    · have hp := hp hw
      simp only [go_sem, simprocAttr, r0, r3, r4, hw.1, hw.2]
      have w1 := WrAt.new k2
      have q3 : k2.quiet (k2.push (.cells [.slice none 0 0] .rw)) := .push _ _
      have hs := (((hl2.isSl (S := fun _ => True) (fun _ _ _ => trivial) (fun _ _ => trivial)).bound).weaken (S' := fun j => j < k2.next) (fun j hj => hj.2)).quiet q3
      refine cl_spec (Part_ok w1 (by simp) hs (w1.off (by simp) (by omega)) (by rw [hp]; simp; omega)) (fun _ _ _ hc => absurd hc (by decide +kernel)) ?_
      rintro u h3 ⟨rfl, v3, w3, f3, n3⟩
      have q4 := Fw.behind q3 f3 (w1.ge (by simp) (by omega))
      simp only [go_sem, simprocAttr, r0]
      refine cl_spec (Bytes_ok w3 (by rw [hp]; simp; omega)) (fun u h' hp _ => hp.1) ?_
      rintro x4 h4 ⟨q5, b4⟩
      simp only [go_sem, simprocAttr, r0]
      refine cl_spec (same_ok (S := fun _ => True) (b4.weaken (fun _ _ => trivial)) ((hb.quiet (((qk.trans q2).trans q4).trans q5)).weaken (fun _ _ => trivial))) (fun u h' hp _ => by obtain ⟨_, rfl⟩ := hp; exact .refl _) ?_
      rintro u h9 ⟨rfl, rfl⟩
      rw [hp]
      simp only [go_sem, simprocAttr, List.nil_append, decide_true]
      refine cl_spec (alive_ok _) (fun u h' hp _ => by obtain ⟨_, rfl⟩ := hp; exact .refl _) ?_
      rintro u h' ⟨rfl, rfl⟩
      simp only [go_sem, simprocAttr]
    · have hwd : (decide (s.why = 0) && decide (s.fat = 0)) = false := by by_cases h1 : s.why = 0 <;> by_cases h2 : s.fat = 0 <;> simp_all
      simp only [go_sem, simprocAttr, r0, r3, r4, hwd]
      refine cl_spec (alive_ok _) (fun _ _ _ hc => absurd hc (by decide +kernel)) ?_
      rintro u h' ⟨rfl, rfl⟩
      simp only [go_sem, simprocAttr]

end Go.Proofs.Ytkepcpagogpcmaa
