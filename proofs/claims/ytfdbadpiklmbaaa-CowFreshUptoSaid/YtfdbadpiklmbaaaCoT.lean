/- cow: the law CowDeep: what its call comes to. -/
import Derived.Test.YtfdbadpiklmbaaaCoS
set_option linter.unusedSimpArgs false
set_option linter.unusedVariables false
set_option linter.unnecessarySimpa false
set_option maxRecDepth 100000
namespace Go.Proofs.Ytfdbadpiklmbaaa
open Go.AM

section
variable {own own' own'' : Nat → Nat} {h h' h'' h0 : AHeap} {S S' Z : Nat → Prop} {id : Nat} {ts : List T} {ps : List (Option Nat)} {v : Value}
theorem Kp.sl {α : Type} {r : Rep α} {xs : List α} {v : Value} (k : Kp own h own' h') {s : Nat} (hs : s ≠ 1) (hx : IsSl r (tg own s) h xs v) : IsSl r (tg own' s) h' xs v := hx.mono (k.other hs)
theorem FoAt.mvq (ha : FoAt own h id ts) (q : h.quiet h') : FoAt (bump own h 0) h' id ts := ha.quiet q 0
/-- The last of a forest. -/
theorem has_last {t : T} : Has (ts ++ [t]) ts.length := ⟨by omega, by simp; omega⟩
theorem last_at {t : T} : (ts ++ [t])[((ts.length : Nat) : Int).toNat]? = some t := by rw [Int.toNat_natCast]; simp
theorem deep0 {t : T} (h : t.depth = 0) : t.size = 0 := by
  cases t with
  | nil => rfl
  | node l x r => simp only [T.depth] at h; omega

theorem deep_law {xs : List Act} {v : Value} (hd : IsSl rAct (· < h.next) h xs v) :
    Does Try.prog 5 #[v] h (fun u _ => u = .bool true) := by
  obtain ⟨A, c, rfl⟩ := hd.shape
  refine spec_go mixed Try.func5 rfl Try.results5 (n := Try.f5.ntmps) (by kernel_rfl) (by simp) ?_
  simp only [go_sem, simprocAttr]
  refine cl_spec (newForest_ok (own := fun _ => 0)) (fun _ _ _ hc => absurd hc (by decide +kernel)) ?_
  rintro u k0 ⟨rfl, q0, hf⟩
  simp only [go_sem, simprocAttr]
  refine cl_spec (alive_ok k0) (fun _ _ _ hc => absurd hc (by decide +kernel)) ?_
  rintro u k ⟨rfl, hk⟩
  obtain rfl : k0 = k := hk.symm
  have hd0 : IsSl rAct (tg (bump (fun _ => 0) h 1) 0) k0 xs _ := hd.mono fun j hj hl => ⟨bump_lt hl, q0.2 j hl⟩
  have hf0 : FoAt (bump (fun _ => 0) h 1) k0 (h.next + 1) [.nil] := hf
  clear hf
  generalize h.next + 1 = id at hf0
  generalize bump (fun _ => 0) h 1 = own at hd0 hf0
  simp only [go_sem, simprocAttr]
  refine cl_spec (short_ok hd0) (fun _ _ _ hc => absurd hc (by decide +kernel)) ?_
  rintro u k ⟨hs, hk⟩
  obtain rfl : k0 = k := hk.symm
  obtain ⟨A2, c2, rfl⟩ := hs.shape
  have hlen := hs.len
  generalize hys : xs.take (min xs.length 300) = ys at hs hlen
  have hy3 : ys.length ≤ 300 := by rw [← hys, List.length_take]; omega
  simp only [go_sem, simprocAttr]
  refine go_loop (fun z ρ k => ∃ (i : Nat) (own : Nat → Nat) (ts : List T), i ≤ ys.length ∧ z = ys.length - i ∧ GF ts ∧ ts.length ≤ i + 1 ∧ ts[0]? = some .nil ∧ FoAt own k id ts ∧ IsSl rAct (tg own 0) k ys (.slice A2 ys.length c2) ∧
    ρ 3 = .pointer (some ⟨id, 0, none⟩) ∧ ρ 16 = .slice A2 ys.length c2 ∧ ρ 17 = .int .i64 ys.length ∧ ρ 18 = .int .i64 i) ys.length
    ⟨0, own, [.nil], by omega, by omega, GF.new, by simp, rfl, hf0, hs, by simp only [go_sem, simprocAttr]⟩ ?_
  rintro z ρ k ⟨i, own, ts, hi, rfl, g, hl, ht0, hf, hs, r3, r16, r17, r18⟩
  simp only [go_sem, simprocAttr, r3, r16, r17, r18]
  refine cnd_decide (fun hx => ?_) (fun hx => ?_)
  · have h1 : i < ys.length := by omega
    have e9 : IntKind.i64.wrap ((i : Int) + 1) = ((i + 1 : Nat) : Int) := by rw [wi64] <;> omega
    obtain ⟨b, off, sp, cc, md, cs, a, hA, hbo, hg, hai, hR, hle, hdt⟩ := hs.at 6 rfl h1
    obtain ⟨rfl, ha0, ha1, ha2⟩ := rAct_iff.1 hR
    have r16' : ρ 16 = .slice (some ⟨b, off, sp⟩) ys.length c2 := by rw [r16, hA]
    unfold Act.cs at hdt
    simp only [go_sem, simprocAttr, r3, r16', r17, r18, h1, hg, hle, hdt]
    refine cl_gen fun k2 e2 => ?_
    have q2 : k.quiet k2 := by rw [e2]; simp only [go_sem, simprocAttr]
    clear e2
    have hd := does_ok (hf.mvq q2) g (by omega) (by rw [u8_max] at ha0; omega) ha1 ha2
    unfold Act.cs at hd
    refine cl_spec hd (fun _ _ _ hc => absurd hc (by decide +kernel)) ?_
    rintro u k3 ⟨rfl, own3, hf3, kp3⟩
    have hs3 := kp3.sl (s := 0) (by decide) (hs.mono (quiet_other q2))
    have gg := F.does_gf g a
    rcases F.does_good g a with ⟨he, t, gt, hn, e⟩ | ⟨he, e⟩
    · rw [e] at hf3 gg
      have hsz := gt.okT.2
      have hdeep := T.deep gt.2 (Nat.le_refl _)
      have hbN : bits (t.size + 1) (t.size + 1) = bitsN (t.size + 1) := rfl
      rw [hbN] at hdeep
      have ht0' : (ts ++ [t])[0]? = some .nil := by
        have : 0 < ts.length := (List.getElem?_eq_some_iff.1 ht0).1
        rw [List.getElem?_append_left this]; exact ht0
      simp only [go_sem, simprocAttr, he, hn, r3]
      have hD : ∀ {k : AHeap} {own : Nat → Nat}, FoAt own k id (ts ++ [t]) → Does Try.prog 13 #[.pointer (some ⟨id, 0, none⟩), .int .i64 ts.length] k (fun u h' => u = .int .i64 t.depth ∧ k.quiet h') := fun {k own} hf => (depthF_ok hf (by simp)).mono fun u h' ⟨q, hh⟩ => by
        rcases hh with ⟨t', _, h2, rfl⟩ | ⟨h1, _⟩
        · rw [last_at] at h2; cases h2; exact ⟨rfl, q⟩
        · exact absurd has_last h1
      have hZ : ∀ {k : AHeap} {own : Nat → Nat}, FoAt own k id (ts ++ [t]) → Does Try.prog 19 #[.pointer (some ⟨id, 0, none⟩), .int .i64 ts.length] k (fun u h' => u = .int .i64 t.size ∧ k.quiet h') := fun {k own} hf => (sizeF_ok hf (by simp)).mono fun u h' ⟨q, hh⟩ => by
        rcases hh with ⟨t', _, h2, rfl⟩ | ⟨h1, _⟩
        · rw [last_at] at h2; cases h2; exact ⟨rfl, q⟩
        · exact absurd has_last h1
      refine cl_spec (hD hf3) (fun _ _ _ hc => absurd hc (by decide +kernel)) ?_
      rintro u k4 ⟨rfl, q4⟩
      simp only [go_sem, simprocAttr, r3]
      refine cl_spec (hZ (hf3.mvq q4)) (fun _ _ _ hc => absurd hc (by decide +kernel)) ?_
      rintro u k5 ⟨rfl, q5⟩
      simp only [go_sem, simprocAttr]
      refine cl_spec (deepest_ok (by omega)) (fun _ _ _ hc => absurd hc (by decide +kernel)) ?_
      rintro u k6 ⟨rfl, hk⟩
      obtain rfl : k5 = k6 := hk.symm
      have c1 : ¬ bitsN (t.size + 1) * 3 / 2 + 1 < t.depth := by omega
      simp only [go_sem, simprocAttr, decide_eq_false c1, r3]
      refine cl_spec (hD ((hf3.mvq q4).mvq q5)) (fun _ _ _ hc => absurd hc (by decide +kernel)) ?_
      rintro u k6 ⟨rfl, q6⟩
      have c2 : ¬ (t.depth : Int) < 0 := by omega
      simp only [go_sem, simprocAttr, decide_eq_false c2, r3]
      refine cl_spec (hZ (((hf3.mvq q4).mvq q5).mvq q6)) (fun _ _ _ hc => absurd hc (by decide +kernel)) ?_
      rintro u k7 ⟨rfl, q7⟩
      have Q := q4.trans (q5.trans (q6.trans q7))
      by_cases c3 : (0 : Int) < t.size
      · simp only [go_sem, simprocAttr, decide_eq_true c3, r3]
        refine cl_spec (hD ((((hf3.mvq q4).mvq q5).mvq q6).mvq q7)) (fun _ _ _ hc => absurd hc (by decide +kernel)) ?_
        rintro u k8 ⟨rfl, q8⟩
        have c4 : ((t.depth : Int) = 0) = False := eq_false fun e => by (have := deep0 (t := t) (by omega); omega)
        simp only [go_sem, simprocAttr, c4, r18, e9]
        exact Hold.mk ⟨ys.length - (i + 1), by omega, i + 1, _, _, by omega, rfl, gg.1, by simp; omega, ht0', hf3.quiet (Q.trans q8) 0, hs3.mono (quiet_other (Q.trans q8)), by simp only [go_sem, simprocAttr, r3, r16, r17]⟩
      · simp only [go_sem, simprocAttr, decide_eq_false c3, r18, e9]
        exact Hold.mk ⟨ys.length - (i + 1), by omega, i + 1, _, _, by omega, rfl, gg.1, by simp; omega, ht0', hf3.quiet Q 0, hs3.mono (quiet_other Q), by simp only [go_sem, simprocAttr, r3, r16, r17]⟩
    · rw [e] at hf3
      have he' : ((F.does ts a).1.2 = 0) = False := eq_false he
      simp only [go_sem, simprocAttr, he', r18, e9]
      exact Hold.mk ⟨ys.length - (i + 1), by omega, i + 1, own3, ts, by omega, rfl, g, by omega, ht0, hf3, hs3, by simp only [go_sem, simprocAttr, r3, r16, r17]⟩
  · simp only [go_sem, simprocAttr, r3]
    have hh0 : Has ts 0 := ⟨Int.le_refl _, by have : 0 < ts.length := (List.getElem?_eq_some_iff.1 ht0).1
                                              omega⟩
    refine cl_spec (depthF_ok hf g.1) (fun _ _ _ hc => absurd hc (by decide +kernel)) ?_
    rintro u k4 ⟨q4, ⟨t, _, h2, rfl⟩ | ⟨h1, _⟩⟩
    · rw [show (0 : Int).toNat = 0 from rfl, ht0] at h2
      cases h2
      simp only [go_sem, simprocAttr, r3, T.depth]
      refine cl_spec (sizeF_ok (hf.mvq q4) g.1) (fun _ _ _ hc => absurd hc (by decide +kernel)) ?_
      rintro u k5 ⟨q5, ⟨t, _, h2, rfl⟩ | ⟨h1, _⟩⟩
      · rw [show (0 : Int).toNat = 0 from rfl, ht0] at h2
        cases h2
        simp only [go_sem, simprocAttr, T.size]
      · exact absurd hh0 h1
    · exact absurd hh0 h1
end
end Go.Proofs.Ytfdbadpiklmbaaa
