/- cow: the law CowStays: what its call comes to. -/
import Derived.Test.YtfdbadpiklmbaaaCoU
set_option linter.unusedSimpArgs false
set_option linter.unusedVariables false
set_option linter.unnecessarySimpa false
set_option maxRecDepth 100000
namespace Go.Proofs.Ytfdbadpiklmbaaa
open Go.AM

/-- A slice, whatever stands there. -/
def rV : Rep Value where
  sz := 1
  R _ _ v c := c = [v] ∧ ∃ a n k, v = .slice a n k
  pos := by decide
  len := by rintro S h x c ⟨rfl, _⟩; rfl
  one := by rintro S h x c ⟨rfl, a, n, k, rfl⟩; rfl
  mono := fun h _ => h

/-- Lists that stand beside the trees of which they were made. -/
structure LsC (own : Nat → Nat) (h : AHeap) (ts : List T) (vs : List Value) (lv : Value) : Prop where
  l : OwnX rV (tg own 4) h vs lv
  n : vs.length = ts.length
  t : ∀ (i : Nat) (t : T) (v : Value), ts[i]? = some t → vs[i]? = some v → IsSl rExt (tg own 3) h t.list v

section
variable {own own' own'' : Nat → Nat} {h h' h'' h0 : AHeap} {S S' Z : Nat → Prop} {id : Nat} {ts : List T} {ps : List (Option Nat)} {v lv : Value} {vs : List Value}
theorem LsC.mono (c : LsC own h ts vs lv) (hn : h.next ≤ h'.next) (hm : ∀ t, t = 3 ∨ t = 4 → ∀ j, tg own t j → j < h.next → tg own' t j ∧ h'.get j = h.get j) : LsC own' h' ts vs lv :=
  ⟨c.l.mono hn (hm 4 (.inr rfl)), c.n, fun i t v h1 h2 => (c.t i t v h1 h2).mono (hm 3 (.inl rfl))⟩
theorem LsC.quiet (c : LsC own h ts vs lv) (q : h.quiet h') (t : Nat) : LsC (bump own h t) h' ts vs lv := c.mono q.1 fun _ _ => quiet_other q
theorem LsC.kp (c : LsC own h ts vs lv) (k : Kp own h own' h') : LsC own' h' ts vs lv := c.mono k.1 fun t ht => k.other (by omega)
theorem F.list_at {ts : List T} {i : Nat} {t : T} (hi : ts[i]? = some t) : F.list ts (i : Int) = (t.list, 0) := by
  have hl := (List.getElem?_eq_some_iff.1 hi).1
  unfold F.list
  rw [if_pos ⟨by omega, by omega⟩, Int.toNat_natCast, List.getD, hi]; rfl

/-- A tree's list is the one that stands there. -/
theorem again_ok (hf : FoAt own h id ts) (g : GF ts) {i : Nat} {t : T} (hi : ts[i]? = some t) : Does Try.prog 12 #[.pointer (some ⟨id, 0, none⟩), .int .i64 i] h
    (fun u h' => ∃ v, u = .tuple #[v, .int .i64 0] ∧ OwnL rExt (h.next ≤ ·) h' t.list v ∧ h.quiet h') := by
  have := listF_ok hf g (root := (i : Int))
  rw [F.list_at hi] at this
  exact this

theorem stays_ok {xs : List Act} {v : Value} (hd : IsSl rAct (· < h.next) h xs v) :
    Does Try.prog 4 #[v] h (fun u _ => u = .bool true) := by
  obtain ⟨A, c, rfl⟩ := hd.shape
  refine spec_go mixed Try.func4 rfl Try.results4 (n := Try.f4.ntmps) (by kernel_rfl) (by simp) ?_
  simp only [go_sem, simprocAttr]
  refine cl_spec (newForest_ok (own := fun _ => 0)) (fun _ _ _ hc => absurd hc (by decide +kernel)) ?_
  rintro u k0 ⟨rfl, q0, hf⟩
  simp only [go_sem, simprocAttr]
  refine cl_spec (alive_ok k0) (fun _ _ _ hc => absurd hc (by decide +kernel)) ?_
  rintro u k ⟨rfl, hk⟩
  obtain rfl : k0 = k := hk.symm
  have hd0 : IsSl rAct (tg (bump (fun _ => 0) h 1) 0) k0 xs _ := hd.mono fun j hj hl => ⟨bump_lt hl, q0.2 j hl⟩
  have hf0 : FoAt (bump (fun _ => 0) h 1) k0 (h.next + 1) [.nil] := hf
  clear hf
  generalize h.next + 1 = id at hf0
  generalize bump (fun _ => 0) h 1 = own at hd0 hf0
  simp only [go_sem, simprocAttr]
  refine cl_gen fun k1 e1 => ?_
  have q1 : k0.quiet k1 := by rw [e1]; simp only [go_sem, simprocAttr]
  have g1 : k1.get k0.next = .cells [.slice none 0 0] .rw := by rw [e1]; simp only [go_sem, simprocAttr]
  have n1 : k0.next < k1.next := by rw [e1]; simp
  clear e1
  have hls : LsC (bump own k0 4) k1 [.nil] [.slice none 0 0] (.slice (some ⟨k0.next, 0, none⟩) 1 1) := by
    refine ⟨.inr ⟨k0.next, rfl, bump_ge (Nat.le_refl _), n1, by decide, ?_⟩, rfl, ?_⟩
    · exact .fresh (css := [[.slice none 0 0]]) (.cons ⟨rfl, _, _, _, rfl⟩ .nil) rfl (by decide) (bump_ge (Nat.le_refl _)) g1 rfl
    · intro i t v h1 h2
      cases i with
      | zero => simp at h1 h2; subst h1; subst h2; exact .nil _ _ _
      | succ i => simp at h1
  have hf1 := hf0.quiet q1 4
  have hd1 : IsSl rAct (tg (bump own k0 4) 0) k1 xs _ := hd0.mono (quiet_other q1)
  generalize bump own k0 4 = own at hls hf1 hd1
  clear hf0 hd0 g1
  refine cl_spec (short_ok hd1) (fun _ _ _ hc => absurd hc (by decide +kernel)) ?_
  rintro u k ⟨hs, hk⟩
  obtain rfl : k1 = k := hk.symm
  obtain ⟨A2, c2, rfl⟩ := hs.shape
  have hlen := hs.len
  generalize hys : xs.take (min xs.length 300) = ys at hs hlen
  have hy3 : ys.length ≤ 300 := by rw [← hys, List.length_take]; omega
  simp only [go_sem, simprocAttr]
  refine go_loop (fun z ρ k => ∃ (i : Nat) (own : Nat → Nat) (ts : List T) (vs : List Value) (lv : Value), i ≤ ys.length ∧ z = ys.length - i ∧ GF ts ∧ ts.length ≤ i + 1 ∧ FoAt own k id ts ∧ LsC own k ts vs lv ∧ IsSl rAct (tg own 0) k ys (.slice A2 ys.length c2) ∧
    ρ 3 = .pointer (some ⟨id, 0, none⟩) ∧ ρ 4 = lv ∧ ρ 27 = .slice A2 ys.length c2 ∧ ρ 28 = .int .i64 ys.length ∧ ρ 29 = .int .i64 i) ys.length
    ⟨0, own, [.nil], _, _, by omega, by omega, GF.new, by simp, hf1, hls, hs, by simp only [go_sem, simprocAttr]⟩ ?_
  clear hf1 hls hd1 hs q0 q1 n1 own
  rintro z ρ k ⟨i, own, ts, vs, lv, hi, rfl, g, hl, hf, hls, hs, r3, r4, r27, r28, r29⟩
  simp only [go_sem, simprocAttr, r3, r4, r27, r28, r29]
  refine cnd_decide (fun hx => ?_) (fun hx => ?_)
  · have h1 : i < ys.length := by omega
    have e9 : IntKind.i64.wrap ((i : Int) + 1) = ((i + 1 : Nat) : Int) := by rw [wi64] <;> omega
    obtain ⟨b, off, sp, cc, md, cs, a, hA, hbo, hg, hai, hR, hle, hdt⟩ := hs.at 6 rfl h1
    obtain ⟨rfl, ha0, ha1, ha2⟩ := rAct_iff.1 hR
    have r27' : ρ 27 = .slice (some ⟨b, off, sp⟩) ys.length c2 := by rw [r27, hA]
    unfold Act.cs at hdt
    simp only [go_sem, simprocAttr, r3, r27', r28, r29, h1, hg, hle, hdt]
    refine cl_gen fun k2 e2 => ?_
    have q2 : k.quiet k2 := by rw [e2]; simp only [go_sem, simprocAttr]
    clear e2
    have hd := does_ok (hf.mvq q2) g (by omega) (by rw [u8_max] at ha0; omega) ha1 ha2
    unfold Act.cs at hd
    refine cl_spec hd (fun _ _ _ hc => absurd hc (by decide +kernel)) ?_
    rintro u k3 ⟨rfl, own3, hf3, kp3⟩
    have hs3 := kp3.sl (s := 0) (by decide) (hs.mono (quiet_other q2))
    have hls3 := (hls.quiet q2 0).kp kp3
    have gg := F.does_gf g a
    rcases F.does_good g a with ⟨he, t, gt, hn, e⟩ | ⟨he, e⟩
    · rw [e] at hf3 gg
      have hn3 := hls3.n
      simp only [go_sem, simprocAttr, he, hn, r3]
      refine cl_spec (again_ok hf3 gg.1 (i := ts.length) (t := t) (by simp)) (fun _ _ _ hc => absurd hc (by decide +kernel)) ?_
      rintro u k4 ⟨v4, rfl, o4, q4⟩
      obtain ⟨av, cv, rfl⟩ := o4.sl.shape
      have hf4 := hf3.quiet q4 3
      have hls4 := hls3.quiet q4 3
      have hs4 : IsSl rAct (tg (bump own3 k3 3) 0) k4 ys _ := hs3.mono (quiet_other q4)
      have l4 : IsSl rExt (tg (bump own3 k3 3) 3) k4 t.list _ := o4.slz.mono fun j hj _ => ⟨bump_ge hj, rfl⟩
      generalize bump own3 k3 3 = own4 at hf4 hls4 hs4 l4
      obtain ⟨al, cl', rfl⟩ := hls4.l.slz.shape
      have hc1 : ((ts.length : Int) = vs.length) = True := eq_true (by omega)
      simp only [go_sem, simprocAttr, r4, hc1]
      refine cl_spec (rRight_ok l4) (fun _ _ _ hc => absurd hc (by decide +kernel)) ?_
      rintro u k5 ⟨⟨bb, rfl, hbb⟩, q5⟩
      obtain rfl : bb = true := hbb.2 (right_iff.2 gt.1)
      have hf5 := hf4.quiet q5 0
      have hls5 := hls4.quiet q5 0
      have hs5 : IsSl rAct (tg (bump own4 k4 0) 0) k5 ys _ := hs4.mono (quiet_other q5)
      have l5 : IsSl rExt (tg (bump own4 k4 0) 3) k5 t.list _ := l4.mono (quiet_other q5)
      generalize bump own4 k4 0 = own5 at hf5 hls5 hs5 l5
      have hvl := hls5.l.slz.len
      obtain ⟨v', k6, e6, o6, f6, hnew, a6, n6, c6, rfl⟩ := hls5.l.app2 (y := .slice av t.list.length cv) (cs := [.slice av t.list.length cv]) (bytes := 24) (fun e => e) 1 rfl (fun _ => ⟨rfl, _, _, _, rfl⟩) (by omega) (by omega)
      have F6 : Fw (tg own5 4) k5 k6 := f6.mono fun j _ e => (hls5.l.blkz e).1
      have hf6 : FoAt (bump own5 k5 4) k6 id (ts ++ [t]) := hf5.mono F6.1 fun s hs => F6.other (by omega)
      have hs6 : IsSl rAct (tg (bump own5 k5 4) 0) k6 ys _ := hs5.mono (F6.other (by decide))
      have hls6 : LsC (bump own5 k5 4) k6 (ts ++ [t]) (vs ++ [.slice av t.list.length cv]) (.slice a6 n6 c6) := by
        refine ⟨.inl (o6.weaken fun _ => bump_up), by simp [hls5.n], fun j t' v' h1 h2 => ?_⟩
        by_cases hj : j < ts.length
        · rw [List.getElem?_append_left hj] at h1
          rw [List.getElem?_append_left (by rw [hls5.n]; exact hj)] at h2
          exact (hls5.t j t' v' h1 h2).mono (F6.other (by decide))
        · have : j = ts.length := by
            have := (List.getElem?_eq_some_iff.1 h1).1
            simp at this; omega
          subst this
          have e3 : t = t' := by simpa using h1
          have e4 : Value.slice av t.list.length cv = v' := by rw [← hls5.n] at h2; simpa using h2
          subst e3; subst e4
          exact l5.mono (F6.other (by decide))
      generalize bump own5 k5 4 = own6 at hf6 hs6 hls6
      have hlen6 := hls6.l.slz.len
      have en6 : n6 = ts.length + 1 := by rw [hlen6.1]; simp [hls5.n]
      subst en6
      have em : IntKind.i64.wrap ((ts.length : Int) - 3) = (ts.length : Int) - 3 := by rw [wi64] <;> omega
      have em2 : max 0 ((ts.length : Int) - 3) = ((ts.length - 3 : Nat) : Int) := by omega
      simp only [go_sem, simprocAttr, r4, e6, em, em2]
      refine go_loop (fun z ρ K => ∃ (j : Nat) (own : Nat → Nat), j ≤ ts.length ∧ z = ts.length - j ∧ FoAt own K id (ts ++ [t]) ∧ LsC own K (ts ++ [t]) (vs ++ [.slice av t.list.length cv]) (.slice a6 (ts.length + 1) c6) ∧ IsSl rAct (tg own 0) K ys (.slice A2 ys.length c2) ∧
        ρ 3 = .pointer (some ⟨id, 0, none⟩) ∧ ρ 4 = .slice a6 (ts.length + 1) c6 ∧ ρ 27 = .slice A2 ys.length c2 ∧ ρ 28 = .int .i64 ys.length ∧ ρ 29 = .int .i64 i ∧ ρ 7 = .int .i64 ts.length ∧ ρ 11 = .int .i64 j) (ts.length - (ts.length - 3))
        ⟨ts.length - 3, own6, by omega, rfl, hf6, hls6, hs6, by simp only [go_sem, simprocAttr, r3, r27, r28, r29]⟩ ?_
      clear hf6 hls6 hs6 r3 r4 r27 r28 r29 r27'
      rintro z ρ K ⟨j, own7, hj, rfl, hf7, hls7, hs7, r3, r4, r27, r28, r29, r7, r11⟩
      simp only [go_sem, simprocAttr, r3, r4, r27, r28, r29, r7, r11]
      refine cnd_decide (fun hy => ?_) (fun hy => ?_)
      · have hjl : j < ts.length := by omega
        have e8 : IntKind.i64.wrap ((j : Int) + 1) = ((j + 1 : Nat) : Int) := by rw [wi64] <;> omega
        have htj : (ts ++ [t])[j]? = some ts[j] := by rw [List.getElem?_append_left hjl, List.getElem?_eq_getElem hjl]
        simp only [go_sem, simprocAttr, r3, r4, r27, r28, r29, r7, r11]
        refine cl_spec (again_ok hf7 gg.1 htj) (fun _ _ _ hc => absurd hc (by decide +kernel)) ?_
        rintro u K2 ⟨v8, rfl, o8, q8⟩
        obtain ⟨av8, cv8, rfl⟩ := o8.sl.shape
        have hls8 := hls7.quiet q8 0
        have hjv : j < ts.length + 1 := by omega
        obtain ⟨b8, off8, sp8, cc8, md8, w8, x8, hA8, _, hg8, hx8, ⟨hR8, _⟩, hcc8⟩ := hls8.l.slz.at1 rfl hjv
        obtain rfl : w8 = x8 := by simpa using hR8
        have hsl8 := hls8.t j _ w8 htj hx8
        simp only [go_sem, simprocAttr, r4, r11, hA8, hg8, hcc8, hjv]
        refine cl_spec (same_ok o8.sl hsl8) (fun _ _ _ hc => absurd hc (by decide +kernel)) ?_
        rintro u K3 ⟨rfl, hk⟩
        obtain rfl : K2 = K3 := hk.symm
        have hdd : decide (ts[j].list = ts[j].list) = true := decide_eq_true rfl
        simp only [go_sem, simprocAttr, hdd, r11, e8]
        exact Hold.mk ⟨ts.length - (j + 1), by omega, j + 1, _, by omega, rfl, hf7.quiet q8 0, by rw [← hA8]; exact hls8, hs7.mono (quiet_other q8), by simp only [go_sem, simprocAttr, r3, r4, r27, r28, r29, r7, hA8]⟩
      · simp only [go_sem, simprocAttr, r29, e9]
        exact Hold.mk ⟨ys.length - (i + 1), by omega, i + 1, own7, ts ++ [t], _, _, by omega, rfl, gg.1, by simp; omega, hf7, hls7, hs7, by simp only [go_sem, simprocAttr, r3, r4, r27, r28]⟩
    · rw [e] at hf3
      have he' : ((F.does ts a).1.2 = 0) = False := eq_false he
      simp only [go_sem, simprocAttr, he', r29, e9]
      exact Hold.mk ⟨ys.length - (i + 1), by omega, i + 1, own3, ts, vs, lv, by omega, rfl, g, by omega, hf3, hls3, hs3, by simp only [go_sem, simprocAttr, r3, r4, r27, r28]⟩
  · obtain ⟨al, cl', rfl⟩ := hls.l.slz.shape
    have hvl := hls.l.slz.len
    have hvn := hls.n
    clear hs
    simp only [go_sem, simprocAttr, r4]
    refine go_loop (fun z ρ K => ∃ (j : Nat) (own : Nat → Nat), j ≤ vs.length ∧ z = vs.length - j ∧ FoAt own K id ts ∧ LsC own K ts vs (.slice al vs.length cl') ∧
        ρ 3 = .pointer (some ⟨id, 0, none⟩) ∧ ρ 90 = .slice al vs.length cl' ∧ ρ 91 = .int .i64 vs.length ∧ ρ 92 = .int .i64 j) vs.length
        ⟨0, own, by omega, by omega, hf, hls, by simp only [go_sem, simprocAttr, r3]⟩ ?_
    clear hf hls r3 r4 r27 r28 r29
    rintro z ρ K ⟨j, own7, hj, rfl, hf7, hls7, r3, r90, r91, r92⟩
    simp only [go_sem, simprocAttr, r3, r90, r91, r92]
    refine cnd_decide (fun hy => ?_) (fun hy => ?_)
    · have hjv : j < vs.length := by omega
      have hjl : j < ts.length := by omega
      have e8 : IntKind.i64.wrap ((j : Int) + 1) = ((j + 1 : Nat) : Int) := by rw [wi64] <;> omega
      have htj : ts[j]? = some ts[j] := List.getElem?_eq_getElem hjl
      obtain ⟨b8, off8, sp8, cc8, md8, w8, x8, hA8, _, hg8, hx8, ⟨hR8, _⟩, hcc8⟩ := hls7.l.slz.at1 rfl hjv
      obtain rfl : w8 = x8 := by simpa using hR8
      simp only [go_sem, simprocAttr, r3, r90, r91, r92, hA8, hg8, hcc8, hjv]
      refine cl_spec (again_ok hf7 g htj) (fun _ _ _ hc => absurd hc (by decide +kernel)) ?_
      rintro u K2 ⟨v8, rfl, o8, q8⟩
      obtain ⟨av8, cv8, rfl⟩ := o8.sl.shape
      have hls8 := hls7.quiet q8 0
      have hsl8 := hls8.t j _ w8 htj hx8
      simp only [go_sem, simprocAttr]
      refine cl_spec (same_ok o8.sl hsl8) (fun _ _ _ hc => absurd hc (by decide +kernel)) ?_
      rintro u K3 ⟨rfl, hk⟩
      obtain rfl : K2 = K3 := hk.symm
      have hdd : decide (ts[j].list = ts[j].list) = true := decide_eq_true rfl
      simp only [go_sem, simprocAttr, hdd, r92, e8]
      exact Hold.mk ⟨vs.length - (j + 1), by omega, j + 1, _, by omega, rfl, hf7.quiet q8 0, by rw [← hA8]; exact hls8, by simp only [go_sem, simprocAttr, r3, r90, r91, hA8]⟩
    · simp only [go_sem, simprocAttr]
end
end Go.Proofs.Ytfdbadpiklmbaaa
