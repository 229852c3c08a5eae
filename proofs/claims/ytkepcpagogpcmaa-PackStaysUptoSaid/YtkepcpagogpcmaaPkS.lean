/- pack: behind a fault nothing is got. -/
import Derived.Test.YtkepcpagogpcmaaPkA
set_option linter.unusedSimpArgs false
set_option linter.unusedVariables false
set_option linter.unnecessarySimpa false
namespace Go.Proofs.Ytkepcpagogpcmaa
open Go.AM

def rAct : Rep (Nat × Int) := .pair (.nat .u8) (.int .i64)

theorem tmod4 (k : Nat) : ((k : Int).tmod 4) = ((k % 4 : Nat) : Int) := by rw [Int.tmod_eq_emod_of_nonneg (by omega)]; omega

/-- A step keeps this. -/
def RdS.ok (s s' : RdS) : Prop := s'.bs = s.bs ∧ s.at_ ≤ s'.at_ ∧ (¬ (s.why = 0 ∧ s.fat = 0) → s' = s)

theorem RdS.wrong_ok' (s : RdS) (e p : Int) : s.ok (s.wrong e p) := ⟨by simp, by simp, fun hb => by unfold RdS.wrong; rw [if_neg hb]⟩
theorem RdS.short_ok (s : RdS) : s.ok s.short := ⟨by simp, by simp, fun hb => by unfold RdS.short; split; rfl; unfold RdS.wrong; rw [if_neg hb]⟩
theorem RdS.peek_bad {s : RdS} (hb : ¬ (s.why = 0 ∧ s.fat = 0)) : s.peek = none := by unfold RdS.peek; rw [if_neg (fun e => hb ⟨e.1, e.2.1⟩)]
theorem RdS.get_ok' (s : RdS) : s.ok s.get.2 ∧ (¬ (s.why = 0 ∧ s.fat = 0) → s.get.1 = 0) := by
  unfold RdS.get
  cases hp : s.peek with
  | none => exact ⟨s.short_ok, fun _ => rfl⟩
  | some n => exact ⟨⟨rfl, by simp, fun hb => by rw [RdS.peek_bad hb] at hp; cases hp⟩, fun hb => by rw [RdS.peek_bad hb] at hp; cases hp⟩
theorem RdS.int_ok' (s : RdS) (m : Int) : s.ok (s.int m).2 ∧ (¬ (s.why = 0 ∧ s.fat = 0) → (s.int m).1 = 0) := by
  unfold RdS.int
  cases hp : s.peek with
  | none => exact ⟨s.short_ok, fun _ => rfl⟩
  | some n =>
    simp only
    split
    · exact ⟨s.wrong_ok' _ _, fun _ => rfl⟩
    · exact ⟨⟨rfl, by simp, fun hb => by rw [RdS.peek_bad hb] at hp; cases hp⟩, fun hb => by rw [RdS.peek_bad hb] at hp; cases hp⟩
theorem RdS.part_ok' (s : RdS) : s.ok s.part.2 ∧ (¬ (s.why = 0 ∧ s.fat = 0) → s.part.1 = []) := by
  unfold RdS.part
  cases hp : s.peek with
  | none => exact ⟨s.short_ok, fun _ => rfl⟩
  | some n =>
    simp only
    split
    · exact ⟨s.wrong_ok' _ _, fun _ => rfl⟩
    · split
      · exact ⟨s.wrong_ok' _ _, fun _ => rfl⟩
      · exact ⟨⟨rfl, by simp; omega, fun hb => by rw [RdS.peek_bad hb] at hp; cases hp⟩, fun hb => by rw [RdS.peek_bad hb] at hp; cases hp⟩
theorem RdS.fin_ok' (s : RdS) : s.ok s.fin := by
  unfold RdS.fin
  split
  · exact s.wrong_ok' _ _
  · exact ⟨rfl, by simp, fun _ => rfl⟩

theorem stays_ok {h : AHeap} {bs : List Nat} {acts : List (Nat × Int)} {v w : Value} (hb : Bytes (· < h.next) h bs v) (hs : IsSl rAct (· < h.next) h acts w) :
    Does Try.prog 6 #[v, w] h (fun u _ => u = .bool true) := by
  obtain ⟨a, cap, rfl⟩ := hs.shape
  obtain ⟨a', cap', rfl⟩ := hb.shape
  have hl := hs.len
  have hlb := hb.len
  refine spec_go mixed Try.func6 rfl Try.results6 (n := Try.f6.ntmps) (by kernel_rfl) (by simp) ?_
  simp only [go_sem, simprocAttr]
  refine cl_spec (new_ok hb (fun j hj => hj)) (fun _ _ _ hc => absurd hc (by decide +kernel)) ?_
  rintro u h1 ⟨rfl, rfl, hr⟩
  simp only [go_sem, simprocAttr]
  refine cl_spec (alive_ok _) (fun u h' hp _ => by obtain ⟨_, rfl⟩ := hp; exact .refl _) ?_
  rintro u h' ⟨rfl, rfl⟩
  simp only [go_sem, simprocAttr]
  refine go_loop (fun m ρ k => ∃ (i : Nat) (s : RdS), i ≤ acts.length ∧ m = acts.length - i ∧ RdAt (· < h.next) k h.next (.slice a' bs.length cap') s ∧ s.bs = bs ∧ IsSl rAct (· < h.next) k acts (.slice a acts.length cap) ∧
    ρ 0 = .slice a' bs.length cap' ∧ ρ 5 = .pointer (some ⟨h.next, 0, none⟩) ∧ ρ 21 = .slice a acts.length cap ∧ ρ 22 = .int .i64 acts.length ∧ ρ 23 = .int .i64 i) acts.length
    ⟨0, _, by omega, by omega, hr, rfl, hs.quiet (.push _ _), by simp only [go_sem, simprocAttr]⟩ ?_
  rintro m ρ k ⟨i, s, hi, rfl, hr, hsb, hs, h0, h5, h21, h22, h23⟩
  simp only [go_sem, simprocAttr, h0, h5, h21, h22, h23]
  refine cnd_decide (fun hx => ?_) (fun hx => by simp only [go_sem, simprocAttr])
  have hx' : i < acts.length := by omega
  obtain ⟨b, off, sp, c, md, cs, x, rfl, hbs, hg, hxi, ⟨c1, c2, rfl, ⟨rfl, hk1⟩, ⟨rfl, hk2⟩⟩, hlc, hdc⟩ := hs.at 2 rfl hx'
  simp only [List.cons_append, List.nil_append] at hdc
  have e9 : IntKind.i64.wrap ((i : Int) + 1) = ((i + 1 : Nat) : Int) := by rw [wi64] <;> omega
  simp only [go_sem, simprocAttr, hx', hg, hlc, hdc, h0, h5, h21, h22, h23, tmod4]
  have q1 : k.quiet (k.push (.cells [.int .u8 x.1, .int .i64 x.2] .rw)) := .push _ _
  refine cl_spec (fault_ok (hr.quiet q1)) (fun _ _ _ hc => absurd hc (by decide +kernel)) ?_
  rintro u k1 ⟨rfl, q2⟩
  have hr1 := (hr.quiet q1).quiet q2
  simp only [go_sem, simprocAttr, h0, h5, h21, h22, h23, tmod4]
  refine cl_spec (at_ok hr1) (fun _ _ _ hc => absurd hc (by decide +kernel)) ?_
  rintro u k2 ⟨rfl, rfl⟩
  have eA : k2.get k.next = .cells [.int .u8 x.1, .int .i64 x.2] .rw := by rw [q2.2 _ (by simp)]; simp
  have lA : k.next < k2.next := AHeap.lt_of_alive _ (by rw [eA]; simp)
  simp only [go_sem, simprocAttr, h0, h5, h21, h22, h23, tmod4, eA, AHeap.get_push_lt _ _ lA]
  have f0 : Fw (· = h.next) k (k2.push (.cells [.int .i64 s.why, .int .i64 s.fat] .rw)) := .of_quiet ((q1.trans q2).trans (.push _ _))
  have hr3 := hr1.quiet (.push _ (.cells [.int .i64 s.why, .int .i64 s.fat] .rw))
  have lk : h.next < k.next := hr.lt
  generalize hk3 : k2.push (.cells [.int .i64 s.why, .int .i64 s.fat] .rw) = k3 at *
  have eB : k3.get k2.next = .cells [.int .i64 s.why, .int .i64 s.fat] .rw := by rw [← hk3]; simp
  have lB : k2.next < k3.next := by rw [← hk3]; simp
  have eA3 : k3.get k.next = .cells [.int .u8 x.1, .int .i64 x.2] .rw := by rw [← hk3, AHeap.get_push_lt _ _ lA]; exact eA
  have x4 : x.1 % 4 < 4 := Nat.mod_lt _ (by omega)
  refine cnd_join (fun ρ' k' => ∃ (s' : RdS) (n : Nat) (m : Int) (p : List Nat) (ap : Option Addr) (cp : Nat), RdAt (· < h.next) k' h.next (.slice a' bs.length cap') s' ∧ s.ok s' ∧ Fw (· = h.next) k3 k' ∧ (¬ (s.why = 0 ∧ s.fat = 0) → n = 0 ∧ m = 0 ∧ p = []) ∧
    ρ' 10 = .int .u64 n ∧ ρ' 11 = .int .i64 m ∧ ρ' 12 = .slice ap p.length cp ∧ ρ' 0 = .slice a' bs.length cap' ∧ ρ' 5 = .pointer (some ⟨h.next, 0, none⟩) ∧ ρ' 8 = .pointer (some ⟨k2.next, 0, none⟩) ∧ ρ' 9 = .int .i64 s.at_ ∧ ρ' 21 = .slice (some ⟨b, off, sp⟩) acts.length cap ∧ ρ' 22 = .int .i64 acts.length ∧ ρ' 23 = .int .i64 i) ?_ ?_
  · refine cnd_decide (fun hx => ?_) (fun hx => ?_)
    · simp only [go_sem, simprocAttr, h0, h5, h21, h22, h23]
      refine cl_spec (get_ok hr3) (fun _ _ _ hc => absurd hc (by decide +kernel)) ?_
      rintro u k4 ⟨rfl, h1, h2⟩
      simp only [go_sem, simprocAttr, h0, h5, h21, h22, h23]
      refine Hold.mk ⟨_, s.get.1, 0, [], none, 0, h1, (s.get_ok').1, h2, fun hb => ⟨(s.get_ok').2 hb, rfl, rfl⟩, ?_⟩
      simp only [go_sem, simprocAttr, h0, h5, h21, h22, h23]
    · simp only [go_sem, simprocAttr, h0, h5, h21, h22, h23]
      refine cnd_decide (fun hx => ?_) (fun hx => ?_)
      · simp only [go_sem, simprocAttr, h0, h5, h21, h22, h23, eA3]
        refine cl_spec (int_ok hr3 hk2.2) (fun _ _ _ hc => absurd hc (by decide +kernel)) ?_
        rintro u k4 ⟨rfl, h1, h2⟩
        simp only [go_sem, simprocAttr, h0, h5, h21, h22, h23]
        refine Hold.mk ⟨_, 0, (s.int x.2).1, [], none, 0, h1, (s.int_ok' _).1, h2, fun hb => ⟨rfl, (s.int_ok' _).2 hb, rfl⟩, ?_⟩
        simp only [go_sem, simprocAttr, h0, h5, h21, h22, h23]
      · simp only [go_sem, simprocAttr, h0, h5, h21, h22, h23]
        refine cnd_decide (fun hx => ?_) (fun hx => ?_)
        · simp only [go_sem, simprocAttr, h0, h5, h21, h22, h23]
          refine cl_spec (part_ok hr3 (fun j hj => by omega)) (fun _ _ _ hc => absurd hc (by decide +kernel)) ?_
          rintro u k4 ⟨hp, h1, h2⟩
          obtain ⟨ap, cp, rfl⟩ := hp.shape
          simp only [go_sem, simprocAttr, h0, h5, h21, h22, h23]
          refine Hold.mk ⟨_, 0, 0, s.part.1, ap, cp, h1, (s.part_ok').1, h2, fun hb => ⟨rfl, rfl, (s.part_ok').2 hb⟩, ?_⟩
          simp only [go_sem, simprocAttr, h0, h5, h21, h22, h23]
        · simp only [go_sem, simprocAttr, h0, h5, h21, h22, h23]
          refine cl_spec (fin_ok hr3) (fun _ _ _ hc => absurd hc (by decide +kernel)) ?_
          rintro u k4 ⟨rfl, h1, h2⟩
          simp only [go_sem, simprocAttr, h0, h5, h21, h22, h23]
          refine Hold.mk ⟨_, 0, 0, [], none, 0, h1, s.fin_ok', h2, fun hb => ⟨rfl, rfl, rfl⟩, ?_⟩
          simp only [go_sem, simprocAttr, h0, h5, h21, h22, h23]
  · rintro ρ' k' ⟨s', n, m, p, ap, cp, hr', hok, f4, hbad, h10, h11, h12, h0, h5, h8, h9, h21, h22, h23⟩
    have eB' : k'.get k2.next = .cells [.int .i64 s.why, .int .i64 s.fat] .rw := by rw [f4.2 _ lB (by omega)]; exact eB
    have fall : Fw (· = h.next) k k' := f0.trans f4 (fun _ _ e => e) (fun _ _ e => e)
    simp only [go_sem, simprocAttr, h0, h5, h8, h21, h22, h23, h10, h11, h12, eB']
    have last : ∀ k'', Fw (· = h.next) k k'' → RdAt (· < h.next) k'' h.next (.slice a' bs.length cap') s' → IsSl rAct (· < h.next) k'' acts (.slice (some ⟨b, off, sp⟩) acts.length cap) := fun k'' f _ => hs.fr f (fun j hj _ e => by omega)
    have hle := hr'.2.2.2
    have hsb' : s'.bs = bs := hok.1.trans hsb
    have hmon := hok.2.1
    have e10 : IntKind.i64.wrap ((bs.length : Int) - s'.at_) = bs.length - s'.at_ := by rw [hsb'] at hle; rw [wi64] <;> omega
    have fin : ∀ (k'' : AHeap), k'.quiet k'' → ∃ m', m' < acts.length - i ∧ ∃ (i' : Nat) (s : RdS), i' ≤ acts.length ∧ m' = acts.length - i' ∧ RdAt (· < h.next) k'' h.next (.slice a' bs.length cap') s ∧ s.bs = bs ∧ IsSl rAct (· < h.next) k'' acts (.slice (some ⟨b, off, sp⟩) acts.length cap) ∧ i' = i + 1 :=
      fun k'' q => ⟨acts.length - (i + 1), by omega, i + 1, s', by omega, rfl, hr'.quiet q, hsb', (hs.fr fall (fun j hj _ e => by omega)).quiet q, rfl⟩
    have l1 : ¬ (s'.at_ < s.at_) := by omega
    have l2 : ¬ (bs.length < s'.at_) := by rw [hsb'] at hle; omega
    by_cases hw : s.why = 0 ∧ s.fat = 0
    · simp only [go_sem, simprocAttr, h0, h5, h8, h9, h21, h22, h23, hw.1, hw.2]
      refine cl_spec (at_ok hr') (fun _ _ _ hc => absurd hc (by decide +kernel)) ?_
      rintro u k6 ⟨rfl, rfl⟩
      simp only [go_sem, simprocAttr, h0, h5, h8, h9, h21, h22, h23, l1, l2, e10, hsb', e9]
      refine cl_spec (at_ok hr') (fun _ _ _ hc => absurd hc (by decide +kernel)) ?_
      rintro u k7 ⟨rfl, rfl⟩
      simp only [go_sem, simprocAttr, h0, h5, h8, h9, h21, h22, h23, l1, l2, e10, hsb', e9]
      refine cl_spec (Left_ok hr') (fun _ _ _ hc => absurd hc (by decide +kernel)) ?_
      rintro u k8 ⟨rfl, rfl⟩
      simp only [go_sem, simprocAttr, h0, h5, h8, h9, h21, h22, h23, l1, l2, e10, hsb', e9]
      refine cl_spec (at_ok hr') (fun _ _ _ hc => absurd hc (by decide +kernel)) ?_
      rintro u k9 ⟨rfl, rfl⟩
      simp only [go_sem, simprocAttr, h0, h5, h8, h9, h21, h22, h23, l1, l2, e10, hsb', e9]
      obtain ⟨m', h1, i', s3, h2, h3, h4, h5', h6, rfl⟩ := fin _ (.refl _)
      refine Hold.mk ⟨m', h1, i + 1, s3, h2, h3, h4, h5', h6, ?_⟩
      simp only [go_sem, simprocAttr, h0, h5, h8, h9, h21, h22, h23, l1, l2, e10, hsb', e9]
    · obtain ⟨rfl, rfl, rfl⟩ := hbad hw
      have es : s' = s := hok.2.2 hw
      subst es
      have hwd : (decide (s'.why = 0) && decide (s'.fat = 0)) = false := by
        by_cases h1 : s'.why = 0 <;> by_cases h2 : s'.fat = 0 <;> simp_all
      simp only [go_sem, simprocAttr, h0, h5, h8, h9, h21, h22, h23, hwd, h10, h11, h12, List.length_nil]
      refine cl_spec (fault_ok hr') (fun u h' hp _ => hp.2) ?_
      rintro u k5 ⟨rfl, q5⟩
      have hr5 := hr'.quiet q5
      have eB5 : k5.get k2.next = .cells [.int .i64 s'.why, .int .i64 s'.fat] .rw := by rw [q5.2 _ (AHeap.lt_of_alive _ (by rw [eB']; simp))]; exact eB'
      simp only [go_sem, simprocAttr, h0, h5, h8, h9, h21, h22, h23, eB5]
      refine cl_spec (at_ok hr5) (fun _ _ _ hc => absurd hc (by decide +kernel)) ?_
      rintro u k5' ⟨rfl, rfl⟩
      simp only [go_sem, simprocAttr, h0, h5, h8, h9, h21, h22, h23]
      refine cl_spec (at_ok hr5) (fun _ _ _ hc => absurd hc (by decide +kernel)) ?_
      rintro u k6 ⟨rfl, rfl⟩
      simp only [go_sem, simprocAttr, h0, h5, h8, h9, h21, h22, h23, l1, l2, e10, hsb', e9]
      refine cl_spec (at_ok hr5) (fun _ _ _ hc => absurd hc (by decide +kernel)) ?_
      rintro u k7 ⟨rfl, rfl⟩
      simp only [go_sem, simprocAttr, h0, h5, h8, h9, h21, h22, h23, l1, l2, e10, hsb', e9]
      refine cl_spec (Left_ok hr5) (fun _ _ _ hc => absurd hc (by decide +kernel)) ?_
      rintro u k8 ⟨rfl, rfl⟩
      simp only [go_sem, simprocAttr, h0, h5, h8, h9, h21, h22, h23, l1, l2, e10, hsb', e9]
      refine cl_spec (at_ok hr5) (fun _ _ _ hc => absurd hc (by decide +kernel)) ?_
      rintro u k9 ⟨rfl, rfl⟩
      simp only [go_sem, simprocAttr, h0, h5, h8, h9, h21, h22, h23, l1, l2, e10, hsb', e9]
      obtain ⟨m', h1, i', s3, h2, h3, h4, h5', h6, rfl⟩ := fin _ q5
      refine Hold.mk ⟨m', h1, i + 1, s3, h2, h3, h4, h5', h6, ?_⟩
      simp only [go_sem, simprocAttr, h0, h5, h8, h9, h21, h22, h23, l1, l2, e10, hsb', e9]
end Go.Proofs.Ytkepcpagogpcmaa
