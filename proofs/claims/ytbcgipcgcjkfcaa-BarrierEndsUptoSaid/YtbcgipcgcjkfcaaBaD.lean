/- barrier: an agent answers all orders, in every order, as the document's does. -/
import Derived.Test.YtbcgipcgcjkfcaaBaC
set_option linter.unusedSimpArgs false
set_option linter.unusedVariables false
set_option linter.unnecessarySimpa false
set_option maxRecDepth 100000
namespace Go.Proofs.Ytbcgipcgcjkfcaa
open Go.AM

structure Ask where
  kind : Int
  id : Int
  crash : Bool
def rAsk : Rep Ask := (Rep.pair rI (.pair rI Rep.bool)).via fun x => (x.kind, x.id, x.crash)
theorem rAsk_iff {S : Nat → Prop} {h : AHeap} {x : Ask} {cs : List Value} : rAsk.R S h x cs ↔ cs = [.int .i64 x.kind, .int .i64 x.id, .bool x.crash] ∧ inI x.kind ∧ inI x.id := by
  constructor
  · rintro ⟨c1, c2, rfl, ⟨rfl, h1⟩, c3, c4, rfl, ⟨rfl, h2⟩, rfl⟩
    exact ⟨rfl, inI_iff.2 h1, inI_iff.2 h2⟩
  · rintro ⟨rfl, h1, h2⟩
    exact ⟨[_], [_, _], rfl, ⟨rfl, inI_iff.1 h1⟩, [_], [_], rfl, ⟨rfl, inI_iff.1 h2⟩, rfl⟩
theorem seg_at {c cs : List Value} {o sz : Nat} (h : (c.drop o).take sz = cs) (hl : cs.length = sz) : ∀ k, k < sz → c[o + k]? = cs[k]? := fun k hk => seg_get h hk
theorem _root_.Go.AM.IsSl.atAsk {S : Nat → Prop} {h : AHeap} {xs : List Ask} {a : Option Addr} {n cap : Nat} (hs : IsSl rAsk S h xs (.slice a n cap)) {i : Nat} (hi : i < n) :
    ∃ b off sp c md x, a = some ⟨b, off, sp⟩ ∧ S b ∧ h.get b = .cells c md ∧ xs[i]? = some x ∧ (inI x.kind ∧ inI x.id) ∧ off + i * 3 + 3 ≤ c.length ∧ (c.drop (off + i * 3)).take 3 = [.int .i64 x.kind, .int .i64 x.id, .bool x.crash] := by
  obtain ⟨b, off, sp, c, md, cs, x, h1, h2, h3, h4, h5, h6, h7⟩ := hs.at 3 rfl hi
  obtain ⟨rfl, h8⟩ := rAsk_iff.1 h5
  exact ⟨b, off, sp, c, md, x, h1, h2, h3, h4, h8, h6, h7⟩

/-! Whose an object is. -/
def tg (own : Nat → Nat) (t : Nat) : Nat → Prop := fun j => own j = t
/-- What comes is t's. -/
def bump (own : Nat → Nat) (h : AHeap) (t : Nat) : Nat → Nat := fun j => if j < h.next then own j else t
theorem bump_lt {own : Nat → Nat} {h : AHeap} {t j : Nat} (hj : j < h.next) : bump own h t j = own j := if_pos hj
theorem bump_ge {own : Nat → Nat} {h : AHeap} {t j : Nat} (hj : h.next ≤ j) : bump own h t j = t := if_neg (by omega)
theorem bump_up {own : Nat → Nat} {h : AHeap} {t j : Nat} (hj : up (tg own t) h j) : tg (bump own h t) t j := by
  by_cases hl : j < h.next
  · rcases hj with e | e
    · exact (bump_lt hl).trans e
    · omega
  · exact bump_ge (by omega)
theorem bump_tg {own : Nat → Nat} {h : AHeap} {s t j : Nat} (hj : tg own s j) (hl : j < h.next) : tg (bump own h t) s j := (bump_lt hl).trans hj
/-- What another's turn leaves. -/
theorem _root_.Go.AM.Fw.other {own : Nat → Nat} {h h' : AHeap} {s t : Nat} (f : Fw (tg own t) h h') (hs : s ≠ t) : ∀ j, tg own s j → j < h.next → tg (bump own h t) s j ∧ h'.get j = h.get j :=
  fun j hj hl => ⟨bump_tg hj hl, f.2 j hl (fun e => hs (by rw [← hj, ← (show own j = t from e)]))⟩
theorem _root_.Go.AM.Fw.stay {own : Nat → Nat} {h h' : AHeap} {s t : Nat} (f : Fw (tg own t) h h') (hs : s ≠ t) : ∀ j, tg own s j → j < h.next → tg own s j ∧ h'.get j = h.get j :=
  fun j hj hl => ⟨hj, f.2 j hl (fun e => hs (by rw [← hj, ← (show own j = t from e)]))⟩
theorem quiet_other {own : Nat → Nat} {h h' : AHeap} (q : h.quiet h') {s t : Nat} : ∀ j, tg own s j → j < h.next → tg (bump own h t) s j ∧ h'.get j = h.get j := fun j hj hl => ⟨bump_tg hj hl, q.2 j hl⟩

theorem _root_.Go.AM.cnd_cut {Γ : Cx} {x y : Code} {k : List Fr} {ρ : Env} {h : AHeap} {b : Bool} (J : Env → AHeap → Prop) (h1 : b = true → go Γ x (.jo J :: k) ρ h) (h1' : b = false → go Γ y (.jo J :: k) ρ h) (h2 : ∀ ρ h, J ρ h → nx Γ k ρ h) : cnd Γ x y k ρ h (.bool b) :=
  cnd_split (fun e => go_cut J (h1 e) h2) (fun e => go_cut J (h1' e) h2)

theorem com_le (a : Ag) (k x : Int) : (a.order k x).2.com.length ≤ a.com.length + 1 := by
  unfold Ag.order
  repeat' split
  all_goals simp

theorem agents_ok {h : AHeap} {xs : List Ask} {v : Value} {id : Int} (hd : IsSl rAsk (· < h.next) h xs v) (hn : xs.length ≤ 1048576) :
    Does Try.prog 5 #[v, .int .i64 id] h (fun u _ => u = .bool true) := by
  obtain ⟨A, c, rfl⟩ := hd.shape
  have hlen := hd.len
  refine spec_go mixed Try.func5 rfl Try.results5 (n := Try.f5.ntmps) (by kernel_rfl) (by simp) ?_
  simp only [go_sem, simprocAttr]
  refine cl_spec newAgent_ok (fun _ _ _ hc => absurd hc (by decide +kernel)) ?_
  rintro u k0 ⟨rfl, q0, a0⟩
  simp only [go_sem, simprocAttr]
  refine cl_gen fun k1 e1 => ?_
  have q1 : k0.quiet k1 := by rw [e1]; simp only [go_sem, simprocAttr]
  have g1 : k1.get k0.next = .cells [.int .i64 0, .int .i64 0, .slice none 0 0] .rw := by rw [e1]; simp only [go_sem, simprocAttr]
  have n1 : k1.next = k0.next + 1 := by rw [e1]; simp
  clear e1
  refine cl_spec (alive_ok k1) (fun _ _ _ hc => absurd hc (by decide +kernel)) ?_
  rintro u k ⟨rfl, rfl⟩
  have hA0 := a0.lt
  refine (?_ : _)
  simp only [go_sem, simprocAttr]
  refine go_loop (fun z ρ k => ∃ (i : Nat) (own : Nat → Nat) (ag : Ag), i ≤ xs.length ∧ z = xs.length - i ∧ ag.com.length ≤ i ∧ AgAt (tg own 1) k h.next ag ∧ RaAt (tg own 2) k k0.next ag ∧ IsSl rAsk (tg own 0) k xs (.slice A xs.length c) ∧
    ρ 1 = .int .i64 id ∧ ρ 5 = .pointer (some ⟨h.next, 0, none⟩) ∧ ρ 6 = .pointer (some ⟨k0.next, 0, none⟩) ∧ ρ 16 = .slice A xs.length c ∧ ρ 17 = .int .i64 xs.length ∧ ρ 18 = .int .i64 i) xs.length
    ⟨0, bump (bump (fun _ => 0) h 1) k0 2, ⟨0, 0, []⟩, by omega, by omega, by simp, ?_, ?_, ?_, by simp only [go_sem, simprocAttr]⟩ ?_
  · exact a0.mono q1.1 fun j hj hl => ⟨(bump_lt hl).trans (bump_ge hj), q1.2 j hl⟩
  · exact ⟨bump_ge (Nat.le_refl _), _, g1, .nil _ _ _, by simp⟩
  · exact hd.mono fun j hj hl => ⟨(bump_lt (by have := q0.1; omega)).trans (bump_lt hl), (q1.2 j (by have := q0.1; omega)).trans (q0.2 j hl)⟩
  rintro z ρ k ⟨i, own, ag, hi, rfl, hc, ha, hr, hs, r1, r5, r6, r16, r17, r18⟩
  simp only [go_sem, simprocAttr, r1, r5, r6, r16, r17, r18]
  refine cnd_decide (fun hx' => ?_) (fun hx' => ?_)
  · have h1 : i < xs.length := by omega
    obtain ⟨b, off, sp, cc, md, x, hAe, hbo, hg, hxi, hxx, hle, hdt⟩ := hs.atAsk h1
    have r16' : ρ 16 = .slice (some ⟨b, off, sp⟩) xs.length c := by rw [r16, hAe]
    have e9 : IntKind.i64.wrap ((i : Int) + 1) = ((i + 1 : Nat) : Int) := by rw [wi64] <;> omega
    have lb : b < k.next := AHeap.lt_of_alive k (by rw [hg]; simp)
    have lA := ha.lt
    have lR := hr.lt
    simp only [go_sem, simprocAttr, r1, r5, r6, r16', r17, r18, h1, hg, hle, hdt]
    refine cnd_cut (fun ρ k3 => ∃ (own : Nat → Nat) (ag : Ag), ag.com.length ≤ i + 1 ∧ AgAt (tg own 1) k3 h.next ag ∧ RaAt (tg own 2) k3 k0.next ag ∧ IsSl rAsk (tg own 0) k3 xs (.slice A xs.length c) ∧ k3.get k.next = .cells [.int .i64 x.kind, .int .i64 x.id, .bool x.crash] .rw ∧
      ρ 1 = .int .i64 id ∧ ρ 5 = .pointer (some ⟨h.next, 0, none⟩) ∧ ρ 6 = .pointer (some ⟨k0.next, 0, none⟩) ∧ ρ 8 = .pointer (some ⟨k.next, 0, none⟩) ∧ ρ 16 = .slice A xs.length c ∧ ρ 17 = .int .i64 xs.length ∧ ρ 18 = .int .i64 i) (fun hb => ?_) (fun hb => ?_) ?_
    · simp only [go_sem, simprocAttr, r5]
      refine cl_gen fun k2 e2 => ?_
      have q2 : k.quiet k2 := by rw [e2]; simp only [go_sem, simprocAttr]
      have g2 : k2.get k.next = .cells [.int .i64 x.kind, .int .i64 x.id, .bool x.crash] .rw := by rw [e2]; simp only [go_sem, simprocAttr]
      have n2 : k2.next = k.next + 1 := by rw [e2]; simp
      clear e2
      have ha2 : AgAt (tg (bump own k 0) 1) k2 h.next ag := ha.mono q2.1 (quiet_other q2)
      have hr2 : RaAt (tg (bump own k 0) 2) k2 k0.next ag := hr.mono q2.1 (quiet_other q2)
      have hs2 : IsSl rAsk (tg (bump own k 0) 0) k2 xs (.slice A xs.length c) := hs.mono (quiet_other q2)
      have hb2 : tg (bump own k 0) 0 k.next := bump_ge (Nat.le_refl _)
      generalize bump own k 0 = ow at ha2 hr2 hs2 hb2
      refine cl_spec (aCrash_ok ha2) (fun _ _ _ hc => absurd hc (by decide +kernel)) ?_
      rintro u k3 ⟨rfl, ha3, f3⟩
      have F3 : Fw (tg ow 1) k2 k3 := f3.mono fun j _ e => by subst e; exact ha2.1
      have hr3 : RaAt (tg ow 2) k3 k0.next ag := hr2.mono F3.1 (F3.stay (by decide))
      obtain ⟨vr, gr, hor, hset⟩ := hr3.set
      have F4 := Fw.set (h := k3) (id := k0.next) (.cells [.int .i64 0, .int .i64 ag.pre, vr] .rw)
      have F4' : Fw (tg ow 2) k3 _ := F4.mono fun j _ e => by subst e; exact hr3.1
      simp only [go_sem, simprocAttr, r6, gr]
      refine Hold.mk ⟨ow, ag.crash, by show ag.com.length ≤ _; omega, ha3.mono F4'.1 (F4'.stay (by decide)), hset 0 ag.pre, (hs2.mono (F3.stay (by decide))).mono (F4'.stay (by decide)), ?_, by simp only [go_sem, simprocAttr, r1, r5, r6, r16, r17, r18]⟩
      rw [(F4'.stay (s := 0) (by decide) _ hb2 (by have := F3.1; omega)).2, (F3.stay (s := 0) (by decide) _ hb2 (by omega)).2]; exact g2
    · simp only [go_sem, simprocAttr, r5, r6]
      refine cl_gen fun k2 e2 => ?_
      have q2 : k.quiet k2 := by rw [e2]; simp only [go_sem, simprocAttr]
      have g2 : k2.get k.next = .cells [.int .i64 x.kind, .int .i64 x.id, .bool x.crash] .rw := by rw [e2]; simp only [go_sem, simprocAttr]
      have n2 : k2.next = k.next + 1 := by rw [e2]; simp
      clear e2
      have ha2 : AgAt (tg (bump own k 0) 1) k2 h.next ag := ha.mono q2.1 (quiet_other q2)
      have hr2 : RaAt (tg (bump own k 0) 2) k2 k0.next ag := hr.mono q2.1 (quiet_other q2)
      have hs2 : IsSl rAsk (tg (bump own k 0) 0) k2 xs (.slice A xs.length c) := hs.mono (quiet_other q2)
      have hb2 : tg (bump own k 0) 0 k.next := bump_ge (Nat.le_refl _)
      generalize bump own k 0 = ow at ha2 hr2 hs2 hb2
      refine cl_hard [8] (by decide +kernel) (Order_ok ha2 hxx.2 (by omega)) (fun v h' hp t ht y hy => ?_) ?_
      · obtain rfl : t = 8 := by simpa using ht
        replace hy : vblk (.pointer (some ⟨k.next, 0, none⟩)) = some y := by rw [← hy]; simp only [go_sem, simprocAttr]
        cases hy
        exact (hp.2.2.stay (s := 0) (by decide) _ hb2 (by omega)).2
      rintro u k3 ⟨rfl, ha3, f3⟩
      have hr3 := hr2.mono f3.1 (f3.other (by decide))
      have ha3 := ha3.weaken fun _ => bump_up
      have hs3 := hs2.mono (f3.other (by decide))
      have hb3 : tg (bump ow k2 1) 0 k.next := bump_tg hb2 (by omega)
      have g3 : k3.get k.next = .cells [.int .i64 x.kind, .int .i64 x.id, .bool x.crash] .rw := ((f3.stay (s := 0) (by decide) _ hb2 (by omega)).2).trans g2
      have l3 := f3.1
      generalize bump ow k2 1 = ow' at ha3 hr3 hs3 hb3
      simp only [go_sem, simprocAttr, r6, g3]
      refine cl_spec (rOrder_ok hr3 hxx.2 (by omega)) (fun _ _ _ hc => absurd hc (by decide +kernel)) ?_
      rintro u k4 ⟨rfl, hr4, f4⟩
      have hcl := com_le ag x.kind x.id
      simp only [go_sem, simprocAttr]
      refine Hold.mk ⟨bump ow' k3 2, (ag.order x.kind x.id).2, by omega, ha3.mono f4.1 (f4.other (by decide)), hr4.weaken fun _ => bump_up, hs3.mono (f4.other (by decide)), ((f4.stay (s := 0) (by decide) _ hb3 (by omega)).2).trans g3, by simp only [go_sem, simprocAttr, r1, r5, r6, r16, r17, r18]⟩
    · rintro ρ k3 ⟨ow, ag', hc', ha', hr', hs', g3, r1, r5, r6, r8, r16, r17, r18⟩
      obtain ⟨vr, gr, hor, _⟩ := hr'.set
      simp only [go_sem, simprocAttr, r5]
      refine cl_spec (aFrozen_ok ha') (fun u h' hp _ => hp.2 ▸ .refl _) ?_
      rintro u k ⟨rfl, rfl⟩
      simp only [go_sem, simprocAttr, r5, r6, gr]
      refine cl_spec (aPrepared_ok ha') (fun u h' hp _ => hp.2 ▸ .refl _) ?_
      rintro u k ⟨rfl, rfl⟩
      simp only [go_sem, simprocAttr, r5, r6, r8, gr, g3]
      refine cl_spec (aCommitted_ok ha') (fun u h' hp _ => hp.2 ▸ .refl _) ?_
      rintro u k ⟨rfl, rfl⟩
      simp only [go_sem, simprocAttr, r5, r6, r8, gr, g3]
      refine cl_spec (Has_ok hor.sl) (fun u h' hp _ => hp.2 ▸ .refl _) ?_
      rintro u k ⟨rfl, rfl⟩
      simp only [go_sem, simprocAttr, r1, r5, r6, r8, gr, g3]
      refine cl_spec (aCommitted_ok ha') (fun u h' hp _ => hp.2 ▸ .refl _) ?_
      rintro u k ⟨rfl, rfl⟩
      simp only [go_sem, simprocAttr, r1, r5, r6, r8, gr, g3]
      refine cl_spec (Has_ok hor.sl) (fun u h' hp _ => hp.2 ▸ .refl _) ?_
      rintro u k ⟨rfl, rfl⟩
      simp only [go_sem, simprocAttr, r1, r5, r6, r8, gr, g3, r18, e9]
      refine Hold.mk ⟨xs.length - (i + 1), by omega, i + 1, ow, ag', by omega, rfl, hc', ha', hr', hs', by simp only [go_sem, simprocAttr, r1, r5, r6, r16, r17]⟩
  · simp only [go_sem, simprocAttr]
end Go.Proofs.Ytbcgipcgcjkfcaa
