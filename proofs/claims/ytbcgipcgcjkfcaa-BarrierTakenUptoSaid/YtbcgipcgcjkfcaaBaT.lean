/- barrier: the world of the laws: how it begins. -/
import Derived.Test.YtbcgipcgcjkfcaaBaS
set_option linter.unusedSimpArgs false
set_option linter.unusedVariables false
set_option linter.unnecessarySimpa false
set_option maxRecDepth 100000
namespace Go.Proofs.Ytbcgipcgcjkfcaa
open Go.AM

section
variable {own own' own'' : Nat → Nat} {h h' h'' : AHeap} {pc id : Nat} {ps : List Nat} {vg vo vn vi : Value} {w : Wd} {Z : Nat → Prop}

theorem OwnL.slz {α : Type} {r : Rep α} {xs : List α} {v : Value} (ho : OwnL r Z h xs v) : IsSl r Z h xs v := by
  obtain ⟨⟨css, ha, h0, ⟨a, rfl, rfl, k⟩ | ⟨ob, rfl, hlo, hg⟩⟩, hz⟩ := ho
  · exact .empty fun ad e => .inl (k ad e).1
  · refine ⟨_, _, css, rfl, Nat.le_refl _, Nat.le_trans h0 (by decide), (fun h => by cases h), (fun ad h => by cases h; exact .inr rfl), ?_, fun _ => ⟨_, _, _, rfl, hz _ rfl, hg, ?_, ?_⟩⟩
    · exact ha.moves fun j hj hl => hj.1.elim
    · rw [ha.flat]; simp
    · rw [List.drop_zero, List.take_of_length_le]; rw [ha.flat]; exact Nat.le_refl _
/-- One more agent. -/
theorem WdC.more {W : Wd} (c : WdC own h pc ps vg vo vn vi W) {p : Nat} {a : Ag} (q : h.quiet h') (ha : AgAt (h.next ≤ ·) h' p a) (o : OwnL rP (tg own 2) h ps vg) :
    ∃ own', WdC own' h' pc ps vg vo vn vi W ∧ AgAt (tg own' (10 + ps.length)) h' p a ∧ OwnL rP (tg own' 2) h' ps vg ∧ ∀ j, j < h.next → own' j = own j :=
  ⟨bump own h (10 + ps.length), c.quiet q _, ha.weaken fun j hj => bump_ge hj, o.mono q.1 (quiet_other q), fun j hj => bump_lt hj⟩

theorem begin_ok {kk : Nat} (hkk : kk ≤ 255) : Does Try.prog 27 #[.int .u8 (kk : Nat)] h
    (fun u h' => ∃ id own, u = .tuple #[.pointer (some ⟨id, 0, none⟩), .bool true] ∧ WdAt own h' id (Wd.new (kk % 5 + 1)) ∧ h.quiet h' ∧ ∀ j, j < h.next → own j = 0) := by
  have tm : Int.tmod (kk : Int) 5 = ((kk % 5 : Nat) : Int) := rfl
  have e9 : IntKind.i64.wrap (((kk % 5 : Nat) : Int) + 1) = ((kk % 5 + 1 : Nat) : Int) := by rw [wi64] <;> omega
  have hn5 : kk % 5 + 1 ≤ 5 := by omega
  have hn1 : 1 ≤ kk % 5 + 1 := by omega
  have e7 : IntKind.i64.wrap ((kk % 5 : Nat) : Int) = ((kk % 5 : Nat) : Int) := by rw [wi64] <;> omega
  refine spec_go mixed Try.func27 rfl Try.results27 (n := Try.f27.ntmps) (by kernel_rfl) (by simp) ?_
  simp only [go_sem, simprocAttr, tm, e7, e9]
  generalize kk % 5 + 1 = n at *
  refine cl_spec newCoord_ok (fun _ _ _ hc => absurd hc (by decide +kernel)) ?_
  rintro u k0 ⟨q0, ⟨n1, n2, rfl, a0⟩ | ⟨n1, rfl⟩⟩
  · simp only [go_sem, simprocAttr]
    refine go_gen fun k1 e1 => ?_
    have q1 : k0.quiet k1 := by rw [e1]; simp only [go_sem, simprocAttr]
    have g1 : k1.get k0.next = .cells (wdV (h.next + 1) (.slice none 0 0) (.slice none 0 0) (.slice none 0 0) (.slice none 0 0)) .rw := by rw [e1]; simp only [go_sem, simprocAttr, wdV]
    have l1 : k0.next < k1.next := by rw [e1]; simp
    clear e1
    have hn0 : h.next ≤ k0.next := q0.1
    have a0' : CoAt (tg (bump (bump (fun _ => 0) h 1) k0 6) 1) k1 (h.next + 1) ⟨n, 0, 0, [], []⟩ := by
      have := a0.lt
      have e : (n : Int).toNat = n := Int.toNat_natCast n
      rw [e] at a0
      exact a0.mono q1.1 fun j hj hl => ⟨(bump_lt hl).trans (bump_ge hj), q1.2 j hl⟩
    have h6 : bump (bump (fun _ => 0) h 1) k0 6 k0.next = 6 := bump_ge (Nat.le_refl _)
    have hz : ∀ j, j < h.next → bump (bump (fun _ => 0) h 1) k0 6 j = 0 := fun j hj => (bump_lt (by omega)).trans (bump_lt hj)
    generalize bump (bump (fun _ => 0) h 1) k0 6 = ow at a0' h6 hz
    refine go_loop (fun z ρ k => ∃ (i : Nat) (own : Nat → Nat) (ps : List Nat) (vg : Value), i ≤ n ∧ z = n - i ∧ ps.length = i ∧ OwnL rP (tg own 2) k ps vg ∧ own k0.next = 6 ∧ k.get k0.next = .cells (wdV (h.next + 1) vg (.slice none 0 0) (.slice none 0 0) (.slice none 0 0)) .rw ∧
      WdC own k (h.next + 1) ps vg (.slice none 0 0) (.slice none 0 0) (.slice none 0 0) ⟨⟨n, 0, 0, [], []⟩, List.replicate i ⟨0, 0, []⟩, [], [], []⟩ ∧ h.quiet k ∧ (∀ j, j < h.next → own j = 0) ∧
      ρ 5 = .pointer (some ⟨h.next + 1, 0, none⟩) ∧ ρ 6 = .int .i64 0 ∧ ρ 7 = .pointer (some ⟨k0.next, 0, none⟩) ∧ ρ 21 = .int .i64 n ∧ ρ 22 = .int .i64 i) n
      ⟨0, ow, [], _, by omega, by omega, rfl, .nil _ _ _, h6, g1, ⟨a0', .nil _ _ _, rfl, fun i a p h => (by simp at h), .nil _ _ _, .nil _ _ _, .nil _ _ _⟩, q0.trans q1, hz, by simp only [go_sem, simprocAttr]⟩ ?_
    rintro z ρ k ⟨i, own, ps, vg, hi, rfl, hps, hop, h6, hg, c, q, hz, r5, r6, r7, r21, r22⟩
    simp only [go_sem, simprocAttr, r5, r6, r7, r21, r22]
    refine cnd_decide (fun hx => ?_) (fun hx => ?_)
    · have h1 : i < n := by omega
      have e8 : IntKind.i64.wrap ((i : Int) + 1) = ((i + 1 : Nat) : Int) := by rw [wi64] <;> omega
      simp only [go_sem, simprocAttr]
      refine cl_spec newAgent_ok (fun _ _ _ hc => absurd hc (by decide +kernel)) ?_
      rintro u k2 ⟨rfl, q2, a2⟩
      obtain ⟨own2, c2, a2, hop2, hsame⟩ := c.more q2 a2 hop
      have hlt : k0.next < k.next := AHeap.lt_of_alive k (by rw [hg]; simp)
      have hg2 := (q2.2 _ hlt).trans hg
      have h62 := (hsame _ hlt).trans h6
      have hlt2 : k0.next < k2.next := Nat.lt_of_lt_of_le hlt q2.1
      simp only [go_sem, simprocAttr, r5, r6, r7, r21, r22, hg2, wdV]
      obtain ⟨w', k3, e3, hw', f3, _, a3, n3, c3, rfl⟩ := hop2.app2 (bytes := 8) (y := k.next) (cs := [.pointer (some ⟨k.next, 0, none⟩)]) 1 rfl (fun _ => rfl) (by omega) (by omega)
      have F3 : Fw (tg own2 2) k2 k3 := f3.mono fun j _ e => hop2.2 j e
      have hg3 := (F3.2 k0.next hlt2 (fun e => by have : own2 k0.next = 2 := e; omega)).trans hg2
      have h63 : bump own2 k2 2 k0.next = 6 := (bump_lt hlt2).trans h62
      have hl3 : k0.next < k3.next := by have := F3.1; omega
      have gs := fun o => AHeap.get_set_self k3 o hl3
      simp only [go_sem, simprocAttr, e3, hg3, wdV, r5, r6, r7, r21, r22, e8]
      have hw3 : OwnL rP (tg (bump own2 k2 2) 2) k3 (ps ++ [k.next]) (.slice a3 n3 c3) := hw'.mono (Nat.le_refl _) (fun _ hj _ => ⟨bump_up hj, rfl⟩)
      have cN : WdC (bump own2 k2 2) k3 (h.next + 1) (ps ++ [k.next]) (.slice a3 n3 c3) (.slice none 0 0) (.slice none 0 0) (.slice none 0 0) ⟨⟨n, 0, 0, [], []⟩, List.replicate (i + 1) ⟨0, 0, []⟩, [], [], []⟩ := by
        refine ⟨c2.co.mono F3.1 (F3.other (by decide)), hw3.slz, by simp [hps], fun j a p h1 h2 => ?_, .nil _ _ _, .nil _ _ _, .nil _ _ _⟩
        obtain rfl : a = ⟨0, 0, []⟩ := List.eq_of_mem_replicate (List.mem_of_getElem? h1)
        rw [List.getElem?_append] at h2
        split at h2
        · rename_i hj
          exact (c2.ag j _ p (by show (List.replicate i _)[j]? = _; rw [List.getElem?_replicate, if_pos (by omega)]) h2).mono F3.1 (F3.other (by omega))
        · rename_i hj
          have hj' : j = ps.length := by
            have := (List.getElem?_eq_some_iff.1 h2).1
            simp at this; omega
          subst hj'
          obtain rfl : k.next = p := by simpa using h2
          exact a2.mono F3.1 (F3.other (by omega))
      have Q3 : h.quiet k3 := ⟨Nat.le_trans q.1 (Nat.le_trans q2.1 F3.1), fun j hj => (F3.2 j (by have := q.1; have := q2.1; omega) (fun e => by have e : own2 j = 2 := e; rw [hsame j (by have := q.1; omega), hz j hj] at e; cases e)).trans ((q.trans q2).2 j hj)⟩
      refine Hold.mk ⟨n - (i + 1), by omega, i + 1, bump own2 k2 2, ps ++ [k.next], .slice a3 n3 c3, by omega, rfl, by simp [hps], hw3.mono (by simp) (fun j hj _ => ⟨hj, AHeap.get_set_ne _ _ (by rintro rfl; have e : bump own2 k2 2 k0.next = 2 := hj; omega)⟩), h63, gs _, cN.cell h63 _, Q3.set' hn0 _, fun j hj => ?_, by simp only [go_sem, simprocAttr, r5, r6, r7, r21]⟩
      rw [bump_lt (by have := q.1; have := q2.1; omega), hsame j (by have := q.1; omega)]; exact hz j hj
    · simp only [go_sem, simprocAttr, r5, r6, r7]
      have hi' : i = n := by omega
      subst hi'
      exact ⟨_, own, rfl, ⟨h6, _, _, _, _, _, _, hg, c⟩, q, hz⟩
  · exfalso; omega
end
end Go.Proofs.Ytbcgipcgcjkfcaa
