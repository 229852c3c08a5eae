/- barrier: agents and coordinators that nobody made. -/
import Derived.Test.YtbcgipcgcjkfcaaBaG
set_option linter.unusedSimpArgs false
set_option linter.unusedVariables false
set_option linter.unnecessarySimpa false
set_option maxRecDepth 100000
namespace Go.Proofs.Ytbcgipcgcjkfcaa
open Go.AM

section
variable {h : AHeap}

/-- An agent that nobody made. -/
def NA (h : AHeap) (v : Value) : Prop := v = .pointer none ∨ ∃ b, v = .pointer (some ⟨b, 0, none⟩) ∧ h.get b = .cells [.bool false, .int .i64 0, .int .i64 0, .slice none 0 0] .rw
theorem aokN {v : Value} (hv : NA h v) : Does Try.prog 45 #[v] h (fun u h' => u = .bool false ∧ h' = h) := by
  rcases hv with rfl | ⟨b, rfl, hg⟩
  · refine spec_go mixed Try.func45 rfl Try.results45 (n := Try.f45.ntmps) (by kernel_rfl) (by simp) ?_
    simp only [go_sem, simprocAttr]
  · refine spec_go mixed Try.func45 rfl Try.results45 (n := Try.f45.ntmps) (by kernel_rfl) (by simp) ?_
    simp only [go_sem, simprocAttr, hg]
theorem aCrashN {v : Value} (hv : NA h v) : Does Try.prog 30 #[v] h (fun u h' => u = .tuple #[] ∧ h' = h) := by
  refine spec_go mixed Try.func30 rfl Try.results30 (n := Try.f30.ntmps) (by kernel_rfl) (by simp) ?_
  simp only [go_sem, simprocAttr]
  refine cl_spec (aokN hv) (fun _ _ _ hc => absurd hc (by decide +kernel)) ?_
  rintro u k ⟨rfl, rfl⟩
  simp only [go_sem, simprocAttr]
theorem aOrderN {v : Value} (hv : NA h v) {kd x : Int} : Does Try.prog 31 #[v, .int .i64 kd, .int .i64 x] h (fun u h' => u = .int .i64 0 ∧ h' = h) := by
  refine spec_go mixed Try.func31 rfl Try.results31 (n := Try.f31.ntmps) (by kernel_rfl) (by simp) ?_
  simp only [go_sem, simprocAttr]
  refine cl_spec (aokN hv) (fun _ _ _ hc => absurd hc (by decide +kernel)) ?_
  rintro u k ⟨rfl, rfl⟩
  simp only [go_sem, simprocAttr]
theorem aFrozenN {v : Value} (hv : NA h v) : Does Try.prog 33 #[v] h (fun u h' => u = .int .i64 0 ∧ h' = h) := by
  refine spec_go mixed Try.func33 rfl Try.results33 (n := Try.f33.ntmps) (by kernel_rfl) (by simp) ?_
  simp only [go_sem, simprocAttr]
  refine cl_spec (aokN hv) (fun _ _ _ hc => absurd hc (by decide +kernel)) ?_
  rintro u k ⟨rfl, rfl⟩
  simp only [go_sem, simprocAttr]
theorem aPreparedN {v : Value} (hv : NA h v) : Does Try.prog 34 #[v] h (fun u h' => u = .int .i64 0 ∧ h' = h) := by
  refine spec_go mixed Try.func34 rfl Try.results34 (n := Try.f34.ntmps) (by kernel_rfl) (by simp) ?_
  simp only [go_sem, simprocAttr]
  refine cl_spec (aokN hv) (fun _ _ _ hc => absurd hc (by decide +kernel)) ?_
  rintro u k ⟨rfl, rfl⟩
  simp only [go_sem, simprocAttr]
theorem aCommittedN {v : Value} (hv : NA h v) {x : Int} : Does Try.prog 35 #[v, .int .i64 x] h (fun u h' => u = .bool false ∧ h' = h) := by
  refine spec_go mixed Try.func35 rfl Try.results35 (n := Try.f35.ntmps) (by kernel_rfl) (by simp) ?_
  simp only [go_sem, simprocAttr]
  refine cl_spec (aokN hv) (fun _ _ _ hc => absurd hc (by decide +kernel)) ?_
  rintro u k ⟨rfl, rfl⟩
  simp only [go_sem, simprocAttr]

/-- A coordinator that nobody made. -/
def NC (h : AHeap) (v : Value) : Prop := v = .pointer none ∨ ∃ b, v = .pointer (some ⟨b, 0, none⟩) ∧ h.get b = .cells [.int .i64 0, .int .i64 0, .int .i64 0, .slice none 0 0, .map none] .rw
theorem map_none : abin Try.prog h .neq 77 (.map none) (.map none) = some (.bool false) := by
  unfold abin aequal
  simp only [go_sem]
  rfl
theorem cokN {v : Value} (hv : NC h v) : Does Try.prog 38 #[v] h (fun u h' => u = .bool false ∧ h' = h) := by
  rcases hv with rfl | ⟨b, rfl, hg⟩
  · refine spec_go mixed Try.func38 rfl Try.results38 (n := Try.f38.ntmps) (by kernel_rfl) (by simp) ?_
    simp only [go_sem, simprocAttr]
  · refine spec_go mixed Try.func38 rfl Try.results38 (n := Try.f38.ntmps) (by kernel_rfl) (by simp) ?_
    simp only [go_sem, simprocAttr, hg, map_none]
theorem cPhaseN {v : Value} (hv : NC h v) : Does Try.prog 24 #[v] h (fun u h' => u = .tuple #[.int .i64 0, .int .i64 0] ∧ h' = h) := by
  refine spec_go mixed Try.func24 rfl Try.results24 (n := Try.f24.ntmps) (by kernel_rfl) (by simp) ?_
  simp only [go_sem, simprocAttr]
  refine cl_spec (cokN hv) (fun _ _ _ hc => absurd hc (by decide +kernel)) ?_
  rintro u k ⟨rfl, rfl⟩
  simp only [go_sem, simprocAttr]
theorem cCrashN {v : Value} (hv : NC h v) : Does Try.prog 22 #[v] h (fun u h' => u = .tuple #[] ∧ h' = h) := by
  refine spec_go mixed Try.func22 rfl Try.results22 (n := Try.f22.ntmps) (by kernel_rfl) (by simp) ?_
  simp only [go_sem, simprocAttr]
  refine cl_spec (cokN hv) (fun u h' hp _ => hp.2 ▸ .refl _) ?_
  rintro u k ⟨rfl, rfl⟩
  simp only [go_sem, simprocAttr]
theorem cBeginN {v : Value} (hv : NC h v) {x : Int} : Does Try.prog 13 #[v, .int .i64 x] h (fun u h' => u = .int .i64 2 ∧ h' = h) := by
  refine spec_go mixed Try.func13 rfl Try.results13 (n := Try.f13.ntmps) (by kernel_rfl) (by simp) ?_
  simp only [go_sem, simprocAttr]
  refine cl_spec (cokN hv) (fun _ _ _ hc => absurd hc (by decide +kernel)) ?_
  rintro u k ⟨rfl, rfl⟩
  simp only [go_sem, simprocAttr]
theorem cStepN {v : Value} (hv : NC h v) : Does Try.prog 16 #[v] h (fun u h' => u = .slice none 0 0 ∧ h' = h) := by
  refine spec_go mixed Try.func16 rfl Try.results16 (n := Try.f16.ntmps) (by kernel_rfl) (by simp) ?_
  simp only [go_sem, simprocAttr]
  refine cl_spec (cokN hv) (fun _ _ _ hc => absurd hc (by decide +kernel)) ?_
  rintro u k ⟨rfl, rfl⟩
  simp only [go_sem, simprocAttr]
theorem cHearN {v : Value} (hv : NC h v) {a k x : Int} : Does Try.prog 18 #[v, .int .i64 a, .int .i64 k, .int .i64 x] h (fun u h' => u = .int .i64 2 ∧ h' = h) := by
  refine spec_go mixed Try.func18 rfl Try.results18 (n := Try.f18.ntmps) (by kernel_rfl) (by simp) ?_
  simp only [go_sem, simprocAttr]
  refine cl_spec (cokN hv) (fun _ _ _ hc => absurd hc (by decide +kernel)) ?_
  rintro u k ⟨rfl, rfl⟩
  simp only [go_sem, simprocAttr]
theorem cAbortN {v : Value} (hv : NC h v) : Does Try.prog 20 #[v] h (fun u h' => u = .int .i64 2 ∧ h' = h) := by
  refine spec_go mixed Try.func20 rfl Try.results20 (n := Try.f20.ntmps) (by kernel_rfl) (by simp) ?_
  simp only [go_sem, simprocAttr]
  refine cl_spec (cokN hv) (fun _ _ _ hc => absurd hc (by decide +kernel)) ?_
  rintro u k ⟨rfl, rfl⟩
  simp only [go_sem, simprocAttr]
theorem cStateN {v : Value} (hv : NC h v) {x : Int} : Does Try.prog 25 #[v, .int .i64 x] h (fun u h' => u = .int .i64 0 ∧ h' = h) := by
  refine spec_go mixed Try.func25 rfl Try.results25 (n := Try.f25.ntmps) (by kernel_rfl) (by simp) ?_
  simp only [go_sem, simprocAttr]
  refine cl_spec (cokN hv) (fun _ _ _ hc => absurd hc (by decide +kernel)) ?_
  rintro u k ⟨rfl, rfl⟩
  simp only [go_sem, simprocAttr]

theorem nobody_ok {c0 : Value} {a k x kd id : Int} {cr : Bool} : Does Try.prog 9 #[.agg #[c0, .int .i64 a, .int .i64 k, .int .i64 x], .agg #[.int .i64 kd, .int .i64 id, .bool cr]] h (fun u _ => u = .bool true) := by
  refine spec_go mixed Try.func9 rfl Try.results9 (n := Try.f9.ntmps) (by kernel_rfl) (by simp) ?_
  simp only [go_sem, simprocAttr]
  refine go_gen fun h1 e1 => ?_
  have g0 : h1.get h.next = .cells [c0, .int .i64 a, .int .i64 k, .int .i64 x] .rw := by rw [e1]; simp only [go_sem, simprocAttr]
  have g1 : h1.get (h.next + 1) = .cells [.int .i64 kd, .int .i64 id, .bool cr] .rw := by rw [e1]; simp only [go_sem, simprocAttr]
  have g2 : h1.get (h.next + 2) = .cells [.bool false, .int .i64 0, .int .i64 0, .slice none 0 0] .rw := by rw [e1]; simp only [go_sem, simprocAttr]
  have g3 : h1.get (h.next + 3) = .cells [.pointer none, .pointer (some ⟨h.next + 2, 0, none⟩)] .rw := by rw [e1]; simp only [go_sem, simprocAttr]
  have n1 : h1.next = h.next + 4 := by rw [e1]; simp
  clear e1
  refine go_loop (fun z ρ k => ∃ i : Nat, i ≤ 2 ∧ z = 2 - i ∧ h1 = k ∧ ρ 2 = .pointer (some ⟨h.next, 0, none⟩) ∧ ρ 3 = .pointer (some ⟨h.next + 1, 0, none⟩) ∧ ρ 13 = .slice (some ⟨h.next + 3, 0, none⟩) 2 2 ∧ ρ 14 = .int .i64 2 ∧ ρ 15 = .int .i64 i) 2 ⟨0, by omega, by omega, rfl, by simp only [go_sem, simprocAttr]⟩ ?_
  rintro z ρ _ ⟨i, hi, rfl, rfl, r2, r3, r13, r14, r15⟩
  simp only [go_sem, simprocAttr, r2, r3, r13, r14, r15]
  refine cnd_decide (fun hx => ?_) (fun hx => ?_)
  · have h1' : i < 2 := by omega
    have e9 : IntKind.i64.wrap ((i : Int) + 1) = ((i + 1 : Nat) : Int) := by rw [wi64] <;> omega
    obtain ⟨cc, v, hg, hl, hcc, hv⟩ : ∃ cc v, h1.get (h.next + 3) = .cells cc .rw ∧ cc.length = 2 ∧ cc[0 + i]? = some v ∧ NA h1 v := by
      rcases (show i = 0 ∨ i = 1 by omega) with rfl | rfl
      · exact ⟨_, _, g3, rfl, rfl, .inl rfl⟩
      · exact ⟨_, _, g3, rfl, rfl, .inr ⟨_, rfl, g2⟩⟩
    rw [Nat.zero_add] at hcc
    simp only [go_sem, simprocAttr, r2, r3, r13, r14, r15, hx, hg, hcc]
    refine cl_spec (aCrashN hv) (fun _ _ _ hc => absurd hc (by decide +kernel)) ?_
    rintro u k ⟨rfl, rfl⟩
    simp only [go_sem, simprocAttr, r3, g1]
    refine cl_spec (aOrderN hv) (fun u h' hp _ => hp.2 ▸ .refl _) ?_
    rintro u k ⟨rfl, rfl⟩
    simp only [go_sem, simprocAttr, r3, g1]
    refine cl_spec (aFrozenN hv) (fun u h' hp _ => hp.2 ▸ .refl _) ?_
    rintro u k ⟨rfl, rfl⟩
    simp only [go_sem, simprocAttr, r3, g1]
    refine cl_spec (aPreparedN hv) (fun u h' hp _ => hp.2 ▸ .refl _) ?_
    rintro u k ⟨rfl, rfl⟩
    simp only [go_sem, simprocAttr, r3, g1]
    refine cl_spec (aCommittedN hv) (fun u h' hp _ => hp.2 ▸ .refl _) ?_
    rintro u k ⟨rfl, rfl⟩
    simp only [go_sem, simprocAttr, r2, r3, r13, r14, r15, e9]
    exact Hold.mk ⟨2 - (i + 1), by omega, i + 1, by omega, rfl, rfl, by simp only [go_sem, simprocAttr, r2, r3, r13, r14]⟩
  · simp only [go_sem, simprocAttr, r2, r3]
    refine go_gen fun h2 e2 => ?_
    have q2 : h1.quiet h2 := by rw [e2]; simp only [go_sem, simprocAttr]
    have g4 : h2.get h1.next = .cells [.int .i64 0, .int .i64 0, .int .i64 0, .slice none 0 0, .map none] .rw := by rw [e2]; simp only [go_sem, simprocAttr]
    have g5 : h2.get (h1.next + 1) = .cells [.pointer none, .pointer (some ⟨h1.next, 0, none⟩)] .rw := by rw [e2]; simp only [go_sem, simprocAttr]
    have g0 := (q2.2 h.next (by omega)).trans g0
    clear e2
    refine go_loop (fun z ρ k => ∃ i : Nat, i ≤ 2 ∧ z = 2 - i ∧ h2 = k ∧ ρ 2 = .pointer (some ⟨h.next, 0, none⟩) ∧ ρ 47 = .slice (some ⟨h1.next + 1, 0, none⟩) 2 2 ∧ ρ 48 = .int .i64 2 ∧ ρ 49 = .int .i64 i) 2 ⟨0, by omega, by omega, rfl, by simp only [go_sem, simprocAttr, r2]⟩ ?_
    rintro z ρ _ ⟨i, hi, rfl, rfl, r2, r13, r14, r15⟩
    simp only [go_sem, simprocAttr, r2, r13, r14, r15]
    refine cnd_decide (fun hx => ?_) (fun hx => ?_)
    · have h1' : i < 2 := by omega
      have e9 : IntKind.i64.wrap ((i : Int) + 1) = ((i + 1 : Nat) : Int) := by rw [wi64] <;> omega
      obtain ⟨cc, v, hg, hl, hcc, hv⟩ : ∃ cc v, h2.get (h1.next + 1) = .cells cc .rw ∧ cc.length = 2 ∧ cc[0 + i]? = some v ∧ NC h2 v := by
        rcases (show i = 0 ∨ i = 1 by omega) with rfl | rfl
        · exact ⟨_, _, g5, rfl, rfl, .inl rfl⟩
        · exact ⟨_, _, g5, rfl, rfl, .inr ⟨_, rfl, g4⟩⟩
      rw [Nat.zero_add] at hcc
      simp only [go_sem, simprocAttr, r2, r13, r14, r15, hx, hg, hcc]
      refine cl_spec (cPhaseN hv) (fun _ _ _ hc => absurd hc (by decide +kernel)) ?_
      rintro u k ⟨rfl, rfl⟩
      simp only [go_sem, simprocAttr]
      refine cl_spec (cCrashN hv) (fun _ _ _ hc => absurd hc (by decide +kernel)) ?_
      rintro u k ⟨rfl, rfl⟩
      simp only [go_sem, simprocAttr, r2, g0]
      refine cl_spec (cBeginN hv) (fun u h' hp _ => hp.2 ▸ .refl _) ?_
      rintro u k ⟨rfl, rfl⟩
      simp only [go_sem, simprocAttr, r2, g0]
      refine cl_spec (cStepN hv) (fun u h' hp _ => hp.2 ▸ .refl _) ?_
      rintro u k ⟨rfl, rfl⟩
      simp only [go_sem, simprocAttr, r2, g0]
      refine cl_spec (cHearN hv) (fun u h' hp _ => hp.2 ▸ .refl _) ?_
      rintro u k ⟨rfl, rfl⟩
      simp only [go_sem, simprocAttr, r2, g0]
      refine cl_spec (cAbortN hv) (fun u h' hp _ => hp.2 ▸ .refl _) ?_
      rintro u k ⟨rfl, rfl⟩
      simp only [go_sem, simprocAttr, r2, g0]
      refine cl_spec (cStateN hv) (fun u h' hp _ => hp.2 ▸ .refl _) ?_
      rintro u k ⟨rfl, rfl⟩
      simp only [go_sem, simprocAttr, r2, r13, r14, r15, e9]
      exact Hold.mk ⟨2 - (i + 1), by omega, i + 1, by omega, rfl, rfl, by simp only [go_sem, simprocAttr, r2, r13, r14]⟩
    · simp only [go_sem, simprocAttr]
      refine cl_spec (alive_ok _) (fun _ _ _ hc => absurd hc (by decide +kernel)) ?_
      rintro u k ⟨rfl, rfl⟩
      simp only [go_sem, simprocAttr]
end
end Go.Proofs.Ytbcgipcgcjkfcaa
