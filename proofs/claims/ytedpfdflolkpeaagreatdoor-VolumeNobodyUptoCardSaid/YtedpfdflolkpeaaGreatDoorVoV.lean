/- volume: the law Nobody. -/
import Derived.Test.YtedpfdflolkpeaaGreatDoorVoU
set_option linter.unusedSimpArgs false
set_option linter.unusedVariables false
set_option linter.unnecessarySimpa false
set_option maxRecDepth 100000
namespace Go.Proofs.YtedpfdflolkpeaaGreatDoor
open Go.AM
/-- A volume that nobody made. -/
def Nob (h : AHeap) (p : Value) : Prop := p = .pointer none ∨ ∃ id, p = .pointer (some ⟨id, 0, none⟩) ∧ h.get id = .cells [.int .i64 0, .int .i64 0, .slice none 0 0, .slice none 0 0] .rw
section
variable {h k k' : AHeap} {p : Value}
theorem Nob.quiet (n : Nob h p) (q : h.quiet k) : Nob k p := by
  rcases n with n | ⟨id, e, g⟩
  · exact .inl n
  · exact .inr ⟨id, e, (q.2 _ (AHeap.lt_of_alive h (by rw [g]; simp))).trans g⟩
theorem nok_ok (n : Nob h p) : Does Tryz.prog 38 #[p] h (fun u h' => u = .bool false ∧ h' = h) := by
  rcases n with rfl | ⟨id, rfl, g⟩
  · refine spec_go mixed Tryz.func38 rfl Tryz.results38 (n := Tryz.f38.ntmps) (by kernel_rfl) (by simp) ?_
    simp only [go_sem, simprocAttr]
  · refine spec_go mixed Tryz.func38 rfl Tryz.results38 (n := Tryz.f38.ntmps) (by kernel_rfl) (by simp) ?_
    simp only [go_sem, simprocAttr, g]
theorem nlate_ok (n : Nob h p) {x : Int} : Does Tryz.prog 40 #[p, .int .i64 x] h (fun u h' => u = .int .i64 2 ∧ h' = h) := by
  refine spec_go mixed Tryz.func40 rfl Tryz.results40 (n := Tryz.f40.ntmps) (by kernel_rfl) (by simp) ?_
  simp only [go_sem, simprocAttr]
  refine cl_spec (nok_ok n) (fun _ _ _ hc => absurd hc (by decide +kernel)) ?_
  rintro u k ⟨rfl, rfl⟩
  simp only [go_sem, simprocAttr]
theorem nfind_ok (n : Nob h p) {x : Int} : Does Tryz.prog 49 #[p, .int .i64 x] h (fun u h' => u = .tuple #[.pointer none, .int .i64 2] ∧ h' = h) := by
  refine spec_go mixed Tryz.func49 rfl Tryz.results49 (n := Tryz.f49.ntmps) (by kernel_rfl) (by simp) ?_
  simp only [go_sem, simprocAttr]
  refine cl_spec (nok_ok n) (fun _ _ _ hc => absurd hc (by decide +kernel)) ?_
  rintro u k ⟨rfl, rfl⟩
  simp only [go_sem, simprocAttr]
theorem nRead_ok (n : Nob h p) {x y z : Int} : Does Tryz.prog 14 #[p, .int .i64 x, .int .i64 y, .int .i64 z] h (fun u h' => u = .tuple #[.slice none 0 0, .int .i64 2] ∧ h' = h) := by
  refine spec_go mixed Tryz.func14 rfl Tryz.results14 (n := Tryz.f14.ntmps) (by kernel_rfl) (by simp) ?_
  simp only [go_sem, simprocAttr]
  refine cl_spec (nlate_ok n) (fun _ _ _ hc => absurd hc (by decide +kernel)) ?_
  rintro u k ⟨rfl, rfl⟩
  simp only [go_sem, simprocAttr]
theorem nSince_ok (n : Nob h p) {x y z : Int} : Does Tryz.prog 30 #[p, .int .i64 x, .int .i64 y, .int .i64 z] h (fun u h' => u = .tuple #[.slice none 0 0, .int .i64 2] ∧ h' = h) := by
  refine spec_go mixed Tryz.func30 rfl Tryz.results30 (n := Tryz.f30.ntmps) (by kernel_rfl) (by simp) ?_
  simp only [go_sem, simprocAttr]
  refine cl_spec (nfind_ok n) (fun _ _ _ hc => absurd hc (by decide +kernel)) ?_
  rintro u k ⟨rfl, rfl⟩
  simp only [go_sem, simprocAttr]
theorem nMap_ok (n : Nob h p) : Does Tryz.prog 13 #[p] h (fun u h' => u = Pl.mapV .zero (.slice none 0 0) ∧ h.quiet h') := by
  refine spec_go mixed Tryz.func13 rfl Tryz.results13 (n := Tryz.f13.ntmps) (by kernel_rfl) (by simp) ?_
  simp only [go_sem, simprocAttr]
  refine cl_spec (nok_ok (n.quiet (.push _ _))) (fun _ _ _ hc => absurd hc (by decide +kernel)) ?_
  rintro u k ⟨rfl, rfl⟩
  simp only [go_sem, simprocAttr, Pl.mapV, Pl.SMap.zero]
theorem nSnaps_ok (n : Nob h p) {x : Int} : Does Tryz.prog 33 #[p, .int .i64 x] h (fun u h' => u = .slice none 0 0 ∧ h' = h) := by
  refine spec_go mixed Tryz.func33 rfl Tryz.results33 (n := Tryz.f33.ntmps) (by kernel_rfl) (by simp) ?_
  simp only [go_sem, simprocAttr]
  refine cl_spec (nfind_ok n) (fun _ _ _ hc => absurd hc (by decide +kernel)) ?_
  rintro u k ⟨rfl, rfl⟩
  simp only [go_sem, simprocAttr]
theorem nDo_ok (n : Nob h p) {x : Int} {o : Pl.Op} {a : Option Addr} {m c : Nat} : Does Tryz.prog 22 #[p, .int .i64 x, Pl.opV o (.slice a m c)] h (fun u h' => u = .int .i64 2 ∧ h.quiet h') := by
  refine spec_go mixed Tryz.func22 rfl Tryz.results22 (n := Tryz.f22.ntmps) (by kernel_rfl) (by simp) ?_
  simp only [go_sem, simprocAttr, Pl.opV]
  refine cl_spec (nlate_ok (n.quiet (.push _ _))) (fun _ _ _ hc => absurd hc (by decide +kernel)) ?_
  rintro u k ⟨rfl, rfl⟩
  simp only [go_sem, simprocAttr]
theorem nFlush_ok (n : Nob h p) {w : Value} : Does Tryz.prog 21 #[p, w] h (fun u h' => u = .int .i64 2 ∧ h' = h) := by
  refine spec_go mixed Tryz.func21 rfl Tryz.results21 (n := Tryz.f21.ntmps) (by kernel_rfl) (by simp) ?_
  simp only [go_sem, simprocAttr]
  refine cl_spec (nok_ok n) (fun _ _ _ hc => absurd hc (by decide +kernel)) ?_
  rintro u k ⟨rfl, rfl⟩
  simp only [go_sem, simprocAttr]
theorem nSplit_ok (n : Nob h p) {x : Int} : Does Tryz.prog 25 #[p, .int .i64 x] h (fun u h' => u = .int .i64 2 ∧ h' = h) := by
  refine spec_go mixed Tryz.func25 rfl Tryz.results25 (n := Tryz.f25.ntmps) (by kernel_rfl) (by simp) ?_
  simp only [go_sem, simprocAttr]
  refine cl_spec (nok_ok n) (fun _ _ _ hc => absurd hc (by decide +kernel)) ?_
  rintro u k ⟨rfl, rfl⟩
  simp only [go_sem, simprocAttr]
theorem nMerge_ok (n : Nob h p) {x : Int} : Does Tryz.prog 45 #[p, .int .i64 x] h (fun u h' => u = .int .i64 2 ∧ h' = h) := by
  refine spec_go mixed Tryz.func45 rfl Tryz.results45 (n := Tryz.f45.ntmps) (by kernel_rfl) (by simp) ?_
  simp only [go_sem, simprocAttr]
  refine cl_spec (nok_ok n) (fun _ _ _ hc => absurd hc (by decide +kernel)) ?_
  rintro u k ⟨rfl, rfl⟩
  simp only [go_sem, simprocAttr]
theorem nMove_ok (n : Nob h p) {x y : Int} : Does Tryz.prog 24 #[p, .int .i64 x, .int .i64 y] h (fun u h' => u = .int .i64 2 ∧ h' = h) := by
  refine spec_go mixed Tryz.func24 rfl Tryz.results24 (n := Tryz.f24.ntmps) (by kernel_rfl) (by simp) ?_
  simp only [go_sem, simprocAttr]
  refine cl_spec (nok_ok n) (fun _ _ _ hc => absurd hc (by decide +kernel)) ?_
  rintro u k ⟨rfl, rfl⟩
  simp only [go_sem, simprocAttr]
theorem nCrash_ok (n : Nob h p) {x : Int} {w : Value} : Does Tryz.prog 17 #[p, .int .i64 x, w] h (fun u h' => u = .int .i64 2 ∧ h' = h) := by
  refine spec_go mixed Tryz.func17 rfl Tryz.results17 (n := Tryz.f17.ntmps) (by kernel_rfl) (by simp) ?_
  simp only [go_sem, simprocAttr]
  refine cl_spec (nfind_ok n) (fun _ _ _ hc => absurd hc (by decide +kernel)) ?_
  rintro u k ⟨rfl, rfl⟩
  simp only [go_sem, simprocAttr]
theorem nFreeze_ok (n : Nob h p) {x : Int} {b : Bool} : Does Tryz.prog 46 #[p, .int .i64 x, .bool b] h (fun u h' => u = .int .i64 2 ∧ h' = h) := by
  refine spec_go mixed Tryz.func46 rfl Tryz.results46 (n := Tryz.f46.ntmps) (by kernel_rfl) (by simp) ?_
  simp only [go_sem, simprocAttr]
  refine cl_spec (nfind_ok n) (fun _ _ _ hc => absurd hc (by decide +kernel)) ?_
  rintro u k ⟨rfl, rfl⟩
  simp only [go_sem, simprocAttr]
theorem nSnap_ok (n : Nob h p) {x y : Int} : Does Tryz.prog 47 #[p, .int .i64 x, .int .i64 y] h (fun u h' => u = .int .i64 2 ∧ h' = h) := by
  refine spec_go mixed Tryz.func47 rfl Tryz.results47 (n := Tryz.f47.ntmps) (by kernel_rfl) (by simp) ?_
  simp only [go_sem, simprocAttr]
  refine cl_spec (nfind_ok n) (fun _ _ _ hc => absurd hc (by decide +kernel)) ?_
  rintro u k ⟨rfl, rfl⟩
  simp only [go_sem, simprocAttr]
theorem nDelete_ok (n : Nob h p) {x y : Int} : Does Tryz.prog 48 #[p, .int .i64 x, .int .i64 y] h (fun u h' => u = .int .i64 2 ∧ h' = h) := by
  refine spec_go mixed Tryz.func48 rfl Tryz.results48 (n := Tryz.f48.ntmps) (by kernel_rfl) (by simp) ?_
  simp only [go_sem, simprocAttr]
  refine cl_spec (nfind_ok n) (fun _ _ _ hc => absurd hc (by decide +kernel)) ?_
  rintro u k ⟨rfl, rfl⟩
  simp only [go_sem, simprocAttr]
/-- Acts but for a read. -/
theorem ndoes_ok (n : Nob h p) {x : VAct} {a b : Option Addr} {m c m' c' : Nat} (hx : x.inI) (hk : x.kd % 10 < 9) : Does Tryz.prog 15 #[p, .agg (x.cs (.slice a m c) (.slice b m' c')).toArray] h (fun u h' => u = .int .i64 2 ∧ h.quiet h') := by
  obtain ⟨r, hr⟩ : ∃ r, x.kd % 10 = r := ⟨_, rfl⟩
  have et : ((x.kd : Nat) : Int).tmod 10 = (r : Int) := by rw [← hr]; rfl
  have hr9 : r < 9 := by omega
  refine spec_go mixed Tryz.func15 rfl Tryz.results15 (n := Tryz.f15.ntmps) (by kernel_rfl) (by simp) ?_
  simp only [go_sem, simprocAttr, VAct.cs]
  refine cl_gen fun k ek => ?_
  have q0 : h.quiet k := by rw [ek]; simp only [go_sem, simprocAttr]
  have g0 : k.get h.next = .cells (x.cs (.slice a m c) (.slice b m' c')) .rw := by rw [ek]; simp only [go_sem, simprocAttr, VAct.cs]
  have l0 : h.next < k.next := by rw [ek]; simp
  clear ek
  unfold VAct.cs at g0
  refine cl_spec (nMap_ok (n.quiet q0)) (fun u h' hp _ => hp.2) ?_
  rintro u k1 ⟨rfl, q1⟩
  have g1 := (q1.2 _ l0).trans g0
  have n1 := n.quiet (q0.trans q1)
  have q01 := q0.trans q1
  simp only [go_sem, simprocAttr, g1, et, Pl.mapV, Pl.SMap.zero]
  by_cases k0 : r = 0
  · simp only [go_sem, simprocAttr, k0, g1]
    have hdo := nDo_ok n1 (x := IntKind.i64.wrap (0 - x.late)) (o := x.op) (a := a) (m := m) (c := c)
    unfold Pl.opV at hdo
    refine cl_spec hdo (fun _ _ _ hc => absurd hc (by decide +kernel)) ?_
    rintro u k2 ⟨rfl, q2⟩
    simp only [go_sem, simprocAttr]
    exact q01.trans q2
  have k0' : ¬ (r : Int) = 0 := by omega
  by_cases k1_ : r = 1
  · simp only [go_sem, simprocAttr, k1_, g1]
    have hnd := nodes_ok (h := k1) (x := x) (d := .slice a m c) (w := .slice b m' c') hx.2.2.1
    unfold VAct.cs at hnd
    refine cl_spec hnd (fun _ _ _ hc => absurd hc (by decide +kernel)) ?_
    rintro u k2 ⟨_, _, q2⟩
    simp only [go_sem, simprocAttr]
    refine cl_spec (nFlush_ok (n1.quiet q2)) (fun _ _ _ hc => absurd hc (by decide +kernel)) ?_
    rintro u k3 ⟨rfl, rfl⟩
    simp only [go_sem, simprocAttr]
    exact q01.trans q2
  have k1' : ¬ (r : Int) = 1 := by omega
  by_cases k2_ : r = 2
  · simp only [go_sem, simprocAttr, k2_, g1]
    refine cl_spec (nSplit_ok n1) (fun _ _ _ hc => absurd hc (by decide +kernel)) ?_
    rintro u k2 ⟨rfl, rfl⟩
    simp only [go_sem, simprocAttr]
    exact q01
  have k2' : ¬ (r : Int) = 2 := by omega
  by_cases k3_ : r = 3
  · simp only [go_sem, simprocAttr, k3_, g1]
    refine cl_spec (nMerge_ok n1) (fun _ _ _ hc => absurd hc (by decide +kernel)) ?_
    rintro u k2 ⟨rfl, rfl⟩
    simp only [go_sem, simprocAttr]
    exact q01
  have k3' : ¬ (r : Int) = 3 := by omega
  by_cases k4_ : r = 4
  · simp only [go_sem, simprocAttr, k4_, g1]
    refine cl_spec (nMove_ok n1) (fun _ _ _ hc => absurd hc (by decide +kernel)) ?_
    rintro u k2 ⟨rfl, rfl⟩
    simp only [go_sem, simprocAttr]
    exact q01
  have k4' : ¬ (r : Int) = 4 := by omega
  by_cases k5_ : r = 5
  · simp only [go_sem, simprocAttr, k5_, g1]
    refine cl_spec (nCrash_ok n1) (fun _ _ _ hc => absurd hc (by decide +kernel)) ?_
    rintro u k2 ⟨rfl, rfl⟩
    simp only [go_sem, simprocAttr]
    exact q01
  have k5' : ¬ (r : Int) = 5 := by omega
  by_cases k6_ : r = 6
  · simp only [go_sem, simprocAttr, k6_, g1]
    refine cl_spec (nFreeze_ok n1) (fun _ _ _ hc => absurd hc (by decide +kernel)) ?_
    rintro u k2 ⟨rfl, rfl⟩
    simp only [go_sem, simprocAttr]
    exact q01
  have k6' : ¬ (r : Int) = 6 := by omega
  by_cases k7_ : r = 7
  · simp only [go_sem, simprocAttr, k7_, g1]
    refine cl_spec (nSnap_ok n1) (fun _ _ _ hc => absurd hc (by decide +kernel)) ?_
    rintro u k2 ⟨rfl, rfl⟩
    simp only [go_sem, simprocAttr]
    exact q01
  have k8_ : r = 8 := by omega
  simp only [go_sem, simprocAttr, k8_, g1]
  refine cl_spec (nDelete_ok n1) (fun _ _ _ hc => absurd hc (by decide +kernel)) ?_
  rintro u k2 ⟨rfl, rfl⟩
  simp only [go_sem, simprocAttr]
  exact q01
theorem npieces_ok : Does Tryz.prog 78 #[.slice none 0 0, .slice none 0 0] h (fun u h' => u = .bool true ∧ h.quiet h') := by
  refine spec_go mixed Tryz.func78 rfl Tryz.results78 (n := Tryz.f78.ntmps) (by kernel_rfl) (by simp) ?_
  simp only [go_sem, simprocAttr]
  refine go_cutb (fun ρ k => k = h) ?_ ?_
  · refine go_loop (fun z ρ k => k = h ∧ ρ 0 = .slice none 0 0 ∧ ρ 5 = .int .i64 0) 0 ⟨rfl, by simp only [go_sem, simprocAttr]⟩ ?_
    rintro z ρ k ⟨rfl, r0, r5⟩
    simp only [go_sem, simprocAttr, r0, r5]
    exact Hold.mk rfl
  · rintro ρ k rfl
    simp only [go_sem, simprocAttr]
theorem nsame_ok : Does Tryz.prog 28 #[Pl.mapV .zero (.slice none 0 0), Pl.mapV .zero (.slice none 0 0)] h (fun u h' => u = .bool true ∧ h.quiet h') := by
  refine spec_go mixed Tryz.func28 rfl Tryz.results28 (n := Tryz.f28.ntmps) (by kernel_rfl) (by simp) ?_
  simp only [go_sem, simprocAttr, Pl.mapV, Pl.SMap.zero]
  refine cl_gen fun k ek => ?_
  have q0 : h.quiet k := by rw [ek]; simp only [go_sem, simprocAttr]
  clear ek
  refine cl_spec npieces_ok (fun _ _ _ hc => absurd hc (by decide +kernel)) ?_
  rintro u k1 ⟨rfl, q1⟩
  simp only [go_sem, simprocAttr]
  exact q0.trans q1
def VAct.kmod (x : VAct) : VAct := { x with kd := x.kd % 9 }
theorem nobodyLaw_ok {x : VAct} {w1 w2 : Value} (hx : x.inI) (hd : Words (· < h.next) h x.op.data w1) (hw : IsSl .bool (· < h.next) h x.keep w2) : Does Tryz.prog 9 #[.agg (x.cs w1 w2).toArray] h (fun u _ => u = .bool true) := by
  obtain ⟨a1, c1, rfl⟩ := hd.shape
  obtain ⟨a2, c2, rfl⟩ := hw.shape
  refine spec_go mixed Tryz.func9 rfl Tryz.results9 (n := Tryz.f9.ntmps) (by kernel_rfl) (by simp) ?_
  simp only [go_sem, simprocAttr, VAct.cs]
  refine go_gen fun k ek => ?_
  have q0 : h.quiet k := by rw [ek]; simp only [go_sem, simprocAttr]
  have g0 : k.get h.next = .cells (x.cs (.slice a1 x.op.data.length c1) (.slice a2 x.keep.length c2)) .rw := by rw [ek]; simp only [go_sem, simprocAttr, VAct.cs]
  have g1 : k.get (h.next + 1) = .cells [.int .i64 0, .int .i64 0, .slice none 0 0, .slice none 0 0] .rw := by rw [ek]; simp only [go_sem, simprocAttr]
  have g2 : k.get (h.next + 1 + 1) = .cells [.pointer none, .pointer (some ⟨h.next + 1, 0, none⟩)] .rw := by rw [ek]; simp only [go_sem, simprocAttr]
  have l0 : h.next + 1 + 1 < k.next := by rw [ek]; simp
  clear ek
  refine go_cutb (fun ρ k => True) ?_ ?_
  · refine go_loop (fun z ρ k => ∃ (i : Nat) (y : VAct), i ≤ 2 ∧ z = 2 - i ∧ y.inI ∧ y.op = x.op ∧ y.keep = x.keep ∧ k.get h.next = .cells (y.cs (.slice a1 x.op.data.length c1) (.slice a2 x.keep.length c2)) .rw ∧ k.get (h.next + 1) = .cells [.int .i64 0, .int .i64 0, .slice none 0 0, .slice none 0 0] .rw ∧
      k.get (h.next + 1 + 1) = .cells [.pointer none, .pointer (some ⟨h.next + 1, 0, none⟩)] .rw ∧ h.next + 1 + 1 < k.next ∧ ρ 1 = .pointer (some ⟨h.next, 0, none⟩) ∧ ρ 17 = .slice (some ⟨h.next + 1 + 1, 0, none⟩) 2 2 ∧ ρ 18 = .int .i64 2 ∧ ρ 19 = .int .i64 i) 2
      ⟨0, x, by omega, by omega, hx, rfl, rfl, g0, g1, g2, l0, by simp only [go_sem, simprocAttr]⟩ ?_
    rintro z ρ k ⟨i, y, hi, rfl, hy, hyo, hykp, g0, g1, g2, l0, r1, r17, r18, r19⟩
    simp only [go_sem, simprocAttr, r1, r17, r18, r19]
    refine cnd_decide (fun hlt => ?_) (fun hlt => ?_)
    · have h1 : i < 2 := by omega
      have h1z : (i : Int) < 2 := by omega
      have e19 : IntKind.i64.wrap ((i : Int) + 1) = ((i + 1 : Nat) : Int) := by rw [wi64] <;> omega
      obtain ⟨p, hp, hnp⟩ : ∃ p, [Value.pointer none, Value.pointer (some ⟨h.next + 1, 0, none⟩)][i]? = some p ∧ ∀ k : AHeap, k.get (h.next + 1) = .cells [.int .i64 0, .int .i64 0, .slice none 0 0, .slice none 0 0] .rw → Nob k p := by
        rcases (show i = 0 ∨ i = 1 by omega) with rfl | rfl
        · exact ⟨_, rfl, fun _ _ => .inl rfl⟩
        · exact ⟨_, rfl, fun _ g => .inr ⟨_, rfl, g⟩⟩
      have np := hnp k g1
      have eky : ((y.kd : Nat) : Int).tmod 9 = ((y.kd % 9 : Nat) : Int) := rfl
      have g0' := g0
      unfold VAct.cs at g0'
      simp only [go_sem, simprocAttr, r1, r17, r19, h1, h1z, g2, hp, g0']
      refine cl_spec (nRead_ok np) (fun _ _ _ hc => absurd hc (by decide +kernel)) ?_
      rintro u k1 ⟨rfl, rfl⟩
      simp only [go_sem, simprocAttr, r1, g0']
      refine cl_spec (nSince_ok np) (fun _ _ _ hc => absurd hc (by decide +kernel)) ?_
      rintro u k2 ⟨rfl, rfl⟩
      simp only [go_sem, simprocAttr]
      refine cl_spec (nMap_ok np) (fun _ _ _ hc => absurd hc (by decide +kernel)) ?_
      rintro u k3 ⟨rfl, q3⟩
      have g03 := (q3.2 _ (by omega)).trans g0'
      have g13 := (q3.2 _ (by omega)).trans g1
      have g23 := (q3.2 _ (by omega)).trans g2
      simp only [go_sem, simprocAttr, Pl.mapV, Pl.SMap.zero, r1]
      have qm : k3.quiet (k3.push (.cells [.int .i64 0, .int .i64 0, .slice none 0 0] .rw)) := .push _ _
      have gm : (k3.push (.cells [.int .i64 0, .int .i64 0, .slice none 0 0] .rw)).get k3.next = .cells [.int .i64 0, .int .i64 0, .slice none 0 0] .rw := by simp
      have lm : k3.next < (k3.push (.cells [.int .i64 0, .int .i64 0, .slice none 0 0] .rw)).next := by simp
      have l3 := Nat.lt_of_lt_of_le l0 q3.1
      have g04 := (qm.2 _ (by omega)).trans g03
      have g14 := (qm.2 _ (by omega)).trans g13
      have g24 := (qm.2 _ l3).trans g23
      generalize k3.push (.cells [.int .i64 0, .int .i64 0, .slice none 0 0] .rw) = k4 at qm gm lm g04 g14 g24
      simp only [go_sem, simprocAttr, r1, g04, eky]
      have l4 := Nat.lt_of_lt_of_le l3 qm.1
      have hkc : [Value.int .u8 ((y.kd % 9 : Nat) : Int), .int .i64 y.late, .int .i64 y.at_, .int .i64 y.node, .int .i64 y.op.kind, .int .i64 y.op.off, .int .i64 y.op.len, .slice a1 x.op.data.length c1, .slice a2 x.keep.length c2, .bool y.yes] = y.kmod.cs (.slice a1 x.op.data.length c1) (.slice a2 x.keep.length c2) := rfl
      rw [hkc]
      have g05 : (k4.set h.next (.cells (y.kmod.cs (.slice a1 x.op.data.length c1) (.slice a2 x.keep.length c2)) .rw)).get h.next = .cells (y.kmod.cs (.slice a1 x.op.data.length c1) (.slice a2 x.keep.length c2)) .rw := AHeap.get_set_self _ _ (by omega)
      have g15 : (k4.set h.next (.cells (y.kmod.cs (.slice a1 x.op.data.length c1) (.slice a2 x.keep.length c2)) .rw)).get (h.next + 1) = _ := (AHeap.get_set_ne _ _ (by omega)).trans g14
      have g25 : (k4.set h.next (.cells (y.kmod.cs (.slice a1 x.op.data.length c1) (.slice a2 x.keep.length c2)) .rw)).get (h.next + 1 + 1) = _ := (AHeap.get_set_ne _ _ (by omega)).trans g24
      have gm5 : (k4.set h.next (.cells (y.kmod.cs (.slice a1 x.op.data.length c1) (.slice a2 x.keep.length c2)) .rw)).get k3.next = _ := (AHeap.get_set_ne _ _ (by omega)).trans gm
      have l5 : h.next + 1 + 1 < (k4.set h.next (.cells (y.kmod.cs (.slice a1 x.op.data.length c1) (.slice a2 x.keep.length c2)) .rw)).next := by simpa using l4
      have lm5 : k3.next < (k4.set h.next (.cells (y.kmod.cs (.slice a1 x.op.data.length c1) (.slice a2 x.keep.length c2)) .rw)).next := by simpa using lm
      generalize k4.set h.next (.cells (y.kmod.cs (.slice a1 x.op.data.length c1) (.slice a2 x.keep.length c2)) .rw) = k5 at g05 g15 g25 gm5 l5 lm5
      have hyk : y.kmod.inI := by
        obtain ⟨i1, i2, i3, i4, i5⟩ := hy
        exact ⟨i1, i2, i3, i4, by show y.kd % 9 < 256; omega⟩
      have hk9 : y.kmod.kd % 10 < 9 := by show y.kd % 9 % 10 < 9; omega
      have hw0 : IntKind.i64.wrap 0 = 0 := rfl
      simp only [go_sem, simprocAttr, r1, g05, va_len, va_take, hw0]
      refine cl_spec (ndoes_ok (hnp k5 g15) hyk hk9) (fun _ _ _ hc => absurd hc (by decide +kernel)) ?_
      rintro u k6 ⟨rfl, q6⟩
      have g06 := (q6.2 _ (by omega)).trans g05
      have g16 := (q6.2 _ (by omega)).trans g15
      have g26 := (q6.2 _ l5).trans g25
      have gm6 := (q6.2 _ lm5).trans gm5
      have l6 := Nat.lt_of_lt_of_le l5 q6.1
      have va3 : (y.kmod.cs (.slice a1 x.op.data.length c1) (.slice a2 x.keep.length c2))[3]? = some (.int .i64 y.node) := rfl
      simp only [go_sem, simprocAttr, r1, g06, va_len, va3]
      refine cl_spec (nSnaps_ok (hnp k6 g16)) (fun _ _ _ hc => absurd hc (by decide +kernel)) ?_
      rintro u k7 ⟨rfl, rfl⟩
      simp only [go_sem, simprocAttr, gm6, hw0]
      have hou := ours_ok (h := k7) (m := .zero) (S := fun _ => True) (w := .slice none 0 0) (IsSl.nil _ _ _)
      unfold Pl.mapV Pl.SMap.zero at hou
      refine cl_spec hou (fun _ _ _ hc => absurd hc (by decide +kernel)) ?_
      rintro u k8 ⟨rfl, q8⟩
      simp only [go_sem, simprocAttr]
      have hsm := nsame_ok (h := k8)
      unfold Pl.mapV Pl.SMap.zero at hsm
      refine cl_spec hsm (fun _ _ _ hc => absurd hc (by decide +kernel)) ?_
      rintro u k9 ⟨rfl, q9⟩
      have q89 := q8.trans q9
      simp only [go_sem, simprocAttr, r19, e19]
      refine Hold.mk ⟨2 - (i + 1), by omega, i + 1, y.kmod, by omega, rfl, hyk, hyo, hykp, (q89.2 _ (by omega)).trans g06, (q89.2 _ (by omega)).trans g16, (q89.2 _ l6).trans g26, Nat.lt_of_lt_of_le l6 q89.1, by simp only [go_sem, simprocAttr, r1, r17, r18]⟩
    · simp only [go_sem, simprocAttr]
      exact Hold.mk trivial
  · rintro ρ k _
    simp only [go_sem, simprocAttr]
    have qa : k.quiet (k.push (.cells [.int .i64 0] .rw)) := .push _ _
    have hns : Ints (fun _ => True) (k.push (.cells [.int .i64 0] .rw)) [0] (.slice (some ⟨k.next, 0, none⟩) 1 1) :=
      ⟨_, 1, [[.int .i64 0]], rfl, Nat.le_refl _, by decide, (fun e => by cases e), (fun ad e => by cases e; exact .inl rfl), .cons ⟨rfl, by decide⟩ .nil, fun _ => ⟨_, _, _, rfl, trivial, AHeap.get_push_self _ _, Nat.le_refl 1, rfl⟩⟩
    have hm1 : Pl.SMap.new 10 [0] = (⟨1, 10, [⟨0, 10, 0⟩]⟩, 0) := by kernel_rfl
    refine cl_spec (vNew_ok hns (n := 10) (by unfold inI; omega)) (fun _ _ _ hc => absurd hc (by decide +kernel)) ?_
    rw [hm1]
    rintro u k1 ⟨q1, ⟨_, id, ow, rfl, hid, a, hfr⟩ | ⟨e, _⟩⟩
    rotate_left
    · exact absurd rfl e
    have hr : (⟨1, 10, [⟨0, 10, 0⟩]⟩ : Pl.SMap).right := ⟨by decide, by decide⟩
    simp only [go_sem, simprocAttr]
    have hMap : ∀ {ow' : Nat → Nat → Nat} {k : AHeap}, VAt ow' k id (Vm.new ⟨1, 10, [⟨0, 10, 0⟩]⟩) → Does Tryz.prog 13 #[.pointer (some ⟨id, 0, none⟩)] k (fun u k' => ∃ ob, u = .agg #[.int .i64 1, .int .i64 10, .slice (some ⟨ob, 0, some 3⟩) 1 1] ∧ k.next ≤ ob ∧ k'.get ob = .cells [.int .i64 0, .int .i64 10, .int .i64 0] (.tail 3) ∧ k.quiet k') := fun a => by
      refine (vMap_ok a hr).mono ?_
      rintro u k' ⟨w, rfl, hl, q⟩
      obtain ⟨css, ha, _, ⟨_, _, hnil, _⟩ | ⟨ob, rfl, hlo, hgo⟩⟩ := hl
      · cases hnil
      obtain ⟨rfl, _⟩ := Pl.all2_piece ha
      exact ⟨ob, rfl, hlo, hgo, q⟩
    refine cl_spec (hMap a) (fun _ _ _ hc => absurd hc (by decide +kernel)) ?_
    rintro u k2 ⟨ob, rfl, hlo, hgo, q2⟩
    have a2 := a.quiet q2
    have hido := a.lt
    simp only [go_sem, simprocAttr]
    have qm : k2.quiet (k2.push (.cells [.int .i64 1, .int .i64 10, .slice (some ⟨ob, 0, some 3⟩) 1 1] .rw)) := .push _ _
    have gm : (k2.push (.cells [.int .i64 1, .int .i64 10, .slice (some ⟨ob, 0, some 3⟩) 1 1] .rw)).get k2.next = .cells [.int .i64 1, .int .i64 10, .slice (some ⟨ob, 0, some 3⟩) 1 1] .rw := by simp
    have lob := AHeap.lt_of_alive k2 (i := ob) (by rw [hgo]; simp)
    have go3 : (k2.push (.cells [.int .i64 1, .int .i64 10, .slice (some ⟨ob, 0, some 3⟩) 1 1] .rw)).get ob = .cells [.int .i64 0, .int .i64 10, .int .i64 0] (.tail 3) := (qm.2 _ lob).trans hgo
    have lm3 : k2.next < (k2.push (.cells [.int .i64 1, .int .i64 10, .slice (some ⟨ob, 0, some 3⟩) 1 1] .rw)).next := by simp
    have a3 := a2.quiet qm
    have fob : fr (cutO (cutO ow k1) k2) ob ∧ ob ≠ id := ⟨fr_cut (cutO_ge hlo), by omega⟩
    have lob3 := Nat.lt_of_lt_of_le lob qm.1
    generalize k2.push (.cells [.int .i64 1, .int .i64 10, .slice (some ⟨ob, 0, some 3⟩) 1 1] .rw) = k3 at qm gm go3 a3 lm3 lob3
    refine go_cutb (fun ρ k => ∃ ow, VAt ow k id (Vm.new ⟨1, 10, [⟨0, 10, 0⟩]⟩) ∧ ρ 10 = .pointer (some ⟨id, 0, none⟩)) ?_ ?_
    · refine go_loop (fun z ρ k => (z = 1 ∧ k = k3 ∧ ρ 10 = .pointer (some ⟨id, 0, none⟩) ∧ ρ 12 = .pointer (some ⟨k2.next, 0, none⟩) ∧ ρ 101 = .int .i64 1 ∧ ρ 102 = .int .i64 0) ∨ (z = 0 ∧ (∃ ow, VAt ow k id (Vm.new ⟨1, 10, [⟨0, 10, 0⟩]⟩)) ∧ ρ 10 = .pointer (some ⟨id, 0, none⟩) ∧ ρ 101 = .int .i64 1 ∧ ρ 102 = .int .i64 1)) 1 (.inl ⟨rfl, rfl, by simp only [go_sem, simprocAttr]⟩) ?_
      rintro z ρ k (⟨rfl, rfl, r10, r12, r101, r102⟩ | ⟨rfl, ⟨ow4, a4⟩, r10, r101, r102⟩)
      · simp only [go_sem, simprocAttr, r10, r12, r101, r102, gm, go3]
        have e1 : IntKind.i64.wrap 1 = 1 := rfl
        exact Hold.mk ⟨0, by omega, .inr ⟨rfl, ⟨cutO ow k1, a.quiet ((q2.trans qm).set' hlo _)⟩, by simp only [go_sem, simprocAttr, r10, r101, e1]⟩⟩
      · simp only [go_sem, simprocAttr, r10, r101, r102]
        exact Hold.mk ⟨ow4, a4, by simp only [go_sem, simprocAttr, r10]⟩
    · rintro ρ k ⟨ow4, a4, r10⟩
      simp only [go_sem, simprocAttr, r10]
      refine cl_spec (hMap a4) (fun _ _ _ hc => absurd hc (by decide +kernel)) ?_
      rintro u k5 ⟨ob5, rfl, _, hgo5, q5⟩
      simp only [go_sem, simprocAttr]
      have lob5 := AHeap.lt_of_alive k5 (i := ob5) (by rw [hgo5]; simp)
      have qn : k5.quiet (k5.push (.cells [.int .i64 1, .int .i64 10, .slice (some ⟨ob5, 0, some 3⟩) 1 1] .rw)) := .push _ _
      have go6 : (k5.push (.cells [.int .i64 1, .int .i64 10, .slice (some ⟨ob5, 0, some 3⟩) 1 1] .rw)).get ob5 = .cells [.int .i64 0, .int .i64 10, .int .i64 0] (.tail 3) := (qn.2 _ lob5).trans hgo5
      simp only [go_sem, simprocAttr, go6]
      refine cl_spec (valive_ok _) (fun _ _ _ hc => absurd hc (by decide +kernel)) ?_
      rintro u k7 ⟨rfl, q7⟩
      simp only [go_sem, simprocAttr]
end
end Go.Proofs.YtedpfdflolkpeaaGreatDoor
