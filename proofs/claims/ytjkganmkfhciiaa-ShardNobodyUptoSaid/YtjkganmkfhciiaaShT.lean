/- shard: one that nobody made. -/
import Derived.Test.YtjkganmkfhciiaaShL
set_option linter.unusedSimpArgs false
set_option linter.unusedVariables false
set_option linter.unnecessarySimpa false
set_option maxRecDepth 100000
namespace Go.Proofs.Ytjkganmkfhciiaa
open Go.AM

def nobC : List Value := [.int .i64 0, .pointer none, .slice none 0 0, .int .i64 0, .int .i64 0, .int .i64 0, .slice none 0 0, .map none, .slice none 0 0, .bool false]
def Nob (h : AHeap) (p : Option Nat) : Prop := ∀ id, p = some id → h.get id = .cells nobC .rw
def np (p : Option Nat) : Value := .pointer (p.map fun id => ⟨id, 0, none⟩)
section
variable {own own' own'' : Nat → Nat} {h h' h'' : AHeap} {S S' : Nat → Prop} {p : Option Nat} {v w : Value}
theorem Nob.quiet (a : Nob h p) (q : h.quiet h') : Nob h' p := fun id e => (q.2 id (AHeap.lt_of_alive h (by rw [a id e]; simp))).trans (a id e)
theorem nok_ok (a : Nob h p) : Does Try.prog 29 #[np p] h (fun u h' => u = .bool false ∧ h' = h) := by
  unfold np
  cases p with
  | none =>
    refine spec_go mixed Try.func29 rfl Try.results29 (n := Try.f29.ntmps) (by kernel_rfl) (by simp) ?_
    simp only [go_sem, simprocAttr, Option.map_none]
  | some id =>
    have hg := a id rfl
    unfold nobC at hg
    refine spec_go mixed Try.func29 rfl Try.results29 (n := Try.f29.ntmps) (by kernel_rfl) (by simp) ?_
    simp only [go_sem, simprocAttr, Option.map_some, hg]
theorem nfind_ok (a : Nob h p) {x : Value} : Does Try.prog 32 #[np p, x] h (fun u h' => u = .tuple #[.int .i64 0, .int .i64 2] ∧ h' = h) := by
  refine spec_go mixed Try.func32 rfl Try.results32 (n := Try.f32.ntmps) (by kernel_rfl) (by simp) ?_
  simp only [go_sem, simprocAttr]
  refine cl_spec (nok_ok a) (fun _ _ _ hc => absurd hc (by decide +kernel)) ?_
  rintro u k ⟨rfl, rfl⟩
  simp only [go_sem, simprocAttr]
theorem nDo_ok (a : Nob h p) {o : Bop} (hv : Words S h o.data v) : Does Try.prog 23 #[np p, .agg (o.cs v).toArray] h (fun u h' => u = .int .i64 2 ∧ h.quiet h') := by
  obtain ⟨av, cv, rfl⟩ := hv.shape
  refine spec_go mixed Try.func23 rfl Try.results23 (n := Try.f23.ntmps) (by kernel_rfl) (by simp) ?_
  simp only [go_sem, simprocAttr, bo_len, bo_one, bo_take, bo_put]
  refine cl_spec (nok_ok (a.quiet (.push _ _))) (fun _ _ _ hc => absurd hc (by decide +kernel)) ?_
  rintro u k ⟨rfl, rfl⟩
  simp only [go_sem, simprocAttr]
theorem nFlush_ok (a : Nob h p) : Does Try.prog 26 #[np p] h (fun u h' => u = .int .i64 2 ∧ h' = h) := by
  refine spec_go mixed Try.func26 rfl Try.results26 (n := Try.f26.ntmps) (by kernel_rfl) (by simp) ?_
  simp only [go_sem, simprocAttr]
  refine cl_spec (nok_ok a) (fun _ _ _ hc => absurd hc (by decide +kernel)) ?_
  rintro u k ⟨rfl, rfl⟩
  simp only [go_sem, simprocAttr]
theorem nFreeze_ok (a : Nob h p) {b : Bool} : Does Try.prog 11 #[np p, .bool b] h (fun u h' => u = .int .i64 2 ∧ h' = h) := by
  refine spec_go mixed Try.func11 rfl Try.results11 (n := Try.f11.ntmps) (by kernel_rfl) (by simp) ?_
  simp only [go_sem, simprocAttr]
  refine cl_spec (nok_ok a) (fun _ _ _ hc => absurd hc (by decide +kernel)) ?_
  rintro u k ⟨rfl, rfl⟩
  simp only [go_sem, simprocAttr]
theorem nSnap_ok (a : Nob h p) {x : Int} : Does Try.prog 24 #[np p, .int .i64 x] h (fun u h' => u = .int .i64 2 ∧ h' = h) := by
  refine spec_go mixed Try.func24 rfl Try.results24 (n := Try.f24.ntmps) (by kernel_rfl) (by simp) ?_
  simp only [go_sem, simprocAttr]
  refine cl_spec (nok_ok a) (fun _ _ _ hc => absurd hc (by decide +kernel)) ?_
  rintro u k ⟨rfl, rfl⟩
  simp only [go_sem, simprocAttr]
theorem nDelete_ok (a : Nob h p) {x : Int} : Does Try.prog 27 #[np p, .int .i64 x] h (fun u h' => u = .int .i64 2 ∧ h.quiet h') := by
  refine spec_go mixed Try.func27 rfl Try.results27 (n := Try.f27.ntmps) (by kernel_rfl) (by simp) ?_
  simp only [go_sem, simprocAttr]
  refine cl_spec (nfind_ok (a.quiet (.push _ _))) (fun _ _ _ hc => absurd hc (by decide +kernel)) ?_
  rintro u k ⟨rfl, rfl⟩
  simp only [go_sem, simprocAttr]
theorem nRollback_ok (a : Nob h p) {x : Int} : Does Try.prog 28 #[np p, .int .i64 x] h (fun u h' => u = .int .i64 2 ∧ h' = h) := by
  refine spec_go mixed Try.func28 rfl Try.results28 (n := Try.f28.ntmps) (by kernel_rfl) (by simp) ?_
  simp only [go_sem, simprocAttr]
  refine cl_spec (nfind_ok a) (fun _ _ _ hc => absurd hc (by decide +kernel)) ?_
  rintro u k ⟨rfl, rfl⟩
  simp only [go_sem, simprocAttr]
theorem nCrash_ok (a : Nob h p) {kv : Value} : Does Try.prog 21 #[np p, kv] h (fun u h' => u = .tuple #[] ∧ h' = h) := by
  refine spec_go mixed Try.func21 rfl Try.results21 (n := Try.f21.ntmps) (by kernel_rfl) (by simp) ?_
  simp only [go_sem, simprocAttr]
  refine cl_spec (nok_ok a) (fun _ _ _ hc => absurd hc (by decide +kernel)) ?_
  rintro u k ⟨rfl, rfl⟩
  simp only [go_sem, simprocAttr]
theorem nRead_ok (a : Nob h p) {x y : Int} : Does Try.prog 12 #[np p, .int .i64 x, .int .i64 y] h (fun u h' => u = .tuple #[.slice none 0 0, .int .i64 2] ∧ h' = h) := by
  refine spec_go mixed Try.func12 rfl Try.results12 (n := Try.f12.ntmps) (by kernel_rfl) (by simp) ?_
  simp only [go_sem, simprocAttr]
  refine cl_spec (nok_ok a) (fun _ _ _ hc => absurd hc (by decide +kernel)) ?_
  rintro u k ⟨rfl, rfl⟩
  simp only [go_sem, simprocAttr]
theorem nLook_ok (a : Nob h p) {x y z : Int} : Does Try.prog 15 #[np p, .int .i64 x, .int .i64 y, .int .i64 z] h (fun u h' => u = .tuple #[.slice none 0 0, .int .i64 2] ∧ h' = h) := by
  refine spec_go mixed Try.func15 rfl Try.results15 (n := Try.f15.ntmps) (by kernel_rfl) (by simp) ?_
  simp only [go_sem, simprocAttr]
  refine cl_spec (nfind_ok a) (fun _ _ _ hc => absurd hc (by decide +kernel)) ?_
  rintro u k ⟨rfl, rfl⟩
  simp only [go_sem, simprocAttr]
theorem nSince_ok (a : Nob h p) {x y : Int} : Does Try.prog 17 #[np p, .int .i64 x, .int .i64 y] h (fun u h' => u = .tuple #[.slice none 0 0, .int .i64 2] ∧ h' = h) := by
  refine spec_go mixed Try.func17 rfl Try.results17 (n := Try.f17.ntmps) (by kernel_rfl) (by simp) ?_
  simp only [go_sem, simprocAttr]
  refine cl_spec (nfind_ok a) (fun _ _ _ hc => absurd hc (by decide +kernel)) ?_
  rintro u k ⟨rfl, rfl⟩
  simp only [go_sem, simprocAttr]
theorem nFrozen_ok (a : Nob h p) : Does Try.prog 13 #[np p] h (fun u h' => u = .bool false ∧ h' = h) := by
  refine spec_go mixed Try.func13 rfl Try.results13 (n := Try.f13.ntmps) (by kernel_rfl) (by simp) ?_
  simp only [go_sem, simprocAttr]
  refine cl_spec (nok_ok a) (fun _ _ _ hc => absurd hc (by decide +kernel)) ?_
  rintro u k ⟨rfl, rfl⟩
  simp only [go_sem, simprocAttr]
theorem nSnaps_ok (a : Nob h p) : Does Try.prog 16 #[np p] h (fun u h' => u = .slice none 0 0 ∧ h' = h) := by
  refine spec_go mixed Try.func16 rfl Try.results16 (n := Try.f16.ntmps) (by kernel_rfl) (by simp) ?_
  simp only [go_sem, simprocAttr]
  refine cl_spec (nok_ok a) (fun _ _ _ hc => absurd hc (by decide +kernel)) ?_
  rintro u k ⟨rfl, rfl⟩
  simp only [go_sem, simprocAttr]
theorem nDirty_ok (a : Nob h p) : Does Try.prog 22 #[np p] h (fun u h' => u = .int .i64 0 ∧ h' = h) := by
  refine spec_go mixed Try.func22 rfl Try.results22 (n := Try.f22.ntmps) (by kernel_rfl) (by simp) ?_
  simp only [go_sem, simprocAttr]
  refine cl_spec (nok_ok a) (fun _ _ _ hc => absurd hc (by decide +kernel)) ?_
  rintro u k ⟨rfl, rfl⟩
  simp only [go_sem, simprocAttr]
theorem ndoes_ok (a : Nob h p) {x : SAct} (hx : x.inI) (hv : Words S h x.op.data v) (hw : IsSl rBool S h x.keep w) (h6 : x.kd < 6) :
    Does Try.prog 10 #[np p, .agg (x.cs v w).toArray] h (fun u h' => u = .int .i64 2 ∧ h.quiet h') := by
  obtain ⟨av, cv, rfl⟩ := hv.shape
  obtain ⟨aw, cw, rfl⟩ := hw.shape
  obtain ⟨r, hr⟩ : ∃ r, x.kd = r := ⟨_, rfl⟩
  have et : ((x.kd : Nat) : Int).tmod 8 = (r : Int) := by
    have : x.kd % 8 = r := by omega
    rw [← this]; rfl
  rw [hr] at h6
  refine spec_go mixed Try.func10 rfl Try.results10 (n := Try.f10.ntmps) (by kernel_rfl) (by simp) ?_
  simp only [go_sem, simprocAttr, sa_len, sa_one, sa_take, sa_0, et]
  have q0 : h.quiet (h.push (.cells (x.cs (.slice av x.op.data.length cv) (.slice aw x.keep.length cw)) .rw)) := .push _ _
  have g0 : (h.push (.cells (x.cs (.slice av x.op.data.length cv) (.slice aw x.keep.length cw)) .rw)).get h.next = .cells (x.cs (.slice av x.op.data.length cv) (.slice aw x.keep.length cw)) .rw := by simp
  generalize h.push (.cells (x.cs (.slice av x.op.data.length cv) (.slice aw x.keep.length cw)) .rw) = k at q0 g0
  have a0 := a.quiet q0
  rcases (by omega : r = 0 ∨ r = 1 ∨ r = 2 ∨ r = 3 ∨ r = 4 ∨ r = 5) with rfl | rfl | rfl | rfl | rfl | rfl
  · simp only [go_sem, simprocAttr, g0, sa_len, sa_op]
    refine cl_spec (nDo_ok a0 (hv.quiet q0)) (fun _ _ _ hc => absurd hc (by decide +kernel)) ?_
    rintro u k1 ⟨rfl, q1⟩
    simp only [go_sem, simprocAttr]
    exact q0.trans q1
  · simp only [go_sem, simprocAttr, g0]
    refine cl_spec (nFlush_ok a0) (fun _ _ _ hc => absurd hc (by decide +kernel)) ?_
    rintro u k1 ⟨rfl, rfl⟩
    simp only [go_sem, simprocAttr]
    exact q0
  · simp only [go_sem, simprocAttr, g0, sa_6]
    refine cl_spec (nFreeze_ok a0) (fun _ _ _ hc => absurd hc (by decide +kernel)) ?_
    rintro u k1 ⟨rfl, rfl⟩
    simp only [go_sem, simprocAttr]
    exact q0
  · simp only [go_sem, simprocAttr, g0, sa_5]
    refine cl_spec (nSnap_ok a0) (fun _ _ _ hc => absurd hc (by decide +kernel)) ?_
    rintro u k1 ⟨rfl, rfl⟩
    simp only [go_sem, simprocAttr]
    exact q0
  · simp only [go_sem, simprocAttr, g0, sa_5]
    refine cl_spec (nDelete_ok a0) (fun _ _ _ hc => absurd hc (by decide +kernel)) ?_
    rintro u k1 ⟨rfl, q1⟩
    simp only [go_sem, simprocAttr]
    exact q0.trans q1
  · simp only [go_sem, simprocAttr, g0, sa_5]
    refine cl_spec (nRollback_ok a0) (fun _ _ _ hc => absurd hc (by decide +kernel)) ?_
    rintro u k1 ⟨rfl, rfl⟩
    simp only [go_sem, simprocAttr]
    exact q0
end
end Go.Proofs.Ytjkganmkfhciiaa
