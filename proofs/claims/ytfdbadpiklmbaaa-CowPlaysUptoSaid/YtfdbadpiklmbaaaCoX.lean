/- cow: the law CowNobody: forests that nobody made. -/
import Derived.Test.YtfdbadpiklmbaaaCoW
set_option linter.unusedSimpArgs false
set_option linter.unusedVariables false
set_option linter.unnecessarySimpa false
set_option maxRecDepth 100000
namespace Go.Proofs.Ytfdbadpiklmbaaa
open Go.AM

/-- A forest that nobody made. -/
def NoF (h : AHeap) (p : Option Addr) : Prop := p = none ∨ ∃ id, p = some ⟨id, 0, none⟩ ∧ h.get id = .cells [.slice none 0 0] .rw
section
variable {own own' own'' : Nat → Nat} {h h' h'' h0 : AHeap} {S S' Z : Nat → Prop} {id : Nat} {p : Option Addr}
theorem NoF.quiet (n : NoF h p) (q : h.quiet h') : NoF h' p := n.imp (fun e => e) fun ⟨id, e, hg⟩ => ⟨id, e, (q.2 id (AHeap.lt_of_alive h (by rw [hg]; simp))).trans hg⟩
theorem nok_ok (n : NoF h p) : Does Try.prog 41 #[.pointer p] h (fun u h' => u = .bool false ∧ h' = h) := by
  rcases n with rfl | ⟨id, rfl, hg⟩
  · refine spec_go mixed Try.func41 rfl Try.results41 (n := Try.f41.ntmps) (by kernel_rfl) (by simp) ?_
    simp only [go_sem, simprocAttr]
  · refine spec_go mixed Try.func41 rfl Try.results41 (n := Try.f41.ntmps) (by kernel_rfl) (by simp) ?_
    simp only [go_sem, simprocAttr, hg]
theorem nfind_ok (n : NoF h p) {root : Int} : Does Try.prog 29 #[.pointer p, .int .i64 root] h (fun u h' => u = .tuple #[.agg #[.pointer none], .int .i64 2] ∧ h.quiet h') := by
  refine spec_go mixed Try.func29 rfl Try.results29 (n := Try.f29.ntmps) (by kernel_rfl) (by simp) ?_
  simp only [go_sem, simprocAttr]
  refine cl_spec (nok_ok (n.quiet (AHeap.quiet.push _ _))) (fun _ _ _ hc => absurd hc (by decide +kernel)) ?_
  rintro u k ⟨rfl, hk⟩
  obtain rfl : _ = k := hk.symm
  simp only [go_sem, simprocAttr]
theorem nput_ok (n : NoF h p) {root : Int} {x : Ext} : Does Try.prog 11 #[.pointer p, .int .i64 root, x.ag] h (fun u h' => u = .tuple #[.int .i64 0, .int .i64 2] ∧ h.quiet h') := by
  refine spec_go mixed Try.func11 rfl Try.results11 (n := Try.f11.ntmps) (by kernel_rfl) (by simp) ?_
  simp only [go_sem, simprocAttr, Ext.ag]
  refine cl_gen fun k1 e1 => ?_
  have q1 : h.quiet k1 := by rw [e1]; exact .push _ _
  clear e1
  refine cl_spec (nfind_ok (n.quiet q1)) (fun _ _ _ hc => absurd hc (by decide +kernel)) ?_
  rintro u k ⟨rfl, q⟩
  simp only [go_sem, simprocAttr]
  exact (q1.trans q).push' _
theorem ncut_ok (n : NoF h p) {root o m : Int} : Does Try.prog 35 #[.pointer p, .int .i64 root, .int .i64 o, .int .i64 m] h (fun u h' => u = .tuple #[.int .i64 0, .int .i64 2] ∧ h.quiet h') := by
  refine spec_go mixed Try.func35 rfl Try.results35 (n := Try.f35.ntmps) (by kernel_rfl) (by simp) ?_
  simp only [go_sem, simprocAttr]
  refine cl_spec (nfind_ok n) (fun _ _ _ hc => absurd hc (by decide +kernel)) ?_
  rintro u k ⟨rfl, q⟩
  simp only [go_sem, simprocAttr]
  exact q.push' _
theorem npart_ok (n : NoF h p) {root o m : Int} : Does Try.prog 23 #[.pointer p, .int .i64 root, .int .i64 o, .int .i64 m] h (fun u h' => u = .tuple #[.slice none 0 0, .int .i64 2] ∧ h.quiet h') := by
  refine spec_go mixed Try.func23 rfl Try.results23 (n := Try.f23.ntmps) (by kernel_rfl) (by simp) ?_
  simp only [go_sem, simprocAttr]
  refine cl_spec (nfind_ok n) (fun _ _ _ hc => absurd hc (by decide +kernel)) ?_
  rintro u k ⟨rfl, q⟩
  simp only [go_sem, simprocAttr]
  exact q.push' _
theorem nlist_ok (n : NoF h p) {root : Int} : Does Try.prog 12 #[.pointer p, .int .i64 root] h (fun u h' => u = .tuple #[.slice none 0 0, .int .i64 2] ∧ h.quiet h') := by
  refine spec_go mixed Try.func12 rfl Try.results12 (n := Try.f12.ntmps) (by kernel_rfl) (by simp) ?_
  simp only [go_sem, simprocAttr]
  refine cl_spec (npart_ok n) (fun _ _ _ hc => absurd hc (by decide +kernel)) ?_
  rintro u k ⟨rfl, q⟩
  simp only [go_sem, simprocAttr]
  exact q
theorem nat_ok (n : NoF h p) {root o : Int} : Does Try.prog 25 #[.pointer p, .int .i64 root, .int .i64 o] h (fun u h' => u = .tuple #[.int .i64 0, .int .i64 0, .bool false] ∧ h.quiet h') := by
  refine spec_go mixed Try.func25 rfl Try.results25 (n := Try.f25.ntmps) (by kernel_rfl) (by simp) ?_
  simp only [go_sem, simprocAttr]
  refine cl_spec (npart_ok n) (fun _ _ _ hc => absurd hc (by decide +kernel)) ?_
  rintro u k ⟨rfl, q⟩
  simp only [go_sem, simprocAttr]
  exact q
theorem ndeep_ok (n : NoF h p) {root : Int} : Does Try.prog 13 #[.pointer p, .int .i64 root] h (fun u h' => u = .int .i64 0 ∧ h.quiet h') := by
  refine spec_go mixed Try.func13 rfl Try.results13 (n := Try.f13.ntmps) (by kernel_rfl) (by simp) ?_
  simp only [go_sem, simprocAttr]
  refine cl_spec (nfind_ok n) (fun _ _ _ hc => absurd hc (by decide +kernel)) ?_
  rintro u k ⟨rfl, q⟩
  simp only [go_sem, simprocAttr]
  refine cl_spec (depth_ok (S := fun _ => True) (t := .nil) rfl) (fun _ _ _ hc => absurd hc (by decide +kernel)) ?_
  rintro u k2 ⟨rfl, hk⟩
  obtain rfl : _ = k2 := hk.symm
  simp only [go_sem, simprocAttr, T.depth]
  exact q.push' _
theorem nsize_ok (n : NoF h p) {root : Int} : Does Try.prog 19 #[.pointer p, .int .i64 root] h (fun u h' => u = .int .i64 0 ∧ h.quiet h') := by
  refine spec_go mixed Try.func19 rfl Try.results19 (n := Try.f19.ntmps) (by kernel_rfl) (by simp) ?_
  simp only [go_sem, simprocAttr]
  refine cl_spec (nfind_ok n) (fun _ _ _ hc => absurd hc (by decide +kernel)) ?_
  rintro u k ⟨rfl, q⟩
  simp only [go_sem, simprocAttr]
  refine cl_spec (weight_ok (S := fun _ => True) (t := .nil) rfl) (fun _ _ _ hc => absurd hc (by decide +kernel)) ?_
  rintro u k2 ⟨rfl, hk⟩
  obtain rfl : _ = k2 := hk.symm
  simp only [go_sem, simprocAttr, T.size]
  exact q.push' _
theorem ntrees_ok (n : NoF h p) : Does Try.prog 22 #[.pointer p] h (fun u h' => u = .int .i64 0 ∧ h' = h) := by
  refine spec_go mixed Try.func22 rfl Try.results22 (n := Try.f22.ntmps) (by kernel_rfl) (by simp) ?_
  simp only [go_sem, simprocAttr]
  refine cl_spec (nok_ok n) (fun _ _ _ hc => absurd hc (by decide +kernel)) ?_
  rintro u k ⟨rfl, hk⟩
  obtain rfl : _ = k := hk.symm
  simp only [go_sem, simprocAttr]
theorem nfresh_ok (n : NoF h p) {a b : Int} : Does Try.prog 28 #[.pointer p, .int .i64 a, .int .i64 b] h (fun u h' => u = .int .i64 0 ∧ h.quiet h') := by
  refine spec_go mixed Try.func28 rfl Try.results28 (n := Try.f28.ntmps) (by kernel_rfl) (by simp) ?_
  simp only [go_sem, simprocAttr]
  refine cl_spec (nfind_ok n) (fun _ _ _ hc => absurd hc (by decide +kernel)) ?_
  rintro u k ⟨rfl, q⟩
  simp only [go_sem, simprocAttr]
  refine cl_gen fun k1 e1 => ?_
  have q1 : k.quiet k1 := by rw [e1]; exact .push _ _
  clear e1
  refine cl_spec (nfind_ok (n.quiet (q.trans q1))) (fun _ _ _ hc => absurd hc (by decide +kernel)) ?_
  rintro u k2 ⟨rfl, q2⟩
  simp only [go_sem, simprocAttr]
  exact (q.trans (q1.trans q2)).push' _
theorem ndoes_ok (n : NoF h p) {a : Act} : Does Try.prog 16 #[.pointer p, .agg a.cs.toArray] h (fun u h' => u = .tuple #[.int .i64 0, .int .i64 2] ∧ h.quiet h') := by
  refine spec_go mixed Try.func16 rfl Try.results16 (n := Try.f16.ntmps) (by kernel_rfl) (by simp) ?_
  simp only [go_sem, simprocAttr, Act.cs]
  refine cnd_gen fun k1 e1 => ?_
  have q1 : h.quiet k1 := by rw [e1]; simp only [go_sem, simprocAttr]
  have g1 : k1.get h.next = .cells a.cs .rw := by rw [e1]; simp only [go_sem, simprocAttr, Act.cs]
  clear e1
  unfold Act.cs at g1
  refine cnd_decide (fun c => ?_) (fun c => ?_)
  · simp only [go_sem, simprocAttr, g1]
    have hp := nput_ok (n.quiet q1) (root := a.root) (x := a.x)
    unfold Ext.ag at hp
    refine cl_spec hp (fun _ _ _ hc => absurd hc (by decide +kernel)) ?_
    rintro u k ⟨rfl, q⟩
    simp only [go_sem, simprocAttr]
    exact q1.trans q
  · simp only [go_sem, simprocAttr, g1]
    refine cl_spec (ncut_ok (n.quiet q1) (root := a.root)) (fun _ _ _ hc => absurd hc (by decide +kernel)) ?_
    rintro u k ⟨rfl, q⟩
    simp only [go_sem, simprocAttr]
    exact q1.trans q
end
end Go.Proofs.Ytfdbadpiklmbaaa
