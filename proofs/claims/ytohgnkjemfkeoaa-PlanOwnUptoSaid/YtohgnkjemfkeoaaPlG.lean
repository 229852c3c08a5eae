/- plan: the parts of any op, and of any read, are the document's. -/
import Derived.Test.YtohgnkjemfkeoaaPlF
set_option linter.unusedSimpArgs false
set_option linter.unusedVariables false
set_option linter.unnecessarySimpa false
set_option maxRecDepth 100000
namespace Go.Proofs.Ytohgnkjemfkeoaa
open Go.AM

theorem ops_len (m : SMap) (o : Op) : (m.ops o).length ≤ 16 := by
  unfold SMap.ops
  split
  · rename_i hr; have := segs_len m.ps 0 o.range.1 (o.range.1 + o.range.2); have := hr.1.1; simp [SMap.parts, mkParts]; omega
  · simp
theorem reads_len (m : SMap) (off n : Int) : (m.reads off n).length ≤ 16 := by
  unfold SMap.reads
  split
  · rename_i hr; have := segs_len m.ps 0 off (off + n); have := hr.1.1; simp [mkParts]; omega
  · simp
theorem Parts.sl {h h' : AHeap} {l : List Part} {u : Value} (hp : Parts h h' l u) : IsSl rPart (fun _ => True) h' l u := (hp.isSl (fun _ _ _ => trivial) (fun _ _ => trivial)).imp rPartO_imp

theorem cuts_ok {h : AHeap} {m : SMap} {o : Op} {v d : Value} {a0 a1 : Int} (hd : IsSl rPiece (· < h.next) h m.ps v) (hok : o.ok) (hod : Words (· < h.next) h o.data d) (hi : inI a0 ∧ inI a1) :
    Does Try.prog 6 #[mapV m v, opV o d, .agg #[.int .i64 a0, .int .i64 a1]] h (fun u _ => u = .bool true) := by
  obtain ⟨a, c, rfl⟩ := hd.shape
  obtain ⟨a2, c2, rfl⟩ := hod.shape
  refine spec_go mixed Try.func6 rfl Try.results6 (n := Try.f6.ntmps) (by kernel_rfl) (by simp) ?_
  simp only [go_sem, simprocAttr]
  refine cl_gen fun h1 e1 => ?_
  have q1 : h.quiet h1 := by rw [e1]; simp only [go_sem, simprocAttr]
  have g1 : h1.get h.next = .cells [.int .i64 m.ver, .int .i64 m.n, .slice a m.ps.length c] .rw := by rw [e1]; simp only [go_sem, simprocAttr]
  have g2 : h1.get (h.next + 1) = .cells [.int .i64 o.kind, .int .i64 o.off, .int .i64 o.len, .slice a2 o.data.length c2] .rw := by rw [e1]; simp only [go_sem, simprocAttr]
  have g3 : h1.get (h.next + 1 + 1) = .cells [.int .i64 a0, .int .i64 a1] .rw := by rw [e1]; simp only [go_sem, simprocAttr]
  clear e1
  have l1 : h.next < h1.next := AHeap.lt_of_alive h1 (by rw [g1]; simp)
  have l2 : h.next + 1 < h1.next := AHeap.lt_of_alive h1 (by rw [g2]; simp)
  have l3 : h.next + 1 + 1 < h1.next := AHeap.lt_of_alive h1 (by rw [g3]; simp)
  have hd1 := hd.quiet q1
  have hod1 := hod.quiet q1
  refine cl_spec (theirs_ok hd1) (fun u h' hp _ => hp.2) ?_
  rintro u k1 ⟨rfl, q2⟩
  have Q1 := q2
  simp only [go_sem, simprocAttr, (Q1.2 _ l2).trans g2]
  refine cl_spec (ops_ok (hd1.quiet Q1) (hod1.quiet Q1)) (fun _ _ _ hc => absurd hc (by decide +kernel)) ?_
  rintro u k2 ⟨q3, w1, rfl, p1⟩
  have Q2 := Q1.trans q3
  simp only [go_sem, simprocAttr, (Q2.2 _ l1).trans g1, (Q2.2 _ l2).trans g2]
  refine cl_spec (rops_ok (hd1.quiet Q2) hok (hod1.quiet Q2)) (fun _ _ _ hc => absurd hc (by decide +kernel)) ?_
  rintro u k3 ⟨q4, w2, rfl, p2⟩
  have Q3 := Q2.trans q4
  simp only [go_sem, simprocAttr, (Q3.2 _ l1).trans g1]
  refine cl_spec (theirs_ok (hd1.quiet Q3)) (fun u h' hp _ => hp.2) ?_
  rintro u k4 ⟨rfl, q5⟩
  have Q4 := Q3.trans q5
  simp only [go_sem, simprocAttr, (Q4.2 _ l3).trans g3]
  refine cl_spec (reads_ok (hd1.quiet Q4)) (fun _ _ _ hc => absurd hc (by decide +kernel)) ?_
  rintro u k5 ⟨q6, w3, rfl, p3⟩
  have Q5 := Q4.trans q6
  simp only [go_sem, simprocAttr, (Q5.2 _ l1).trans g1, (Q5.2 _ l3).trans g3]
  refine cl_spec (rreads_ok (hd1.quiet Q5) hi) (fun _ _ _ hc => absurd hc (by decide +kernel)) ?_
  rintro u k6 ⟨q7, w4, rfl, p4⟩
  simp only [go_sem, simprocAttr]
  have s1 := p1.sl.quiet (((q4.trans q5).trans q6).trans q7)
  have s2 := p2.sl.quiet ((q5.trans q6).trans q7)
  have s3 := p3.sl.quiet q7
  have s4 := p4.sl
  refine cl_spec (ours_ok s1 (by have := ops_len m o; omega)) (fun _ _ _ hc => absurd hc (by decide +kernel)) ?_
  rintro u1 k7 ⟨q8, t1⟩
  simp only [go_sem, simprocAttr]
  refine cl_spec (rSame_ok t1 (s2.quiet q8)) (fun _ _ _ hc => absurd hc (by decide +kernel)) ?_
  rintro u k8 ⟨rfl, q9⟩
  simp only [go_sem, simprocAttr, decide_true]
  have Q9 := q8.trans q9
  refine cl_spec (ours_ok (s3.quiet Q9) (by have := reads_len m a0 a1; omega)) (fun _ _ _ hc => absurd hc (by decide +kernel)) ?_
  rintro u3 k9 ⟨q10, t3⟩
  simp only [go_sem, simprocAttr]
  have Q10 := Q9.trans q10
  refine cl_spec (rSame_ok t3 (s4.quiet Q10)) (fun _ _ _ hc => absurd hc (by decide +kernel)) ?_
  rintro u k10 ⟨rfl, q11⟩
  simp only [go_sem, simprocAttr, decide_true]
  have Q11 := Q10.trans q11
  refine cl_spec (pSame_ok (s1.quiet Q11) (s3.quiet Q11)) (fun _ _ _ hc => absurd hc (by decide +kernel)) ?_
  rintro u k11 ⟨rfl, q12⟩
  simp only [go_sem, simprocAttr]
  have Q12 := Q11.trans q12
  refine cl_spec (rSame_ok (s2.quiet Q12) (s4.quiet Q12)) (fun _ _ _ hc => absurd hc (by decide +kernel)) ?_
  rintro u k12 ⟨rfl, q13⟩
  simp only [go_sem, simprocAttr, beq_self_eq_true]
  have Q13 := Q12.trans q13
  refine cl_spec (pSame_ok (s1.quiet Q13) (s1.quiet Q13)) (fun _ _ _ hc => absurd hc (by decide +kernel)) ?_
  rintro u k13 ⟨rfl, q14⟩
  simp only [go_sem, simprocAttr, decide_true]
  refine cl_spec (alive_ok _) (fun _ _ _ hc => absurd hc (by decide +kernel)) ?_
  rintro u k14 ⟨rfl, rfl⟩
  simp only [go_sem, simprocAttr]

end Go.Proofs.Ytohgnkjemfkeoaa
