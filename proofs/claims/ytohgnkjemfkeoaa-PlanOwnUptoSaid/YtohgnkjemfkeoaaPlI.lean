/- plan: joining what was read: the two laws. -/
import Derived.Test.YtohgnkjemfkeoaaPlH
set_option linter.unusedSimpArgs false
set_option linter.unusedVariables false
set_option linter.unnecessarySimpa false
set_option maxRecDepth 100000
namespace Go.Proofs.Ytohgnkjemfkeoaa
open Go.AM

def lensP (l : List Part) : List Int := l.map fun p => p.op.len
def lensD (l : List (List Nat)) : List Int := l.map fun d => (d.length : Int)

section
variable {h : AHeap} {S S' : Nat → Prop}

theorem eqLens_ok {ps : List Part} {ds : List (List Nat)} {v w : Value} (hx : IsSl rPart S h ps v) (hy : IsSl (Rep.list rW) S' h ds w) :
    Does Try.prog 49 #[v, w, .func (.func 50) #[] #[]] h (fun u h' => u = .bool (decide (lensP ps = lensD ds)) ∧ h.quiet h') := by
  obtain ⟨a, c, rfl⟩ := hx.shape
  obtain ⟨a2, c2, rfl⟩ := hy.shape
  have l1 := hx.len
  have ll : lensP ps = lensD ds → ps.length = ds.length := fun e => by have := congrArg List.length e; simpa [lensP, lensD] using this
  refine spec_go mixed Try.func49 rfl Try.results49 (n := Try.f49.ntmps) (by kernel_rfl) (by simp) ?_
  simp only [go_sem, simprocAttr]
  by_cases hl : ps.length = ds.length
  · have hl' : ((ps.length : Nat) : Int) = ds.length := by omega
    simp only [go_sem, simprocAttr, hl', decide_true]
    refine go_loop (fun z ρ k => ∃ i : Nat, i ≤ ps.length ∧ z = ps.length - i ∧ h.quiet k ∧ (lensP ps).take i = (lensD ds).take i ∧ ρ 1 = .slice a2 ds.length c2 ∧ ρ 2 = .func (.func 50) #[] #[] ∧ ρ 15 = .slice a ps.length c ∧ ρ 16 = .int .i64 ds.length ∧ ρ 17 = .int .i64 i) ps.length ⟨0, by omega, by omega, .refl _, rfl, by simp only [go_sem, simprocAttr, hl']⟩ ?_
    rintro z ρ k ⟨i, hi, rfl, qk, ht, r1, r2, r15, r16, r17⟩
    simp only [go_sem, simprocAttr, r1, r2, r15, r16, r17]
    refine cnd_decide (fun hx' => ?_) (fun hx' => ?_)
    · have h1 : i < ps.length := by omega
      have h2 : i < ds.length := by omega
      obtain ⟨b, off, sp, cc, md, x, dx, rfl, _, hg, hxi, hx1, hx2, hxo, hxd, hle, hdt, _⟩ := (hx.quiet qk).atPart h1
      obtain ⟨b2, off2, sp2, cc2, md2, y, dy, rfl, _, hg2, hyi, hyd, hc2⟩ := (hy.quiet qk).atL h2
      have e9 : IntKind.i64.wrap ((i : Int) + 1) = ((i + 1 : Nat) : Int) := by rw [wi64] <;> omega
      have lb2 : b2 < k.next := AHeap.lt_of_alive k (by rw [hg2]; simp)
      obtain ⟨s1, s2⟩ := take_eq_step ht (show (lensP ps)[i]? = some x.op.len by simp [lensP, hxi]) (show (lensD ds)[i]? = some (y.length : Int) by simp [lensD, hyi])
      obtain ⟨ax, cx, rfl⟩ := hxd.shape
      obtain ⟨ay, cy, rfl⟩ := hyd.shape
      simp only [go_sem, simprocAttr, r1, r2, r15, r16, r17, h1, h2, hg, hle, hdt, AHeap.get_push_lt _ _ lb2, hg2, hc2]
      refine cl_gen fun H eH => ?_
      have qH : k.quiet H := by rw [eH]; simp only [go_sem, simprocAttr]
      clear eH
      have one : Does Try.prog 50 #[partV x (.slice ax x.op.data.length cx), .slice ay y.length cy] H (fun u h' => u = .bool (decide (x.op.len = y.length)) ∧ H.quiet h') := by
        refine spec_go mixed Try.func50 rfl Try.results50 (n := Try.f50.ntmps) (by kernel_rfl) (by simp) ?_
        simp only [go_sem, simprocAttr]
      refine cl_spec one (fun _ _ _ hc => absurd hc (by decide +kernel)) ?_
      rintro u k2 ⟨rfl, q2⟩
      by_cases e : x.op.len = y.length
      · simp only [go_sem, simprocAttr, r1, r2, r15, r16, r17, decide_eq_true e, e9]
        exact Hold.mk ⟨ps.length - (i + 1), by omega, i + 1, by omega, rfl, (qk.trans qH).trans q2, s1 e, by simp only [go_sem, simprocAttr, r1, r2, r15, r16]⟩
      · simp only [go_sem, simprocAttr, r1, r2, r15, r16, r17, decide_eq_false e]
        exact ⟨congrArg Value.bool (decide_eq_false (s2 e)).symm, (qk.trans qH).trans q2⟩
    · have e1 : i = ps.length := by omega
      rw [List.take_of_length_le (by simp [lensP]; omega), List.take_of_length_le (by simp [lensD]; omega)] at ht
      simp only [go_sem, simprocAttr]
      exact ⟨congrArg Value.bool (decide_eq_true ht).symm, qk⟩
  · have hl' : ¬ ((ps.length : Nat) : Int) = ds.length := by omega
    simp only [go_sem, simprocAttr, hl', decide_false]
    exact congrArg Value.bool (decide_eq_false (fun e => hl (ll e))).symm

/-- What data are together. -/
def SMap.join (m : SMap) (off n : Int) (ds : List (List Nat)) : List Nat × Int :=
  if m.err (rdOp off n) ≠ 0 then ([], m.err (rdOp off n)) else if lensP (m.reads off n) = lensD ds then (ds.flatten, 0) else ([], 5)

theorem join_ok {m : SMap} {off n : Int} {ds : List (List Nat)} {v w : Value} (hd : IsSl rPiece S h m.ps v) (hy : IsSl (Rep.list rW) S' h ds w) (hn : ds.flatten.length ≤ 1099511627776) : Does Try.prog 26 #[mapV m v, .int .i64 off, .int .i64 n, w] h
      (fun u h' => h.quiet h' ∧ ∃ x, u = .tuple #[x, .int .i64 (m.join off n ds).2] ∧ Words (fun _ => True) h' (m.join off n ds).1 x) := by
  obtain ⟨a, c, rfl⟩ := hd.shape
  refine spec_go mixed Try.func26 rfl Try.results26 (n := Try.f26.ntmps) (by kernel_rfl) (by simp) ?_
  simp only [go_sem, simprocAttr]
  have q0 := AHeap.quiet.push h (.cells [.int .i64 m.ver, .int .i64 m.n, .slice a m.ps.length c] .rw)
  refine cl_spec (reads_ok (hd.quiet q0)) (fun _ _ _ hc => absurd hc (by decide +kernel)) ?_
  rintro u k1 ⟨q1, w1, rfl, p1⟩
  have Q1 := q0.trans q1
  unfold SMap.join
  by_cases he : m.err (rdOp off n) = 0
  · rw [if_neg (by simpa using he)]
    simp only [go_sem, simprocAttr, he]
    refine cl_spec (eqLens_ok p1.sl (hy.quiet Q1)) (fun _ _ _ hc => absurd hc (by decide +kernel)) ?_
    rintro u k2 ⟨rfl, q2⟩
    by_cases hl : lensP (m.reads off n) = lensD ds
    · rw [if_pos hl]
      simp only [go_sem, simprocAttr, decide_eq_true hl]
      refine cl_spec (Concat_ok (hy.quiet (Q1.trans q2)) hn) (fun _ _ _ hc => absurd hc (by decide +kernel)) ?_
      rintro u k3 ⟨q3, hu⟩
      simp only [go_sem, simprocAttr]
      exact ⟨(Q1.trans q2).trans q3, u, rfl, hu.weaken fun _ _ => trivial⟩
    · rw [if_neg hl]
      simp only [go_sem, simprocAttr, decide_eq_false hl]
      exact ⟨Q1.trans q2, _, rfl, .nil _ _ _⟩
  · rw [if_pos he]
    simp only [go_sem, simprocAttr, he]
    exact ⟨Q1, _, rfl, .nil _ _ _⟩

theorem rjoin_ok {m : SMap} {off n : Int} {ds : List (List Nat)} {v w : Value} (hd : IsSl rPiece S h m.ps v) (hy : IsSl (Rep.list rW) S' h ds w) (hi : inI off ∧ inI n) (hn : ds.flatten.length ≤ 1099511627776) : Does Try.prog 27 #[mapV m v, .int .i64 off, .int .i64 n, w] h
      (fun u h' => h.quiet h' ∧ ∃ x, u = .tuple #[x, .int .i64 (m.join off n ds).2] ∧ Words (fun _ => True) h' (m.join off n ds).1 x) := by
  obtain ⟨a, c, rfl⟩ := hd.shape
  obtain ⟨a2, c2, rfl⟩ := hy.shape
  have ll : lensP (m.reads off n) = lensD ds → (m.reads off n).length = ds.length := fun e => by have := congrArg List.length e; simpa [lensP, lensD] using this
  refine spec_go mixed Try.func27 rfl Try.results27 (n := Try.f27.ntmps) (by kernel_rfl) (by simp) ?_
  simp only [go_sem, simprocAttr]
  have q0 := AHeap.quiet.push h (.cells [.int .i64 m.ver, .int .i64 m.n, .slice a m.ps.length c] .rw)
  refine cl_spec (rreads_ok (hd.quiet q0) hi) (fun _ _ _ hc => absurd hc (by decide +kernel)) ?_
  rintro u k1 ⟨q1, w1, rfl, p1⟩
  have Q1 := q0.trans q1
  unfold SMap.join
  by_cases he : m.err (rdOp off n) = 0
  · rw [if_neg (by simpa using he)]
    have hs := p1.sl
    generalize m.reads off n = ps at *
    obtain ⟨a3, c3, rfl⟩ := hs.shape
    simp only [go_sem, simprocAttr, he]
    by_cases hl : ps.length = ds.length
    · have hl' : ((ps.length : Nat) : Int) = ds.length := by omega
      have hlen := hs.len
      simp only [go_sem, simprocAttr, hl', decide_true]
      refine go_loop (fun z ρ k => ∃ (i : Nat) (u : Value), i ≤ ps.length ∧ z = ps.length - i ∧ k1.quiet k ∧ (lensP ps).take i = (lensD ds).take i ∧ Lst rW k1.next (fun _ => False) k (ds.take i).flatten u ∧
        ρ 3 = .slice a2 ds.length c2 ∧ ρ 10 = .slice a3 ps.length c3 ∧ ρ 12 = u ∧ ρ 13 = .int .i64 i) ps.length ⟨0, _, by omega, by omega, .refl _, rfl, .nil _ _ _ _, by simp only [go_sem, simprocAttr, hl']⟩ ?_
      rintro z ρ k ⟨i, u, hi, rfl, qk, ht, hlu, r3, r10, r12, r13⟩
      simp only [go_sem, simprocAttr, r3, r10, r12, r13]
      refine cnd_decide (fun hx' => ?_) (fun hx' => ?_)
      · have h1 : i < ps.length := by omega
        have h2 : i < ds.length := by omega
        obtain ⟨b, off, sp, cc, md, x, dx, rfl, _, hg, hxi, hx1, hx2, hxo, hxd, hle, hdt, _, f0, f1, f2, f3, f4, f5⟩ := (hs.quiet qk).atPart h1
        obtain ⟨b2, off2, sp2, cc2, md2, y, dy, rfl, _, hg2, hyi, hyd, hc2⟩ := (hy.quiet (Q1.trans qk)).atL h2
        have e9 : IntKind.i64.wrap ((i : Int) + 1) = ((i + 1 : Nat) : Int) := by rw [wi64] <;> omega
        obtain ⟨s1, s2⟩ := take_eq_step ht (show (lensP ps)[i]? = some x.op.len by simp [lensP, hxi]) (show (lensD ds)[i]? = some (y.length : Int) by simp [lensD, hyi])
        obtain ⟨ay, cy, rfl⟩ := hyd.shape
        have htl := congrArg List.length (sum_take ds hyi)
        rw [List.length_append] at htl
        have hb := flat_take_le ds (i + 1)
        by_cases e : x.op.len = y.length
        · have f4' : cc[off + i * 6 + 4]? = some (.int .i64 (y.length : Nat)) := by rw [f4, e]
          obtain ⟨u4, k4, e4, hl4, hf4, _⟩ := hlu.app (ys := y) 1 rfl (bytes := 8) (n := y.length) (nat_all2 (fun n hn => by have := hyd.vals rfl n hn; exact this)) rfl (by omega) (by omega) qk.1
          rw [nat_flat] at e4
          simp only [go_sem, simprocAttr, r3, r10, r12, r13, h1, h2, hg, f4', hg2, hc2, decide_true, hyd.acellsN, e4, e9]
          refine Hold.mk ⟨ps.length - (i + 1), by omega, i + 1, u4, by omega, rfl, Fw.behind qk hf4 (fun j e => (hlu.blk_ge e).1), s1 e, ?_, by simp only [go_sem, simprocAttr, r3, r10]⟩
          rw [sum_take ds hyi]; exact hl4
        · have e' : ¬ ((y.length : Nat) : Int) = x.op.len := fun e' => e e'.symm
          simp only [go_sem, simprocAttr, r3, r10, r12, r13, h1, h2, hg, f4, hg2, hc2, e', decide_false]
          rw [if_neg (s2 e)]
          exact ⟨Q1.trans qk, _, rfl, .nil _ _ _⟩
      · have e1 : i = ps.length := by omega
        rw [List.take_of_length_le (by simp [lensP]; omega), List.take_of_length_le (by simp [lensD]; omega)] at ht
        rw [List.take_of_length_le (by omega)] at hlu
        simp only [go_sem, simprocAttr, r12]
        rw [if_pos ht]
        exact ⟨Q1.trans qk, u, rfl, hlu.isSl (fun _ _ _ => trivial) (fun _ _ => trivial)⟩
    · have hl' : ¬ ((ps.length : Nat) : Int) = ds.length := by omega
      simp only [go_sem, simprocAttr, hl', decide_false]
      rw [if_neg (fun e => hl (ll e))]
      exact ⟨Q1, _, rfl, .nil _ _ _⟩
  · rw [if_pos he]
    simp only [go_sem, simprocAttr, he]
    exact ⟨Q1, _, rfl, .nil _ _ _⟩

/-- What is read of a volume. -/
def readV (xs : List Nat) (off n : Int) : List Nat × Int :=
  if xs.length ≤ 1024 then (if 0 ≤ n ∧ 0 ≤ off ∧ off ≤ xs.length ∧ n ≤ xs.length - off then ((xs.drop off.toNat).take n.toNat, 0) else ([], 1)) else ([], 6)

theorem rRead_ok {xs : List Nat} {v : Value} {off n : Int} (hx : Words S h xs v) : Does Try.prog 28 #[v, .int .i64 off, .int .i64 n] h
      (fun u h' => h.quiet h' ∧ ∃ x, u = .tuple #[x, .int .i64 (readV xs off n).2] ∧ Words (h.next ≤ ·) h' (readV xs off n).1 x) := by
  obtain ⟨a, c, rfl⟩ := hx.shape
  have hl := hx.len
  refine spec_go mixed Try.func28 rfl Try.results28 (n := Try.f28.ntmps) (by kernel_rfl) (by simp) ?_
  simp only [go_sem, simprocAttr]
  refine cl_spec many_ok (fun _ _ _ hc => absurd hc (by decide +kernel)) ?_
  rintro u k ⟨rfl, rfl⟩
  unfold readV
  by_cases h1 : xs.length ≤ 1024
  · rw [if_pos h1]
    have h1' : (xs.length : Int) ≤ 1024 := by omega
    simp only [go_sem, simprocAttr, decide_eq_true h1']
    by_cases h2 : n < 0
    · simp only [go_sem, simprocAttr, h2, decide_true]
      rw [if_neg (by omega)]
      exact ⟨_, rfl, .nil _ _ _⟩
    · simp only [go_sem, simprocAttr, h2, decide_false]
      refine cl_spec (rin_ok (by omega) (by omega)) (fun _ _ _ hc => absurd hc (by decide +kernel)) ?_
      rintro u k ⟨rfl, rfl⟩
      by_cases h3 : 0 ≤ off ∧ off ≤ (xs.length : Int) ∧ n ≤ xs.length - off
      · rw [if_pos ⟨by omega, h3⟩]
        have e1 : IntKind.i64.wrap (off + n) = off + n := by rw [wi64] <;> omega
        obtain ⟨a', c', es, hs⟩ := hx.sliceI 1 rfl (l := off) (m := off + n) (by omega) (by omega) (by omega)
        rw [show (off + n).toNat - off.toNat = n.toNat by omega] at es hs
        have hlen := hs.len.1.symm
        obtain ⟨u4, k4, e4, hl4, hf4, _⟩ := (Lst.nil rW k.next (fun _ => False) k).app (ys := (xs.drop off.toNat).take n.toNat) 1 rfl (bytes := 8) (n := n.toNat) (nat_all2 (fun n hn => by have := hs.vals rfl n hn; exact this)) hlen (by simp; omega) (by simp; omega) (Nat.le_refl _)
        rw [nat_flat] at e4
        simp only [go_sem, simprocAttr, decide_eq_true h3, e1, es, hs.acellsN, e4]
        exact ⟨hf4.quiet (fun j _ e => by cases e), u4, rfl, hl4.isSl (fun _ e _ => e.elim) (fun _ e => e)⟩
      · rw [if_neg (fun e => h3 e.2)]
        simp only [go_sem, simprocAttr, decide_eq_false h3]
        exact ⟨_, rfl, .nil _ _ _⟩
  · rw [if_neg h1]
    have h1' : ¬ ((xs.length : Int) ≤ 1024) := by omega
    simp only [go_sem, simprocAttr, decide_eq_false h1']
    exact ⟨_, rfl, .nil _ _ _⟩
end

theorem joins_ok {h : AHeap} {m : SMap} {v w : Value} {a0 a1 : Int} {ds : List (List Nat)} (hd : IsSl rPiece (· < h.next) h m.ps v) (hy : IsSl (Rep.list rW) (· < h.next) h ds w) (hi : inI a0 ∧ inI a1) (hn : ds.flatten.length ≤ 1099511627776) :
    Does Try.prog 7 #[mapV m v, .agg #[.int .i64 a0, .int .i64 a1], w] h (fun u _ => u = .bool true) := by
  obtain ⟨a, c, rfl⟩ := hd.shape
  refine spec_go mixed Try.func7 rfl Try.results7 (n := Try.f7.ntmps) (by kernel_rfl) (by simp) ?_
  simp only [go_sem, simprocAttr]
  refine cl_gen fun h1 e1 => ?_
  have q1 : h.quiet h1 := by rw [e1]; simp only [go_sem, simprocAttr]
  have g1 : h1.get h.next = .cells [.int .i64 m.ver, .int .i64 m.n, .slice a m.ps.length c] .rw := by rw [e1]; simp only [go_sem, simprocAttr]
  have g3 : h1.get (h.next + 1) = .cells [.int .i64 a0, .int .i64 a1] .rw := by rw [e1]; simp only [go_sem, simprocAttr]
  clear e1
  have l1 : h.next < h1.next := AHeap.lt_of_alive h1 (by rw [g1]; simp)
  have l3 : h.next + 1 < h1.next := AHeap.lt_of_alive h1 (by rw [g3]; simp)
  have hd1 := hd.quiet q1
  have hy1 := hy.quiet q1
  refine cl_spec (theirs_ok hd1) (fun u h' hp _ => hp.2) ?_
  rintro u k1 ⟨rfl, Q1⟩
  simp only [go_sem, simprocAttr, (Q1.2 _ l3).trans g3]
  refine cl_spec (join_ok (hd1.quiet Q1) (hy1.quiet Q1) hn) (fun _ _ _ hc => absurd hc (by decide +kernel)) ?_
  rintro u k2 ⟨q3, w1, rfl, p1⟩
  have Q2 := Q1.trans q3
  simp only [go_sem, simprocAttr, (Q2.2 _ l1).trans g1, (Q2.2 _ l3).trans g3]
  refine cl_spec (rjoin_ok (hd1.quiet Q2) (hy1.quiet Q2) hi hn) (fun _ _ _ hc => absurd hc (by decide +kernel)) ?_
  rintro u k3 ⟨q4, w2, rfl, p2⟩
  simp only [go_sem, simprocAttr]
  refine cl_spec (Words_ok (p1.quiet q4) p2) (fun _ _ _ hc => absurd hc (by decide +kernel)) ?_
  rintro u k4 ⟨rfl, rfl⟩
  simp only [go_sem, simprocAttr, decide_true]
  refine cl_spec (alive_ok _) (fun _ _ _ hc => absurd hc (by decide +kernel)) ?_
  rintro u k14 ⟨rfl, rfl⟩
  simp only [go_sem, simprocAttr]

end Go.Proofs.Ytohgnkjemfkeoaa
