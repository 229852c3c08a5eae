/- plan: what is read in parts and joined is what is read at once. -/
import Derived.Test.YtohgnkjemfkeoaaPlI
import Derived.Test.YtohgnkjemfkeoaaPlD
set_option linter.unusedSimpArgs false
set_option linter.unusedVariables false
set_option linter.unnecessarySimpa false
set_option maxRecDepth 100000
namespace Go.Proofs.Ytohgnkjemfkeoaa
open Go.AM

/-- What is read piece by piece is what is read at once. -/
theorem segs_read (xs : List Nat) {ps : List Piece} {c n : Int} (h : chain c ps n) (hc : 0 ≤ c) : ∀ (z : Nat) {a b : Int}, z = (b - a).toNat → c ≤ a → a ≤ b → b ≤ n →
    ((segs 0 ps a b).map fun s => (xs.drop s.2.2.1.toNat).take (s.2.2.2 - s.2.2.1).toNat).flatten = (xs.drop a.toNat).take (b - a).toNat := by
  intro z
  induction z using Nat.strongRecOn with
  | ind z ih =>
    intro a b hz h1 h2 h3
    by_cases hab : a < b
    · obtain ⟨p, hp, hs⟩ := segs_step 0 h h1 hab h3
      obtain ⟨q, k1, k2, k3, _⟩ := chain_idx h (b := a) h1 (by omega)
      rw [hp] at k1; cases k1
      rw [hs, List.map_cons, List.flatten_cons, ih _ (by omega) rfl (by omega) (by omega) h3]
      simp only
      rw [show (b - a).toNat = (min p.to b - a).toNat + (b - min p.to b).toNat by omega, List.take_add, List.drop_drop]
      congr 3
      omega
    · rw [segs_nil ps 0 (by omega), show (b - a).toNat = 0 by omega]; simp

theorem rdcut (off n f k : Int) : Op.cut ⟨0, off, n, []⟩ f k = ⟨0, f, k, []⟩ := by unfold Op.cut; rw [if_neg (by simp)]

theorem reads_law {h : AHeap} {m : SMap} {xs : List Nat} {v w : Value} {a0 a1 : Int} (hd : IsSl rPiece (· < h.next) h m.ps v) (hx : Words (· < h.next) h xs w) (hi : inI a0 ∧ inI a1) :
    Does Try.prog 8 #[mapV m v, w, .agg #[.int .i64 a0, .int .i64 a1]] h (fun u _ => u = .bool true) := by
  obtain ⟨a, c, rfl⟩ := hd.shape
  obtain ⟨a2, c2, rfl⟩ := hx.shape
  refine spec_go mixed Try.func8 rfl Try.results8 (n := Try.f8.ntmps) (by kernel_rfl) (by simp) ?_
  simp only [go_sem, simprocAttr]
  refine cl_gen fun h1 e1 => ?_
  have q1 : h.quiet h1 := by rw [e1]; simp only [go_sem, simprocAttr]
  have g1 : h1.get h.next = .cells [.int .i64 m.ver, .int .i64 m.n, .slice a m.ps.length c] .rw := by rw [e1]; simp only [go_sem, simprocAttr]
  have g3 : h1.get (h.next + 1) = .cells [.int .i64 a0, .int .i64 a1] .rw := by rw [e1]; simp only [go_sem, simprocAttr]
  clear e1
  have l1 : h.next < h1.next := AHeap.lt_of_alive h1 (by rw [g1]; simp)
  have l3 : h.next + 1 < h1.next := AHeap.lt_of_alive h1 (by rw [g3]; simp)
  have hd1 := hd.quiet q1
  have hx1 := hx.quiet q1
  refine cl_spec (theirs_ok hd1) (fun u h' hp _ => hp.2) ?_
  rintro u k1 ⟨rfl, Q1⟩
  simp only [go_sem, simprocAttr, (Q1.2 _ l3).trans g3]
  refine cl_spec (reads_ok (hd1.quiet Q1)) (fun _ _ _ hc => absurd hc (by decide +kernel)) ?_
  rintro u k2 ⟨q3, w1, rfl, p1⟩
  have Q2 := Q1.trans q3
  have skip : ∀ {ρ : Env} {k : List Fr} {Γ : Cx}, True := fun {_ _ _} => trivial
  by_cases he : m.err (rdOp a0 a1) = 0
  · have hr : m.right ∧ (rdOp a0 a1).right m.n := by
      unfold SMap.err at he
      by_cases h1 : m.right
      · rw [if_pos h1] at he
        by_cases h2 : (rdOp a0 a1).right m.n
        · exact ⟨h1, h2⟩
        · rw [if_neg h2] at he; omega
      · rw [if_neg h1] at he; omega
    obtain ⟨n0, n1, r0, r1, r2⟩ := Op.range_right hr.2
    rw [Op.range2 rfl] at r0 r1 r2
    simp only at r0 r1 r2
    have hmn := hr.1.1
    have gk1 := (Q2.2 _ l1).trans g1
    simp only [go_sem, simprocAttr, he, gk1]
    by_cases hl1 : (xs.length : Int) < m.n
    · simp only [go_sem, simprocAttr, hl1, decide_true]
      refine cl_spec (alive_ok _) (fun _ _ _ hc => absurd hc (by decide +kernel)) ?_
      rintro u k14 ⟨rfl, rfl⟩
      simp only [go_sem, simprocAttr]
    · simp only [go_sem, simprocAttr, hl1, decide_false]
      by_cases hl2 : (1024 : Int) < xs.length
      · simp only [go_sem, simprocAttr, hl2, decide_true]
        refine cl_spec (alive_ok _) (fun _ _ _ hc => absurd hc (by decide +kernel)) ?_
        rintro u k14 ⟨rfl, rfl⟩
        simp only [go_sem, simprocAttr]
      · have hs := p1.sl
        have hps : m.reads a0 a1 = mkParts (Op.cut ⟨0, a0, a1, []⟩) (segs 0 m.ps a0 (a0 + a1)) := by unfold SMap.reads; rw [if_pos hr]
        have hlen := reads_len m a0 a1
        have hfull := segs_read xs hr.1.2 (Int.le_refl 0) _ rfl (a := a0) (b := a0 + a1) r0 (by omega) r2
        rw [show a0 + a1 - a0 = a1 by omega] at hfull
        generalize hds : ((segs 0 m.ps a0 (a0 + a1)).map fun s => (xs.drop s.2.2.1.toNat).take (s.2.2.2 - s.2.2.1).toNat) = ds at hfull
        have hdl : lensP (m.reads a0 a1) = lensD ds := by
          rw [hps, ← hds]
          unfold lensP lensD mkParts
          rw [List.map_map, List.map_map]
          apply List.map_congr_left
          intro s hsm
          obtain ⟨p, _, h2, h3, h4, h5, h6⟩ := segs_mem hsm
          rw [Nat.sub_zero] at h2
          obtain ⟨u1, u2, u3, u4, u5⟩ := chain_uniq hr.1.2 h2 (f := s.2.2.1) (by omega) (by omega)
          simp only [Function.comp_apply, rdcut, List.length_take, List.length_drop]
          omega
        have hdn : ds.length = (m.reads a0 a1).length := by rw [hps, ← hds]; simp [mkParts]
        obtain ⟨a3, c3, rfl⟩ := hs.shape
        simp only [go_sem, simprocAttr, hl2, decide_false]
        refine go_loop (fun z ρ k => ∃ (i : Nat) (u : Value), i ≤ (m.reads a0 a1).length ∧ z = (m.reads a0 a1).length - i ∧ k2.quiet k ∧ Lst (Rep.list rW) k2.next (k2.next ≤ ·) k (ds.take i) u ∧
          ρ 1 = .slice a2 xs.length c2 ∧ ρ 3 = .pointer (some ⟨h.next, 0, none⟩) ∧ ρ 5 = .pointer (some ⟨h.next + 1, 0, none⟩) ∧ ρ 9 = u ∧ ρ 43 = .slice a3 (m.reads a0 a1).length c3 ∧ ρ 44 = .int .i64 (m.reads a0 a1).length ∧ ρ 45 = .int .i64 i) (m.reads a0 a1).length
          ⟨0, _, by omega, by omega, .refl _, .nil _ _ _ _, by simp only [go_sem, simprocAttr]⟩ ?_
        rintro z ρ k ⟨i, u, hi', rfl, qk, hlu, r1', r3, r5, r9, r43, r44, r45⟩
        simp only [go_sem, simprocAttr, r1', r3, r5, r9, r43, r44, r45]
        refine cnd_decide (fun hx' => ?_) (fun hx' => ?_)
        · have h1 : i < (m.reads a0 a1).length := by omega
          obtain ⟨b, off, sp, cc, md, q, dx, rfl, _, hg, hqi, hx1', hx2, hxo, hxd, hle, hdt, _⟩ := (hs.quiet qk).atPart h1
          have e9 : IntKind.i64.wrap ((i : Int) + 1) = ((i + 1 : Nat) : Int) := by rw [wi64] <;> omega
          obtain ⟨ax, cx, rfl⟩ := hxd.shape
          have hqi' := hqi
          rw [hps] at hqi'
          unfold mkParts at hqi'
          rw [List.getElem?_map, Option.map_eq_some_iff] at hqi'
          obtain ⟨s, hsi, hqe⟩ := hqi'
          obtain ⟨p, _, h2, h3, h4, h5, h6⟩ := segs_mem (List.mem_of_getElem? hsi)
          rw [Nat.sub_zero] at h2
          obtain ⟨u1, u2, u3, u4, u5⟩ := chain_uniq hr.1.2 h2 (f := s.2.2.1) (by omega) (by omega)
          rw [rdcut] at hqe
          have o1 : q.op.off = s.2.2.1 := by rw [← hqe]
          have o2 : q.op.len = s.2.2.2 - s.2.2.1 := by rw [← hqe]
          have hdi : ds[i]? = some ((xs.drop s.2.2.1.toNat).take (s.2.2.2 - s.2.2.1).toNat) := by rw [← hds, List.getElem?_map, hsi]; rfl
          simp only [go_sem, simprocAttr, r1', r3, r5, r9, r43, r44, r45, h1, hg, hle, hdt]
          refine cl_gen fun H eH => ?_
          have qH : k.quiet H := by rw [eH]; simp only [go_sem, simprocAttr]
          clear eH
          refine cl_spec (rRead_ok (hx1.quiet ((Q2.trans qk).trans qH))) (fun _ _ _ hc => absurd hc (by decide +kernel)) ?_
          rintro u k3 ⟨q6, y, rfl, hyw⟩
          have erd : readV xs q.op.off q.op.len = ((xs.drop s.2.2.1.toNat).take (s.2.2.2 - s.2.2.1).toNat, 0) := by
            unfold readV; rw [o1, o2, if_pos (by omega), if_pos (by omega)]
          rw [erd] at hyw ⊢
          have q7 := AHeap.quiet.push k3 (.cells [y] .rw)
          have Q7 := (qH.trans q6).trans q7
          obtain ⟨ay, cy, rfl⟩ := hyw.shape
          obtain ⟨u4, k4, e4, hl4, hf4, _⟩ := (hlu.quiet Q7).app1 (r := Rep.list rW) (cs := [.slice ay ((xs.drop s.2.2.1.toNat).take (s.2.2.2 - s.2.2.1).toNat).length cy]) (bytes := 24) 1 rfl ⟨_, rfl, (hyw.quiet q7).weaken fun j hj => ⟨by have := qk.1; have := qH.1; omega, fun e => by have := (hlu.blk_ge e).2; have := qH.1; omega⟩⟩ (by simp; omega) (by simp; omega) (by have := qk.1; have := Q7.1; omega)
          simp only [go_sem, simprocAttr, r1', r3, r5, r9, r43, r44, r45, e4, e9]
          refine Hold.mk ⟨(m.reads a0 a1).length - (i + 1), by omega, i + 1, u4, by omega, rfl, Fw.behind (qk.trans Q7) hf4 (fun j e => (hlu.blk_ge e).1), ?_, by simp only [go_sem, simprocAttr, r1', r3, r5, r43, r44]⟩
          rw [List.take_add_one, hdi]; exact hl4
        · have e1 : i = (m.reads a0 a1).length := by omega
          rw [List.take_of_length_le (by omega)] at hlu
          have Qk := Q2.trans qk
          simp only [go_sem, simprocAttr, r1', r3, r5, r9, (Qk.2 _ l1).trans g1]
          refine cl_spec (theirs_ok (hd1.quiet Qk)) (fun u h' hp _ => hp.2) ?_
          rintro u' k5 ⟨rfl, q8⟩
          have Q8 := Qk.trans q8
          simp only [go_sem, simprocAttr, r1', r3, r5, r9, (Q8.2 _ l3).trans g3]
          refine cl_spec (join_ok (S' := fun _ => True) (ds := ds) (hd1.quiet Q8) ((hlu.isSl (fun _ _ _ => trivial) (fun _ _ => trivial)).quiet q8) (by rw [hfull]; simp; omega)) (fun _ _ _ hc => absurd hc (by decide +kernel)) ?_
          rintro u' k6 ⟨q9, y, rfl, hyj⟩
          have Q9 := Q8.trans q9
          have ej : m.join a0 a1 ds = (ds.flatten, 0) := by unfold SMap.join; rw [if_neg (by simpa using he), if_pos hdl]
          rw [ej] at hyj ⊢
          simp only [go_sem, simprocAttr, r1', r3, r5, r9, (Q9.2 _ l3).trans g3]
          refine cl_spec (rRead_ok (hx1.quiet Q9)) (fun _ _ _ hc => absurd hc (by decide +kernel)) ?_
          rintro u' k7 ⟨q10, y2, rfl, hyr⟩
          have erd : readV xs a0 a1 = ((xs.drop a0.toNat).take a1.toNat, 0) := by
            unfold readV; rw [if_pos (by omega), if_pos (by omega)]
          rw [erd] at hyr ⊢
          simp only [go_sem, simprocAttr]
          refine cl_spec (Words_ok (S := fun _ => True) (hyj.quiet q10) (hyr.weaken fun _ _ => trivial)) (fun _ _ _ hc => absurd hc (by decide +kernel)) ?_
          rintro u' k8 ⟨rfl, rfl⟩
          simp only [go_sem, simprocAttr, decide_eq_true hfull]
          refine cl_spec (alive_ok _) (fun _ _ _ hc => absurd hc (by decide +kernel)) ?_
          rintro u k14 ⟨rfl, rfl⟩
          simp only [go_sem, simprocAttr]
  · simp only [go_sem, simprocAttr, he]
    refine cl_spec (alive_ok _) (fun _ _ _ hc => absurd hc (by decide +kernel)) ?_
    rintro u k14 ⟨rfl, rfl⟩
    simp only [go_sem, simprocAttr]

end Go.Proofs.Ytohgnkjemfkeoaa
