/- plan, the document's: what of a request lies in which piece. -/
import Derived.Test.YtohgnkjemfkeoaaPlB
set_option linter.unusedSimpArgs false
set_option linter.unusedVariables false
set_option linter.unnecessarySimpa false
set_option maxRecDepth 100000
namespace Go.Proofs.Ytohgnkjemfkeoaa
open Go.AM
section
variable {h : AHeap} {S : Nat → Prop} {v : Value}

theorem rcut_ok {o : Op} {d : Value} {f t : Int} (hok : o.ok) (hod : Words S h o.data d) (h0 : inI f) (h1 : 0 ≤ f) (h2 : f < t) (h3 : t ≤ 1024) (hk : o.kind = 1 → 0 ≤ o.off ∧ o.off ≤ f ∧ t ≤ o.off + o.data.length) :
    Does Try.prog 59 #[opV o d, .int .i64 f, .int .i64 t] h fun u h'' => h.quiet h'' ∧ ∃ d, u = opV (o.cut f (t - f)) d ∧ (o.cut f (t - f)).ok ∧ OwnSl .u64 (h.next ≤ ·) h'' (o.cut f (t - f)).data d := by
  obtain ⟨a, c, rfl⟩ := hod.shape
  have hl := hod.len
  have e0 : IntKind.i64.wrap (t - f) = t - f := by rw [wi64] <;> omega
  refine spec_go mixed Try.func59 rfl Try.results59 (n := Try.f59.ntmps) (by kernel_rfl) (by simp) ?_
  simp only [go_sem, simprocAttr]
  refine cnd_decide (fun hx => ?_) (fun hx => ?_)
  · obtain ⟨k0, k1, k2⟩ := hk hx
    have e1 : IntKind.i64.wrap (f - o.off) = f - o.off := by rw [wi64] <;> omega
    have e2 : IntKind.i64.wrap (t - o.off) = t - o.off := by rw [wi64] <;> omega
    have ec : o.cut f (t - f) = ⟨1, f, 0, (o.data.drop (f - o.off).toNat).take (t - f).toNat⟩ := by unfold Op.cut; rw [if_pos hx]
    rw [ec]
    refine go_gen fun H hH => ?_
    have qH : h.quiet H := by rw [hH]; simp only [go_sem, simprocAttr]
    have nH : H.next = h.next + 1 + 1 := by rw [hH]; simp
    have gH : H.get (h.next + 1) = .cells [.int .i64 0, .int .i64 0, .int .i64 0, .slice none 0 0] .rw := by rw [hH]; simp only [go_sem, simprocAttr]
    have gB : H.get h.next = .cells [.int .i64 o.kind, .int .i64 o.off, .int .i64 o.len, .slice a o.data.length c] .rw := by rw [hH]; simp only [go_sem, simprocAttr]
    clear hH
    obtain ⟨a', c', es, hs⟩ := (hod.quiet qH).sliceI 1 rfl (l := f - o.off) (m := t - o.off) (by omega) (by omega) (by omega)
    rw [show (t - o.off).toNat - (f - o.off).toNat = (t - f).toNat by omega] at es hs
    have hlen : ((o.data.drop (f - o.off).toNat).take (t - f).toNat).length = (t - f).toNat := hs.len.1.symm
    obtain ⟨u, k2, e3, hl2, hf2, _⟩ := (Lst.nil rW H.next (fun _ => False) H).app (ys := (o.data.drop (f - o.off).toNat).take (t - f).toNat) 1 rfl (bytes := 8) (n := (t - f).toNat) (nat_all2 (fun n hn => by have := hs.vals rfl n hn; exact this)) hlen (by simp; omega) (by simp; omega) (Nat.le_refl _)
    rw [nat_flat, List.nil_append] at *
    have q2 : H.quiet k2 := hf2.quiet (fun j _ e => by cases e)
    have hown := hl2.own (S := (H.next ≤ ·)) (fun j hj => hj)
    obtain ⟨ad, rfl⟩ := hown.shape
    have g2 : k2.get (h.next + 1) = _ := (q2.2 _ (by omega)).trans gH
    have lk2 : h.next + 1 < k2.next := by have := q2.1; omega
    simp only [go_sem, simprocAttr, gB, e1, e2, es, hs.acellsN, e3, g2, AHeap.get_set_self _ _ lk2]
    refine ⟨(qH.trans q2).set' (by omega) _, _, rfl, ⟨by unfold inI; simp only; omega, by unfold inI; simp only; omega, by unfold inI; simp only; omega⟩, hown.mono fun j hj _ => ⟨by omega, AHeap.get_set_ne _ _ (by omega)⟩⟩
  · have ec : o.cut f (t - f) = ⟨o.kind, f, t - f, []⟩ := by unfold Op.cut; rw [if_neg hx]
    rw [ec]
    simp only [go_sem, simprocAttr, e0]
    exact ⟨_, rfl, ⟨hok.1, h0, by unfold inI; simp only; omega⟩, OwnSl.nil _ _ _⟩

theorem segs_drop {ps : List Piece} {i : Nat} {p : Piece} {a b : Int} (hp : ps[i]? = some p) : segs i (ps.drop i) a b = if max p.frm a < min p.to b then (i, p.node, max p.frm a, min p.to b) :: segs (i + 1) (ps.drop (i + 1)) a b else segs (i + 1) (ps.drop (i + 1)) a b := by
  rw [drop_cons hp, segs]

theorem rparts_ok {m : SMap} {o : Op} {d : Value} {n : Int} (hd : IsSl rPiece S h m.ps v) (hok : o.ok) (hod : Words S h o.data d) (hr : m.right) (h0 : 0 ≤ o.off) (h1 : 1 ≤ n) (h2 : o.off + n ≤ m.n) (hk : o.kind = 1 → n = o.data.length) :
    Does Try.prog 44 #[mapV m v, opV o d, .int .i64 n] h (fun u h' => h.quiet h' ∧ Parts h h' (mkParts o.cut (segs 0 m.ps o.off (o.off + n))) u) := by
  obtain ⟨a, c, rfl⟩ := hd.shape
  obtain ⟨a2, c2, rfl⟩ := hod.shape
  have hmn := hr.1
  have hl := hd.len
  refine spec_go mixed Try.func44 rfl Try.results44 (n := Try.f44.ntmps) (by kernel_rfl) (by simp) ?_
  simp only [go_sem, simprocAttr]
  refine go_gen fun H hH => ?_
  have qH : h.quiet H := by rw [hH]; simp only [go_sem, simprocAttr]
  have nH : H.next = h.next + 1 + 1 := by rw [hH]; simp
  have gM : H.get h.next = .cells [.int .i64 m.ver, .int .i64 m.n, .slice a m.ps.length c] .rw := by rw [hH]; simp only [go_sem, simprocAttr]
  have gO : H.get (h.next + 1) = .cells [.int .i64 o.kind, .int .i64 o.off, .int .i64 o.len, .slice a2 o.data.length c2] .rw := by rw [hH]; simp only [go_sem, simprocAttr]
  clear hH
  have e1 : IntKind.i64.wrap (o.off + n) = o.off + n := by rw [wi64] <;> omega
  refine go_loop (fun z ρ k => ∃ (i : Nat) (l : List (Nat × Int × Int × Int)) (u : Value), i ≤ m.ps.length ∧ z = m.ps.length - i ∧ H.quiet k ∧ Lst rPartO H.next (H.next ≤ ·) k (mkParts o.cut l) u ∧ l ++ segs i (m.ps.drop i) o.off (o.off + n) = segs 0 m.ps o.off (o.off + n) ∧
    ρ 2 = .int .i64 n ∧ ρ 3 = .pointer (some ⟨h.next, 0, none⟩) ∧ ρ 4 = .pointer (some ⟨h.next + 1, 0, none⟩) ∧ ρ 7 = u ∧ ρ 8 = .int .i64 i) m.ps.length
    ⟨0, [], _, by omega, by omega, .refl _, .nil _ _ _ _, rfl, by simp only [go_sem, simprocAttr]⟩ ?_
  rintro z ρ k ⟨i, l, u, hi, rfl, qk, hl1, hseg, r2, r3, r4, r7, r8⟩
  have gMk : k.get h.next = _ := (qk.2 _ (by omega)).trans gM
  have gOk : k.get (h.next + 1) = _ := (qk.2 _ (by omega)).trans gO
  simp only [go_sem, simprocAttr, r2, r3, r4, r7, r8, gMk]
  refine cnd_decide (fun hx => ?_) (fun hx => ?_)
  · have hx' : i < m.ps.length := by omega
    have e9 : IntKind.i64.wrap ((i : Int) + 1) = ((i + 1 : Nat) : Int) := by rw [wi64] <;> omega
    obtain ⟨b0, ofs, sp, cc, md, p, rfl, _, hg, hpi, hp', hle, hdt, f0, f1, f2⟩ := (hd.quiet (qH.trans qk)).atPiece hx'
    have hll : l.length + (segs i (m.ps.drop i) o.off (o.off + n)).length ≤ 16 := by
      rw [← List.length_append, hseg]; have := segs_len m.ps 0 o.off (o.off + n); omega
    rw [segs_drop hpi] at hseg hll
    simp only [go_sem, simprocAttr, r2, r3, r4, r7, r8, gMk, gOk, hx', hg, f0, f1, e1]
    refine cnd_decide (fun hy => ?_) (fun hy => ?_)
    · rw [if_pos hy] at hseg hll
      simp only [go_sem, simprocAttr, r2, r3, r4, r7, r8, gMk, gOk, hx', hg, f2]
      have hin : max p.frm o.off + (min p.to (o.off + n) - max p.frm o.off) = min p.to (o.off + n) := by omega
      refine cl_spec (rcut_ok hok (hod.quiet (qH.trans qk)) (by unfold inI; omega) (by omega) hy (by omega) (fun e => by have := hk e; omega)) (fun u h' hp _ => hp.1) ?_
      rintro u3 k3 ⟨q3, d, rfl, hcok, hown⟩
      have q3' := qk.trans q3
      have hl3 := hl1.quiet q3
      obtain ⟨ad, rfl⟩ := hown.shape
      have hin2 : inI (i : Nat) := by unfold inI; omega
      generalize hG : o.cut (max p.frm o.off) (min p.to (o.off + n) - max p.frm o.off) = o' at *
      have q4 := AHeap.quiet.push k3 (.cells (.int .i64 (i : Nat) :: .int .i64 p.node :: opC o' (.slice ad o'.data.length o'.data.length)) .rw)
      obtain ⟨u4, k4, e4, hl4, hf4, _⟩ := (hl3.quiet q4).app1 (r := rPartO) (y := ⟨(i : Nat), p.node, o'⟩) (cs := .int .i64 (i : Nat) :: .int .i64 p.node :: opC o' (.slice ad o'.data.length o'.data.length)) (bytes := 64) 6 rfl
        (rPartO_iff.2 ⟨_, rfl, hin2, hp'.2.2, hcok, hown.mono fun j hj hjl => ⟨⟨by have := qk.1; omega, fun e => by have := (hl1.blk_ge e).2; omega⟩, q4.2 j hjl⟩⟩) (by simp [mkParts] at hll ⊢; omega) (by simp [mkParts] at hll ⊢; omega) (by have := q3'.1; simp; omega)
      simp only [opC] at e4
      simp only [go_sem, simprocAttr, r2, r3, r4, r7, r8, e4, e9]
      have q5 : H.quiet k4 := Fw.behind (q3'.trans q4) hf4 (fun j e => by have := ((hl3.quiet q4).blk_ge e).1; omega)
      refine Hold.mk ⟨m.ps.length - (i + 1), by omega, i + 1, l ++ [(i, p.node, max p.frm o.off, min p.to (o.off + n))], u4, by omega, rfl, q5, ?_, ?_, ?_⟩
      · rw [mkParts, List.map_append, List.map_cons, List.map_nil]; simp only; rw [hG]; exact hl4
      · simpa using hseg
      · simp only [go_sem, simprocAttr, r2, r3, r4]
    · rw [if_neg hy] at hseg
      simp only [go_sem, simprocAttr, r2, r3, r4, r7, r8, e9]
      exact Hold.mk ⟨m.ps.length - (i + 1), by omega, i + 1, l, u, by omega, rfl, qk, hl1, hseg, by simp only [go_sem, simprocAttr, r2, r3, r4, r7]⟩
  · have : i = m.ps.length := by omega
    subst this
    rw [List.drop_length, segs, List.append_nil] at hseg
    simp only [go_sem, simprocAttr, r7]
    rw [← hseg]
    exact ⟨qH.trans qk, hl1.mono qH.1 (Nat.le_refl _) (fun j hj _ _ => ⟨Nat.le_trans qH.1 hj, rfl⟩) (fun _ _ _ => rfl)⟩

theorem rops_ok {m : SMap} {o : Op} {d : Value} (hd : IsSl rPiece S h m.ps v) (hok : o.ok) (hod : Words S h o.data d) : Does Try.prog 20 #[mapV m v, opV o d] h
      (fun u h' => h.quiet h' ∧ ∃ w, u = .tuple #[w, .int .i64 (m.err o)] ∧ Parts h h' (m.ops o) w) := by
  obtain ⟨a, c, rfl⟩ := hd.shape
  obtain ⟨a2, c2, rfl⟩ := hod.shape
  refine spec_go mixed Try.func20 rfl Try.results20 (n := Try.f20.ntmps) (by kernel_rfl) (by simp) ?_
  simp only [go_sem, simprocAttr]
  refine cl_gen fun h1 e1 => ?_
  have q1 : h.quiet h1 := by rw [e1]; simp only [go_sem, simprocAttr]
  have g2 : h1.get h.next = .cells [.int .i64 m.ver, .int .i64 m.n, .slice a m.ps.length c] .rw := by rw [e1]; simp only [go_sem, simprocAttr]
  have g3 : h1.get (h.next + 1) = .cells [.int .i64 o.kind, .int .i64 o.off, .int .i64 o.len, .slice a2 o.data.length c2] .rw := by rw [e1]; simp only [go_sem, simprocAttr]
  have l2 : h.next < h1.next := by rw [e1]; simp; omega
  have l3 : h.next + 1 < h1.next := by rw [e1]; simp
  clear e1
  refine cl_spec (rsRight_ok (hd.quiet q1)) (fun _ _ _ hc => absurd hc (by decide +kernel)) ?_
  rintro u k ⟨rfl, q2⟩
  have q3 := q1.trans q2
  rw [← q2.2 _ l2] at g2
  rw [← q2.2 _ l3] at g3
  replace l2 : h.next < k.next := AHeap.lt_of_alive k (by rw [g2]; simp)
  replace l3 : h.next + 1 < k.next := AHeap.lt_of_alive k (by rw [g3]; simp)
  by_cases hr : m.right
  · simp only [go_sem, simprocAttr, hr, decide_true, g2, g3]
    refine cl_spec (rRight_ok (hod.quiet q3)) (fun _ _ _ hc => absurd hc (by decide +kernel)) ?_
    rintro u k1 ⟨rfl, q4⟩
    have q5 := q3.trans q4
    rw [← q4.2 _ l2] at g2
    rw [← q4.2 _ l3] at g3
    replace l2 : h.next < k1.next := AHeap.lt_of_alive k1 (by rw [g2]; simp)
    replace l3 : h.next + 1 < k1.next := AHeap.lt_of_alive k1 (by rw [g3]; simp)
    by_cases ho : o.right m.n
    · have ee : m.err o = 0 := by unfold SMap.err; rw [if_pos hr, if_pos ho]
      rw [ee]
      simp only [go_sem, simprocAttr, ho, decide_true, g2, g3]
      refine cl_spec (rRange_ok (hod.quiet q5)) (fun _ _ _ hc => absurd hc (by decide +kernel)) ?_
      rintro u k2 ⟨rfl, q6⟩
      have q7 := q5.trans q6
      rw [← q6.2 _ l2] at g2
      rw [← q6.2 _ l3] at g3
      obtain ⟨n0, n1, r0, r1, r2⟩ := Op.range_right ho
      have eo : o.range.1 = o.off := by rcases ho.2 with ⟨e, _⟩ | ⟨e, _⟩; rw [Op.range2 e]; rw [Op.range1 e]
      rw [eo] at r0 r2
      simp only [go_sem, simprocAttr, g2, g3]
      refine cl_spec (rparts_ok (hd.quiet q7) hok (hod.quiet q7) hr r0 r1 r2 (fun e => by rw [Op.range1 e])) (fun _ _ _ hc => absurd hc (by decide +kernel)) ?_
      rintro u k3 ⟨q8, hl⟩
      simp only [go_sem, simprocAttr]
      refine ⟨q7.trans q8, u, rfl, ?_⟩
      unfold SMap.ops
      rw [if_pos ⟨hr, ho⟩, SMap.parts, eo]
      exact hl.mono q7.1 (Nat.le_refl _) (fun j hj _ _ => ⟨Nat.le_trans q7.1 hj, rfl⟩) (fun _ _ _ => rfl)
    · have ee : m.err o = 9 := by unfold SMap.err; rw [if_pos hr, if_neg ho]
      simp only [go_sem, simprocAttr, ho, decide_false, ee]
      refine ⟨q5, _, rfl, ?_⟩
      unfold SMap.ops
      rw [if_neg (fun e => ho e.2)]
      exact Lst.nil _ _ _ _
  · have ee : m.err o = 1 := by unfold SMap.err; rw [if_neg hr]
    simp only [go_sem, simprocAttr, hr, decide_false, ee]
    refine ⟨q3, _, rfl, ?_⟩
    unfold SMap.ops
    rw [if_neg (fun e => hr e.1)]
    exact Lst.nil _ _ _ _

theorem rreads_ok {m : SMap} {off n : Int} (hd : IsSl rPiece S h m.ps v) (hi : inI off ∧ inI n) : Does Try.prog 22 #[mapV m v, .int .i64 off, .int .i64 n] h
      (fun u h' => h.quiet h' ∧ ∃ w, u = .tuple #[w, .int .i64 (m.err (rdOp off n))] ∧ Parts h h' (m.reads off n) w) := by
  obtain ⟨a, c, rfl⟩ := hd.shape
  refine spec_go mixed Try.func22 rfl Try.results22 (n := Try.f22.ntmps) (by kernel_rfl) (by simp) ?_
  simp only [go_sem, simprocAttr]
  refine cl_gen fun h1 e1 => ?_
  obtain ⟨g2, l2, q1⟩ := AHeap.quiet.box (h := h) (k := h1) (by rw [e1]; exact .refl _)
  clear e1
  refine cl_spec (rsRight_ok (hd.quiet q1)) (fun _ _ _ hc => absurd hc (by decide +kernel)) ?_
  rintro u k ⟨rfl, q2⟩
  have q3 := q1.trans q2
  rw [← q2.2 _ l2] at g2
  replace l2 : h.next < k.next := AHeap.lt_of_alive k (by rw [g2]; simp)
  by_cases hr : m.right
  · simp only [go_sem, simprocAttr, hr, decide_true, g2]
    refine cl_spec (rRight_ok (o := rdOp off n) (d := .slice none 0 0) (S := S) (.nil _ _ _)) (fun _ _ _ hc => absurd hc (by decide +kernel)) ?_
    rintro u k1 ⟨rfl, q4⟩
    have q5 := q3.trans q4
    rw [← q4.2 _ l2] at g2
    by_cases ho : (rdOp off n).right m.n
    · have ee : m.err (rdOp off n) = 0 := by unfold SMap.err; rw [if_pos hr, if_pos ho]
      obtain ⟨n0, n1, r0, r1, r2⟩ := Op.range_right ho
      rw [Op.range2 rfl] at r0 r1 r2
      simp only at r0 r1 r2
      simp only [go_sem, simprocAttr, ho, decide_true, g2, ee]
      refine cl_spec (rparts_ok (o := ⟨0, off, n, []⟩) (d := .slice none 0 0) (S := S) (hd.quiet q5) ⟨by unfold inI; simp, hi.1, hi.2⟩ (.nil _ _ _) hr r0 r1 r2 (fun e => by cases e)) (fun _ _ _ hc => absurd hc (by decide +kernel)) ?_
      rintro u k3 ⟨q8, hl⟩
      simp only [go_sem, simprocAttr]
      refine ⟨q5.trans q8, u, rfl, ?_⟩
      unfold SMap.reads
      rw [if_pos ⟨hr, ho⟩]
      exact hl.mono q5.1 (Nat.le_refl _) (fun j hj _ _ => ⟨Nat.le_trans q5.1 hj, rfl⟩) (fun _ _ _ => rfl)
    · have ee : m.err (rdOp off n) = 9 := by unfold SMap.err; rw [if_pos hr, if_neg ho]
      simp only [go_sem, simprocAttr, ho, decide_false, ee]
      refine ⟨q5, _, rfl, ?_⟩
      unfold SMap.reads
      rw [if_neg (fun e => ho e.2)]
      exact Lst.nil _ _ _ _
  · have ee : m.err (rdOp off n) = 1 := by unfold SMap.err; rw [if_neg hr]
    simp only [go_sem, simprocAttr, hr, decide_false, ee]
    refine ⟨q3, _, rfl, ?_⟩
    unfold SMap.reads
    rw [if_neg (fun e => hr e.1)]
    exact Lst.nil _ _ _ _

end
end Go.Proofs.Ytohgnkjemfkeoaa
