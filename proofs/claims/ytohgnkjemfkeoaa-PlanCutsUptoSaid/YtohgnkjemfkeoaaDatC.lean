/- maps: which piece has a block. -/
import Derived.Test.YtohgnkjemfkeoaaDatB
set_option linter.unusedSimpArgs false
set_option linter.unusedVariables false
set_option linter.unnecessarySimpa false
set_option maxRecDepth 100000
namespace Go.Proofs.Ytohgnkjemfkeoaa
open Go.AM

def idxP (b : Int) (ps : List Piece) : Nat := ps.findIdx fun p => decide (b < p.to)
def idxR (b : Int) (ps : List Piece) : Nat := ps.findIdx fun p => decide (p.frm ≤ b ∧ b < p.to)
theorem idxP_cons (b : Int) (p : Piece) (ps : List Piece) : idxP b (p :: ps) = if b < p.to then 0 else idxP b ps + 1 := by
  unfold idxP; rw [List.findIdx_cons]; by_cases h : b < p.to <;> simp [h]
theorem idxR_cons (b : Int) (p : Piece) (ps : List Piece) : idxR b (p :: ps) = if p.frm ≤ b ∧ b < p.to then 0 else idxR b ps + 1 := by
  unfold idxR; rw [List.findIdx_cons]; by_cases h : p.frm ≤ b ∧ b < p.to <;> simp [h]

theorem chain_le : ∀ {ps : List Piece} {a n : Int}, chain a ps n → a ≤ n
  | [], a, n, h => by simp only [chain] at h; omega
  | p :: ps, a, n, h => by have := chain_le h.2.2.2; have := h.2.1; omega
theorem chain_idx : ∀ {ps : List Piece} {a n b : Int}, chain a ps n → a ≤ b → b < n → ∃ p, ps[idxP b ps]? = some p ∧ p.frm ≤ b ∧ b < p.to ∧ idxR b ps = idxP b ps ∧ p.to ≤ n ∧ a ≤ p.frm ∧ 0 ≤ p.node ∧ p.node < 16
  | [], a, n, b, h, h1, h2 => by simp only [chain] at h; omega
  | p :: ps, a, n, b, h, h1, h2 => by
    obtain ⟨h3, h4, h5, h6⟩ := h
    rw [idxP_cons, idxR_cons]
    by_cases hb : b < p.to
    · rw [if_pos hb, if_pos ⟨by omega, hb⟩]
      exact ⟨p, rfl, by omega, hb, rfl, chain_le h6, by omega, h5⟩
    · obtain ⟨q, k1, k2, k3, k4, k5, k6, k7⟩ := chain_idx h6 (b := b) (by omega) h2
      rw [if_neg hb, if_neg (fun e => hb e.2)]
      exact ⟨q, by simpa using k1, k2, k3, by rw [k4], k5, by omega, k7⟩
theorem chain_out : ∀ {ps : List Piece} {a n b : Int}, chain a ps n → b < a ∨ n ≤ b → idxR b ps = ps.length
  | [], a, n, b, h, h1 => rfl
  | p :: ps, a, n, b, h, h1 => by
    obtain ⟨h3, h4, h5, h6⟩ := h
    have := chain_le h6
    rw [idxR_cons, if_neg (by omega), chain_out h6 (by omega)]; rfl

/-- Which piece has a block; the error. -/
def SMap.find (m : SMap) (b : Int) : Int × Int := if m.right then (if 0 ≤ b ∧ b < m.n then (idxP b m.ps, 0) else (0, 9)) else (0, 1)

section
variable {h : AHeap} {S : Nat → Prop}

theorem index_ok {ps : List Piece} {v : Value} {b : Int} {bx : Nat} (hd : IsSl rPiece S h ps v) (hb : h.get bx = .cells [.int .i64 b] .rw) :
    Does Try.prog 68 #[v, .func (.func 69) #[] #[.pointer (some ⟨bx, 0, none⟩)]] h
      (fun u h' => u = .int .i64 (if idxP b ps < ps.length then (idxP b ps : Int) else -1) ∧ h.quiet h') := by
  obtain ⟨a, c, rfl⟩ := hd.shape
  have hl := hd.len
  have hlt : bx < h.next := AHeap.lt_of_alive h (by rw [hb]; simp)
  refine spec_go mixed Try.func68 rfl Try.results68 (n := Try.f68.ntmps) (by kernel_rfl) (by simp) ?_
  simp only [go_sem, simprocAttr]
  refine go_loop (fun z ρ k => ∃ i : Nat, i ≤ ps.length ∧ z = ps.length - i ∧ h.quiet k ∧ idxP b ps = i + idxP b (ps.drop i) ∧
    ρ 0 = .slice a ps.length c ∧ ρ 1 = .func (.func 69) #[] #[.pointer (some ⟨bx, 0, none⟩)] ∧ ρ 7 = .int .i64 ps.length ∧ ρ 8 = .int .i64 i) ps.length ⟨0, by omega, by omega, .refl _, by simp, by simp only [go_sem, simprocAttr]⟩ ?_
  rintro z ρ k ⟨i, hi, rfl, qk, he, r0, r1, r7, r8⟩
  simp only [go_sem, simprocAttr, r0, r1, r7, r8]
  refine cnd_decide (fun hx => ?_) (fun hx => ?_)
  · have hx' : i < ps.length := by omega
    obtain ⟨b0, off, sp, cc, md, p, rfl, _, hg, hpi, hp, hle, hdt, f0, f1, f2⟩ := (hd.quiet qk).atPiece hx'
    rw [drop_cons hpi, idxP_cons] at he
    have e9 : IntKind.i64.wrap ((i : Int) + 1) = ((i + 1 : Nat) : Int) := by rw [wi64] <;> omega
    simp only [go_sem, simprocAttr, r0, r1, r7, r8, hx', hg, hle, hdt]
    have step : Does Try.prog 69 #[.agg #[.int .i64 p.frm, .int .i64 p.to, .int .i64 p.node], .pointer (some ⟨bx, 0, none⟩)] k (fun u h' => u = .bool (decide (b < p.to)) ∧ k.quiet h') := by
      have hbk : k.get bx = .cells [.int .i64 b] .rw := by rw [qk.2 _ hlt]; exact hb
      have hlk : bx < k.next := AHeap.lt_of_alive k (by rw [hbk]; simp)
      refine spec_go mixed Try.func69 rfl Try.results69 (n := Try.f69.ntmps) (by kernel_rfl) (by simp) ?_
      simp only [go_sem, simprocAttr, AHeap.get_push_lt _ _ hlk, hbk]
    refine cl_spec step (fun _ _ _ hc => absurd hc (by decide +kernel)) ?_
    rintro u k1 ⟨rfl, q1⟩
    simp only [go_sem, simprocAttr, r0, r1, r7, r8]
    refine cnd_decide (fun hy => ?_) (fun hy => ?_)
    · simp only [go_sem, simprocAttr, r0, r1, r7, r8]
      rw [if_pos hy] at he
      rw [he, Nat.add_zero, if_pos hx']
      exact ⟨rfl, qk.trans q1⟩
    · simp only [go_sem, simprocAttr, r0, r1, r7, r8, e9]
      rw [if_neg hy] at he
      exact Hold.mk ⟨ps.length - (i + 1), by omega, i + 1, by omega, rfl, qk.trans q1, by omega, by simp only [go_sem, simprocAttr, r0, r1, r7]⟩
  · have : i = ps.length := by omega
    subst this
    rw [List.drop_length] at he
    simp only [go_sem, simprocAttr]
    rw [if_neg (by omega)]
    exact ⟨rfl, qk⟩

theorem find_ok {m : SMap} {v : Value} {b : Int} (hd : IsSl rPiece S h m.ps v) : Does Try.prog 57 #[mapV m v, .int .i64 b] h
      (fun u h' => u = .tuple #[.int .i64 (m.find b).1, .int .i64 (m.find b).2] ∧ h.quiet h') := by
  obtain ⟨a, c, rfl⟩ := hd.shape
  refine spec_go mixed Try.func57 rfl Try.results57 (n := Try.f57.ntmps) (by kernel_rfl) (by simp) ?_
  simp only [go_sem, simprocAttr]
  refine cl_gen fun h1 e1 => ?_
  have q1 : h.quiet h1 := by rw [e1]; simp only [go_sem, simprocAttr]
  have g2 : h1.get h.next = .cells [.int .i64 m.ver, .int .i64 m.n, .slice a m.ps.length c] .rw := by rw [e1]; simp only [go_sem, simprocAttr]
  have g3 : h1.get (h.next + 1) = .cells [.int .i64 b] .rw := by rw [e1]; simp only [go_sem, simprocAttr]
  have l2 : h.next < h1.next := by rw [e1]; simp; omega
  have l3 : h.next + 1 < h1.next := by rw [e1]; simp
  clear e1
  refine cl_spec (sRight_ok (hd.quiet q1)) (fun _ _ _ hc => absurd hc (by decide +kernel)) ?_
  rintro u k ⟨rfl, q2⟩
  have q3 := q1.trans q2
  rw [← q2.2 _ l2] at g2
  rw [← q2.2 _ l3] at g3
  by_cases hr : m.right
  · simp only [go_sem, simprocAttr, hr, decide_true]
    simp only [go_sem, simprocAttr, g2, g3]
    by_cases hb : 0 ≤ b ∧ b < m.n
    · have hb1 : ¬ b < 0 := by omega
      have hb2 : ¬ m.n ≤ b := by omega
      have ef : m.find b = ((idxP b m.ps : Int), 0) := by unfold SMap.find; rw [if_pos hr, if_pos hb]
      obtain ⟨p, hp, _⟩ := chain_idx hr.2 (b := b) hb.1 hb.2
      have hlt := (List.getElem?_eq_some_iff.1 hp).1
      simp only [go_sem, simprocAttr, g2, g3, hb1, hb2, decide_false]
      refine cl_spec (index_ok (hd.quiet q3) g3) (fun _ _ _ hc => absurd hc (by decide +kernel)) ?_
      rintro u k1 ⟨rfl, q4⟩
      rw [if_pos hlt, ef]
      simp only [go_sem, simprocAttr]
      exact q3.trans q4
    · have ef : m.find b = (0, 9) := by unfold SMap.find; rw [if_pos hr, if_neg hb]
      rw [ef]
      repeat' (first | (refine gd_split (fun hb => ?_) (fun hb => ?_) <;> simp only [go_sem, simprocAttr, dec_t, dec_f, Bool.not_eq_true', Bool.not_eq_false', Bool.and_eq_true] at hb <;> simp only [go_sem, simprocAttr, g2, g3, hb]) | (refine cnd_split (fun hb => ?_) (fun hb => ?_) <;> simp only [go_sem, simprocAttr, dec_t, dec_f, Bool.not_eq_true', Bool.not_eq_false', Bool.and_eq_true] at hb <;> simp only [go_sem, simprocAttr, g2, g3, hb]))
      all_goals first | exact q3 | exact ⟨rfl, q3⟩ | (exfalso; omega)
  · have ef : m.find b = (0, 1) := by unfold SMap.find; rw [if_neg hr]
    rw [ef]
    simp only [go_sem, simprocAttr, hr, decide_false]
    exact q3

theorem rfind_ok {m : SMap} {v : Value} {b : Int} (hd : IsSl rPiece S h m.ps v) : Does Try.prog 42 #[mapV m v, .int .i64 b] h
      (fun u h' => u = .tuple #[.int .i64 (m.find b).1, .int .i64 (m.find b).2] ∧ h.quiet h') := by
  obtain ⟨a, c, rfl⟩ := hd.shape
  have hl := hd.len
  refine spec_go mixed Try.func42 rfl Try.results42 (n := Try.f42.ntmps) (by kernel_rfl) (by simp) ?_
  simp only [go_sem, simprocAttr]
  refine cl_gen fun h1 e1 => ?_
  obtain ⟨g2, l2, q1⟩ := AHeap.quiet.box (h := h) (k := h1) (by rw [e1]; exact .refl _)
  clear e1
  refine cl_spec (rsRight_ok (hd.quiet q1)) (fun _ _ _ hc => absurd hc (by decide +kernel)) ?_
  rintro u k ⟨rfl, q2⟩
  have q3 := q1.trans q2
  rw [← q2.2 _ l2] at g2
  by_cases hr : m.right
  · simp only [go_sem, simprocAttr, hr, decide_true]
    have ef : m.find b = if idxR b m.ps < m.ps.length then ((idxR b m.ps : Int), 0) else (0, 9) := by
      unfold SMap.find
      rw [if_pos hr]
      by_cases hb : 0 ≤ b ∧ b < m.n
      · obtain ⟨p, hp, _, _, e, _⟩ := chain_idx hr.2 (b := b) hb.1 hb.2
        have hlt := (List.getElem?_eq_some_iff.1 hp).1
        rw [if_pos hb, e, if_pos hlt]
      · rw [if_neg hb, chain_out hr.2 (by omega), if_neg (by omega)]
    refine go_loop (fun z ρ k => ∃ i : Nat, i ≤ m.ps.length ∧ z = m.ps.length - i ∧ h.quiet k ∧ idxR b m.ps = i + idxR b (m.ps.drop i) ∧ k.get h.next = .cells [.int .i64 m.ver, .int .i64 m.n, .slice a m.ps.length c] .rw ∧
      ρ 1 = .int .i64 b ∧ ρ 2 = .pointer (some ⟨h.next, 0, none⟩) ∧ ρ 6 = .int .i64 i) m.ps.length ⟨0, by omega, by omega, q3, by simp, g2, by simp only [go_sem, simprocAttr]⟩ ?_
    rintro z ρ k ⟨i, hi, rfl, qk, he, gk, r1, r2, r6⟩
    simp only [go_sem, simprocAttr, r1, r2, r6, gk]
    refine cnd_decide (fun hx => ?_) (fun hx => ?_)
    · have hx' : i < m.ps.length := by omega
      obtain ⟨b0, off, sp, cc, md, p, rfl, _, hg, hpi, hp, hle, hdt, f0, f1, f2⟩ := (hd.quiet qk).atPiece hx'
      rw [drop_cons hpi, idxR_cons] at he
      have e9 : IntKind.i64.wrap ((i : Int) + 1) = ((i + 1 : Nat) : Int) := by rw [wi64] <;> omega
      simp only [go_sem, simprocAttr, r1, r2, r6, gk, hx', hg, f0]
      repeat' (first | (refine gd_split (fun hb => ?_) (fun hb => ?_) <;> simp only [go_sem, simprocAttr, dec_t, dec_f, Bool.not_eq_true', Bool.not_eq_false', Bool.and_eq_true] at hb <;> simp only [go_sem, simprocAttr, r1, r2, r6, gk, hx', hg, f0, f1, e9, hb]) | (refine cnd_split (fun hb => ?_) (fun hb => ?_) <;> simp only [go_sem, simprocAttr, dec_t, dec_f, Bool.not_eq_true', Bool.not_eq_false', Bool.and_eq_true] at hb <;> simp only [go_sem, simprocAttr, r1, r2, r6, gk, hx', hg, f0, f1, e9, hb]))
      · rw [if_pos (by omega), Nat.add_zero] at he
        rw [ef, he, if_pos hx']
        exact ⟨rfl, qk⟩
      · rw [if_neg (by omega)] at he
        exact Hold.mk ⟨m.ps.length - (i + 1), by omega, i + 1, by omega, rfl, qk, by omega, gk, by simp only [go_sem, simprocAttr, r1, r2]⟩
      · rw [if_neg (by omega)] at he
        exact Hold.mk ⟨m.ps.length - (i + 1), by omega, i + 1, by omega, rfl, qk, by omega, gk, by simp only [go_sem, simprocAttr, r1, r2]⟩
    · have : i = m.ps.length := by omega
      subst this
      rw [List.drop_length] at he
      simp only [go_sem, simprocAttr]
      rw [ef, if_neg (by omega)]
      exact ⟨rfl, qk⟩
  · have ef : m.find b = (0, 1) := by unfold SMap.find; rw [if_neg hr]
    rw [ef]
    simp only [go_sem, simprocAttr, hr, decide_false]
    exact q3

theorem rNode_ok {m : SMap} {v : Value} {b : Int} (hd : IsSl rPiece S h m.ps v) (hr : m.right) (h1 : 0 ≤ b) (h2 : b < m.n) : Does Try.prog 18 #[mapV m v, .int .i64 b] h
      (fun u h' => h.quiet h' ∧ ∃ p, m.ps[idxP b m.ps]? = some p ∧ u = .int .i64 p.node) := by
  obtain ⟨a, c, rfl⟩ := hd.shape
  refine spec_go mixed Try.func18 rfl Try.results18 (n := Try.f18.ntmps) (by kernel_rfl) (by simp) ?_
  simp only [go_sem, simprocAttr]
  refine cl_gen fun k e1 => ?_
  obtain ⟨g2, l2, q1⟩ := AHeap.quiet.box (h := h) (k := k) (by rw [e1]; exact .refl _)
  clear e1
  refine cl_spec (rfind_ok (hd.quiet q1)) (fun _ _ _ hc => absurd hc (by decide +kernel)) ?_
  rintro u k1 ⟨rfl, q2⟩
  rw [← q2.2 _ l2] at g2
  have ef : m.find b = ((idxP b m.ps : Int), 0) := by unfold SMap.find; rw [if_pos hr, if_pos ⟨h1, h2⟩]
  obtain ⟨p, hp, _⟩ := chain_idx hr.2 (b := b) h1 h2
  have hlt := (List.getElem?_eq_some_iff.1 hp).1
  obtain ⟨b0, off, sp, cc, md, p', rfl, _, hg, hpi, hp', hle, hdt, f0, f1, f2⟩ := (hd.quiet (q1.trans q2)).atPiece hlt
  rw [hp] at hpi; cases hpi
  rw [ef]
  simp only [go_sem, simprocAttr, g2, hlt, hg, f2]
  exact ⟨q1.trans q2, p, hp, rfl⟩
end
end Go.Proofs.Ytohgnkjemfkeoaa
