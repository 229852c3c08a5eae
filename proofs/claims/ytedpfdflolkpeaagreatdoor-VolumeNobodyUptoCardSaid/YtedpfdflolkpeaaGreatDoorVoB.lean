/- volume: the plain model: maps that are turned. -/
import Derived.Test.YtedpfdflolkpeaaGreatDoorVoA
set_option linter.unusedSimpArgs false
set_option linter.unusedVariables false
set_option linter.unnecessarySimpa false
set_option maxRecDepth 100000
namespace Go.Proofs.YtedpfdflolkpeaaGreatDoor
open Go.AM
namespace Pl
theorem chain_append : ∀ {ps qs : List Piece} {a b n : Int}, chain a ps b → chain b qs n → chain a (ps ++ qs) n
  | [], qs, a, b, n, h1, h2 => by cases h1; exact h2
  | p :: ps, qs, a, b, n, ⟨e1, e2, e3, e4⟩, h2 => ⟨e1, e2, e3, chain_append e4 h2⟩
theorem chain_split : ∀ {ps qs : List Piece} {a n : Int}, chain a (ps ++ qs) n → ∃ b, chain a ps b ∧ chain b qs n
  | [], qs, a, n, h => ⟨a, rfl, h⟩
  | p :: ps, qs, a, n, ⟨e1, e2, e3, e4⟩ => by
    obtain ⟨b, h1, h2⟩ := chain_split e4
    exact ⟨b, ⟨e1, e2, e3, h1⟩, h2⟩
theorem chain_uniq_end : ∀ {ps : List Piece} {a b c : Int}, chain a ps b → chain a ps c → b = c
  | [], a, b, c, h1, h2 => by cases h1; cases h2; rfl
  | p :: ps, a, b, c, ⟨_, _, _, h1⟩, ⟨_, _, _, h2⟩ => chain_uniq_end h1 h2
/-- A list around one of its pieces. -/
theorem around {ps : List Piece} {i : Nat} {p : Piece} (h : ps[i]? = some p) : ps = ps.take i ++ p :: ps.drop (i + 1) := by
  obtain ⟨hl, he⟩ := List.getElem?_eq_some_iff.1 h
  rw [← he, List.getElem_cons_drop, List.take_append_drop]
/-- Pieces in the place of one. -/
theorem chain_put {ps ins : List Piece} {i : Nat} {p : Piece} {n : Int} (h : chain 0 ps n) (hp : ps[i]? = some p) (hi : chain p.frm ins p.to) : chain 0 (ps.take i ++ ins ++ ps.drop (i + 1)) n := by
  rw [around hp] at h
  obtain ⟨b, h1, rfl, h3, h4, h5⟩ := chain_split h
  rw [List.append_assoc]
  exact chain_append h1 (chain_append hi h5)
/-- .. and in the place of two. -/
theorem chain_put2 {ps ins : List Piece} {i : Nat} {p q : Piece} {n : Int} (h : chain 0 ps n) (hp : ps[i]? = some p) (hq : ps[i + 1]? = some q) (hi : chain p.frm ins q.to) : chain 0 (ps.take i ++ ins ++ ps.drop (i + 2)) n := by
  rw [around hp] at h
  obtain ⟨b, h1, rfl, h3, h4, h5⟩ := chain_split h
  have : ps.drop (i + 1) = q :: ps.drop (i + 2) := by
    obtain ⟨hl, he⟩ := List.getElem?_eq_some_iff.1 hq
    rw [← he, List.getElem_cons_drop]
  rw [this] at h5
  rw [List.append_assoc]
  exact chain_append h1 (chain_append hi h5.2.2.2)
/-- What lies at a block. -/
def nodeP (ps : List Piece) (j : Int) : Nat := ((ps[idxP j ps]?).elim 0 (·.node)).toNat
theorem nodeP_cons (p : Piece) (ps : List Piece) (j : Int) : nodeP (p :: ps) j = if j < p.to then p.node.toNat else nodeP ps j := by
  unfold nodeP
  rw [idxP_cons]
  split <;> rfl
/-- What lies ahead of a place is what it was. -/
theorem nodeP_app : ∀ {ps qs rs : List Piece} {a b j : Int}, chain a ps b → a ≤ j → (b ≤ j → nodeP qs j = nodeP rs j) → nodeP (ps ++ qs) j = nodeP (ps ++ rs) j
  | [], qs, rs, a, b, j, h, h0, hq => by cases h; exact hq h0
  | p :: ps, qs, rs, a, b, j, ⟨_, _, _, h⟩, h0, hq => by
    rw [List.cons_append, List.cons_append, nodeP_cons, nodeP_cons]
    split
    · rfl
    · exact nodeP_app h (by omega) hq
theorem nodeP_skip : ∀ {ps qs : List Piece} {a b j : Int}, chain a ps b → b ≤ j → nodeP (ps ++ qs) j = nodeP qs j
  | [], qs, a, b, j, h, h0 => rfl
  | p :: ps, qs, a, b, j, ⟨_, h1, _, h⟩, h0 => by
    have := chain_le h
    rw [List.cons_append, nodeP_cons, if_neg (by omega)]
    exact nodeP_skip h h0
theorem nodeP_put {ps ins : List Piece} {i : Nat} {p : Piece} {n j : Int} (h : chain 0 ps n) (hp : ps[i]? = some p) (h0 : 0 ≤ j) (hi : ∀ rs, p.frm ≤ j → nodeP (ins ++ rs) j = nodeP (p :: rs) j) : nodeP (ps.take i ++ ins ++ ps.drop (i + 1)) j = nodeP ps j := by
  have ha := around hp
  have hc := h
  rw [ha] at hc
  obtain ⟨b, h1, rfl, h3, h4, h5⟩ := chain_split hc
  rw [List.append_assoc]
  conv => rhs; rw [ha]
  exact nodeP_app h1 h0 fun hb => hi _ hb
theorem drop_two {ps : List Piece} {i : Nat} {p q : Piece} (hp : ps[i]? = some p) (hq : ps[i + 1]? = some q) : ps.drop (i + 1) = q :: ps.drop (i + 2) := by
  obtain ⟨hl, he⟩ := List.getElem?_eq_some_iff.1 hq
  rw [← he, List.getElem_cons_drop]
theorem nodeP_put2 {ps ins : List Piece} {i : Nat} {p q : Piece} {n j : Int} (h : chain 0 ps n) (hp : ps[i]? = some p) (hq : ps[i + 1]? = some q) (h0 : 0 ≤ j) (hi : ∀ rs, p.frm ≤ j → nodeP (ins ++ rs) j = nodeP (p :: q :: rs) j) : nodeP (ps.take i ++ ins ++ ps.drop (i + 2)) j = nodeP ps j := by
  have ha := around hp
  rw [drop_two hp hq] at ha
  have hc := h
  rw [ha] at hc
  obtain ⟨b, h1, rfl, h3, h4, h5⟩ := chain_split hc
  rw [List.append_assoc]
  conv => rhs; rw [ha]
  exact nodeP_app h1 h0 fun hb => hi _ hb

/-! The map's calls. -/
def SMap.zero : SMap := ⟨0, 0, []⟩
def SMap.next (m : SMap) (a b : Nat) (ins : List Piece) : SMap × Int := if m.ver = 1099511627776 then (.zero, 6) else (⟨m.ver + 1, m.n, m.ps.take a ++ ins ++ m.ps.drop b⟩, 0)
def pieceAt (m : SMap) (i : Nat) : Piece := m.ps.getD i ⟨0, 0, 0⟩
def SMap.split (m : SMap) (at_ : Int) : SMap × Int :=
  if (m.find at_).2 ≠ 0 ∨ at_ = 0 then (.zero, 1) else
  let i := (m.find at_).1.toNat
  let p := pieceAt m i
  if p.frm = at_ then (.zero, 10) else if m.ps.length = 16 then (.zero, 6) else m.next i (i + 1) [⟨p.frm, at_, p.node⟩, ⟨at_, p.to, p.node⟩]
def SMap.merge (m : SMap) (at_ : Int) : SMap × Int :=
  if (m.find at_).2 ≠ 0 then (.zero, (m.find at_).2) else
  let i := (m.find at_).1.toNat
  if i = 0 ∨ (pieceAt m i).frm ≠ at_ then (.zero, 9) else if (pieceAt m (i - 1)).node ≠ (pieceAt m i).node then (.zero, 1) else
  m.next (i - 1) (i + 1) [⟨(pieceAt m (i - 1)).frm, (pieceAt m i).to, (pieceAt m i).node⟩]
def SMap.move (m : SMap) (block node : Int) : SMap × Int :=
  if (m.find block).2 ≠ 0 then (.zero, (m.find block).2) else if ¬ (0 ≤ node ∧ node < 16) then (.zero, 1) else
  let i := (m.find block).1.toNat
  if (pieceAt m i).node = node then (.zero, 10) else m.next i (i + 1) [⟨(pieceAt m i).frm, (pieceAt m i).to, node⟩]
theorem SMap.find_of {m : SMap} {b : Int} (h : (m.find b).2 = 0) : m.right ∧ 0 ≤ b ∧ b < m.n ∧ (m.find b).1 = idxP b m.ps ∧ ∃ p, m.ps[idxP b m.ps]? = some p ∧ pieceAt m (m.find b).1.toNat = p ∧ p.frm ≤ b ∧ b < p.to ∧ p.to ≤ m.n ∧ 0 ≤ p.frm ∧ 0 ≤ p.node ∧ p.node < 16 := by
  unfold SMap.find at *
  by_cases hr : m.right
  · rw [if_pos hr] at h ⊢
    by_cases hb : 0 ≤ b ∧ b < m.n
    · rw [if_pos hb]
      obtain ⟨p, e1, e2, e3, _, e4, e5, e6, e7⟩ := chain_idx hr.2 hb.1 hb.2
      exact ⟨hr, hb.1, hb.2, rfl, p, e1, by unfold pieceAt; rw [Int.toNat_natCast, List.getD, e1]; rfl, e2, e3, e4, e5, e6, e7⟩
    · rw [if_neg hb] at h; cases h
  · rw [if_neg hr] at h; cases h
theorem SMap.next_ok {m : SMap} {a b : Nat} {ins : List Piece} (h : (m.next a b ins).2 = 0) : m.ver ≠ 1099511627776 ∧ (m.next a b ins).1 = ⟨m.ver + 1, m.n, m.ps.take a ++ ins ++ m.ps.drop b⟩ := by
  unfold SMap.next at *
  split at h
  · cases h
  · rename_i hv; rw [if_neg hv]; exact ⟨hv, rfl⟩
/-- A map that is turned, and shows the same. -/
def SMap.turned (m m' : SMap) : Prop := m'.right ∧ m'.ver = m.ver + 1 ∧ m'.n = m.n ∧ ∀ j : Int, 0 ≤ j → nodeP m'.ps j = nodeP m.ps j
theorem take_drop_len {ps ins : List Piece} {i : Nat} {p : Piece} (hp : ps[i]? = some p) : (ps.take i ++ ins ++ ps.drop (i + 1)).length + 1 = ps.length + ins.length := by
  have := (List.getElem?_eq_some_iff.1 hp).1
  simp; omega
theorem SMap.split_turned {m : SMap} {at_ : Int} (h : (m.split at_).2 = 0) : m.turned (m.split at_).1 := by
  unfold SMap.split at *
  by_cases h1 : (m.find at_).2 ≠ 0 ∨ at_ = 0
  · rw [if_pos h1] at h; cases h
  rw [if_neg h1] at h ⊢
  have hz : (m.find at_).2 = 0 := Decidable.byContradiction fun e => h1 (.inl e)
  obtain ⟨hr, hb0, hbn, ei, p, hp, hpa, e1, e2, e3, e4, e5, e6⟩ := SMap.find_of hz
  dsimp only at h ⊢
  rw [hpa, ei, Int.toNat_natCast] at h ⊢
  by_cases h2 : p.frm = at_
  · rw [if_pos h2] at h; cases h
  rw [if_neg h2] at h ⊢
  by_cases h3 : m.ps.length = 16
  · rw [if_pos h3] at h; cases h
  rw [if_neg h3] at h ⊢
  obtain ⟨hv, en⟩ := SMap.next_ok h
  rw [en]
  have hl := take_drop_len (ins := [⟨p.frm, at_, p.node⟩, ⟨at_, p.to, p.node⟩]) hp
  have hm := hr.1
  refine ⟨⟨⟨by dsimp only; omega, by dsimp only; omega, hm.2.2.1, hm.2.2.2.1, by dsimp only; simp only [List.length_cons, List.length_nil] at hl; omega⟩, chain_put hr.2 hp ⟨rfl, by dsimp only; omega, ⟨e5, e6⟩, rfl, e2, ⟨e5, e6⟩, rfl⟩⟩, rfl, rfl, fun j hj => ?_⟩
  refine nodeP_put hr.2 hp hj fun rs hf => ?_
  simp only [List.cons_append, List.nil_append, nodeP_cons]
  by_cases c1 : j < at_
  · rw [if_pos c1, if_pos (by omega)]
  · rw [if_neg c1]
theorem SMap.merge_turned {m : SMap} {at_ : Int} (h : (m.merge at_).2 = 0) : m.turned (m.merge at_).1 := by
  unfold SMap.merge at *
  by_cases h1 : (m.find at_).2 ≠ 0
  · rw [if_pos h1] at h; exact absurd h h1
  rw [if_neg h1] at h ⊢
  have hz : (m.find at_).2 = 0 := Decidable.byContradiction fun e => h1 e
  obtain ⟨hr, hb0, hbn, ei, p, hp, hpa, e1, e2, e3, e4, e5, e6⟩ := SMap.find_of hz
  dsimp only at h ⊢
  rw [hpa, ei, Int.toNat_natCast] at h ⊢
  by_cases h2 : idxP at_ m.ps = 0 ∨ p.frm ≠ at_
  · rw [if_pos h2] at h; cases h
  rw [if_neg h2] at h ⊢
  by_cases h3 : (pieceAt m (idxP at_ m.ps - 1)).node ≠ p.node
  · rw [if_pos h3] at h; cases h
  rw [if_neg h3] at h ⊢
  obtain ⟨hv, en⟩ := SMap.next_ok h
  rw [en]
  obtain ⟨i, hi⟩ : ∃ i, idxP at_ m.ps = i + 1 := ⟨idxP at_ m.ps - 1, by omega⟩
  rw [hi] at hp h3 ⊢
  rw [Nat.add_sub_cancel] at h3 ⊢
  have hil : i < m.ps.length := by have := (List.getElem?_eq_some_iff.1 hp).1; omega
  obtain ⟨q, hq⟩ : ∃ q, m.ps[i]? = some q := ⟨_, List.getElem?_eq_getElem hil⟩
  have hqa : pieceAt m i = q := by unfold pieceAt; rw [List.getD, hq]; rfl
  rw [hqa] at h3 ⊢
  have hm := hr.1
  have hc := hr.2
  rw [around hq, drop_two hq hp] at hc
  obtain ⟨b, h4, rfl, h5, h6, h7, h8, h9, h10⟩ := chain_split hc
  have hn : q.node = p.node := Decidable.byContradiction h3
  refine ⟨⟨⟨by dsimp only; omega, by dsimp only; omega, hm.2.2.1, hm.2.2.2.1, by dsimp only; simp; omega⟩, chain_put2 hr.2 hq hp ⟨rfl, by dsimp only; omega, ⟨e5, e6⟩, rfl⟩⟩, rfl, rfl, fun j hj => ?_⟩
  refine nodeP_put2 hr.2 hq hp hj fun rs hf => ?_
  simp only [List.cons_append, List.nil_append, nodeP_cons]
  rw [hn]
  by_cases c1 : j < q.to
  · rw [if_pos c1, if_pos (by omega)]
  · rw [if_neg c1]
/-- A piece that is moved. -/
theorem SMap.move_ok {m : SMap} {block node : Int} (h : (m.move block node).2 = 0) : ∃ p, m.right ∧ (0 ≤ block ∧ block < m.n) ∧ (m.find block).1 = idxP block m.ps ∧ m.ps[idxP block m.ps]? = some p ∧ (0 ≤ node ∧ node < 16) ∧ p.node ≠ node ∧ p.frm ≤ block ∧ block < p.to ∧ (m.move block node).1.right ∧ (m.move block node).1.ver = m.ver + 1 ∧ (m.move block node).1.n = m.n ∧
    ∀ j : Int, 0 ≤ j → nodeP (m.move block node).1.ps j = if p.frm ≤ j ∧ j < p.to then node.toNat else nodeP m.ps j := by
  unfold SMap.move at *
  by_cases h1 : (m.find block).2 ≠ 0
  · rw [if_pos h1] at h; exact absurd h h1
  rw [if_neg h1] at h ⊢
  have hz : (m.find block).2 = 0 := Decidable.byContradiction fun e => h1 e
  obtain ⟨hr, hb0, hbn, ei, p, hp, hpa, e1, e2, e3, e4, e5, e6⟩ := SMap.find_of hz
  by_cases h2 : ¬ (0 ≤ node ∧ node < 16)
  · rw [if_pos h2] at h; cases h
  rw [if_neg h2] at h ⊢
  dsimp only at h ⊢
  rw [hpa, ei, Int.toNat_natCast] at h ⊢
  by_cases h3 : p.node = node
  · rw [if_pos h3] at h; cases h
  rw [if_neg h3] at h ⊢
  obtain ⟨hv, en⟩ := SMap.next_ok h
  rw [en]
  have hl := take_drop_len (ins := [⟨p.frm, p.to, node⟩]) hp
  have hm := hr.1
  have h2' : 0 ≤ node ∧ node < 16 := Decidable.not_not.1 h2
  refine ⟨p, hr, ⟨hb0, hbn⟩, rfl, hp, h2', h3, e1, e2, ⟨⟨by dsimp only; omega, by dsimp only; omega, hm.2.2.1, hm.2.2.2.1, by dsimp only; simp only [List.length_cons, List.length_nil] at hl; omega⟩, chain_put hr.2 hp ⟨rfl, by dsimp only; omega, h2', rfl⟩⟩, rfl, rfl, fun j hj => ?_⟩
  dsimp only
  by_cases c : p.frm ≤ j ∧ j < p.to
  · rw [if_pos c, List.append_assoc]
    have ha := around hp
    have hc := hr.2
    rw [ha] at hc
    obtain ⟨b, h4, rfl, _⟩ := chain_split hc
    rw [nodeP_skip h4 c.1, List.cons_append, nodeP_cons, if_pos c.2]
  · rw [if_neg c]
    refine nodeP_put hr.2 hp hj fun rs hf => ?_
    rw [List.cons_append, List.nil_append, nodeP_cons, nodeP_cons, if_neg (by dsimp only; omega), if_neg (by omega)]
end Pl
end Go.Proofs.YtedpfdflolkpeaaGreatDoor
