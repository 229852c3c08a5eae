/- data of the api and of maps, as plain Lean, and how they stand in cells. -/
import Derived.Test.YtohgnkjemfkeoaaAmNum
import Derived.Test.YtohgnkjemfkeoaaTypes
set_option linter.unusedSimpArgs false
set_option linter.unusedVariables false
set_option linter.unnecessarySimpa false
set_option maxRecDepth 100000
namespace Go.Proofs.Ytohgnkjemfkeoaa
open Go.AM
theorem mixed : Try.prog.follows .mixedOrders = true := by kernel_rfl

/-- A whole number of Go's int. -/
def inI (n : Int) : Prop := -9223372036854775808 ≤ n ∧ n ≤ 9223372036854775807
theorem inI_iff {n : Int} : inI n ↔ (IntKind.i64.min ≤ n ∧ n ≤ IntKind.i64.max) := by rw [i64_min, i64_max]; rfl

structure Piece where
  frm : Int
  to : Int
  node : Int
  deriving DecidableEq

structure Op where
  kind : Int
  off : Int
  len : Int
  data : List Nat
  deriving DecidableEq

structure Part where
  piece : Int
  node : Int
  op : Op
  deriving DecidableEq

def rPiece : Rep Piece := (Rep.pair rI (.pair rI rI)).via fun p => (p.frm, p.to, p.node)
def rOp : Rep Op := (Rep.pair rI (.pair rI (.pair rI (Rep.list rW)))).via fun o => (o.kind, o.off, o.len, o.data)
def rPart : Rep Part := (Rep.pair rI (.pair rI rOp)).via fun p => (p.piece, p.node, p.op)

def rOpO : Rep Op := (Rep.pair rI (.pair rI (.pair rI (Rep.own .u64)))).via fun o => (o.kind, o.off, o.len, o.data)
def rPartO : Rep Part := (Rep.pair rI (.pair rI rOpO)).via fun p => (p.piece, p.node, p.op)

def Piece.ok (p : Piece) : Prop := inI p.frm ∧ inI p.to ∧ inI p.node
def Op.ok (o : Op) : Prop := inI o.kind ∧ inI o.off ∧ inI o.len

/-- An op's value. -/
def opC (o : Op) (d : Value) : List Value := [.int .i64 o.kind, .int .i64 o.off, .int .i64 o.len, d]
theorem rOp_iff {S : Nat → Prop} {h : AHeap} {o : Op} {cs : List Value} : rOp.R S h o cs ↔ ∃ d, cs = opC o d ∧ o.ok ∧ Words S h o.data d := by
  constructor
  · rintro ⟨c1, c2, rfl, ⟨rfl, h1⟩, c3, c4, rfl, ⟨rfl, h2⟩, c5, c6, rfl, ⟨rfl, h3⟩, d, rfl, h4⟩
    exact ⟨d, rfl, ⟨inI_iff.2 h1, inI_iff.2 h2, inI_iff.2 h3⟩, h4⟩
  · rintro ⟨d, rfl, ⟨h1, h2, h3⟩, h4⟩
    exact ⟨[_], [_, _, _], rfl, ⟨rfl, inI_iff.1 h1⟩, [_], [_, _], rfl, ⟨rfl, inI_iff.1 h2⟩, [_], [_], rfl, ⟨rfl, inI_iff.1 h3⟩, d, rfl, h4⟩
theorem rPiece_iff {S : Nat → Prop} {h : AHeap} {p : Piece} {cs : List Value} : rPiece.R S h p cs ↔ cs = [.int .i64 p.frm, .int .i64 p.to, .int .i64 p.node] ∧ p.ok := by
  constructor
  · rintro ⟨c1, c2, rfl, ⟨rfl, h1⟩, c3, c4, rfl, ⟨rfl, h2⟩, ⟨rfl, h3⟩⟩
    exact ⟨rfl, inI_iff.2 h1, inI_iff.2 h2, inI_iff.2 h3⟩
  · rintro ⟨rfl, h1, h2, h3⟩
    exact ⟨[_], [_, _], rfl, ⟨rfl, inI_iff.1 h1⟩, [_], [_], rfl, ⟨rfl, inI_iff.1 h2⟩, ⟨rfl, inI_iff.1 h3⟩⟩
theorem rPart_iff {S : Nat → Prop} {h : AHeap} {p : Part} {cs : List Value} : rPart.R S h p cs ↔ ∃ d, cs = .int .i64 p.piece :: .int .i64 p.node :: opC p.op d ∧ inI p.piece ∧ inI p.node ∧ p.op.ok ∧ Words S h p.op.data d := by
  constructor
  · rintro ⟨c1, c2, rfl, ⟨rfl, h1⟩, c3, c4, rfl, ⟨rfl, h2⟩, ho⟩
    obtain ⟨d, rfl, h3, h4⟩ := rOp_iff.1 ho
    exact ⟨d, rfl, inI_iff.2 h1, inI_iff.2 h2, h3, h4⟩
  · rintro ⟨d, rfl, h1, h2, h3, h4⟩
    exact ⟨[_], _, rfl, ⟨rfl, inI_iff.1 h1⟩, [_], _, rfl, ⟨rfl, inI_iff.1 h2⟩, rOp_iff.2 ⟨d, rfl, h3, h4⟩⟩
attribute [go_sem] opC
theorem rOpO_iff {S : Nat → Prop} {h : AHeap} {o : Op} {cs : List Value} : rOpO.R S h o cs ↔ ∃ d, cs = opC o d ∧ o.ok ∧ OwnSl .u64 S h o.data d := by
  constructor
  · rintro ⟨c1, c2, rfl, ⟨rfl, h1⟩, c3, c4, rfl, ⟨rfl, h2⟩, c5, c6, rfl, ⟨rfl, h3⟩, d, rfl, h4⟩
    exact ⟨d, rfl, ⟨inI_iff.2 h1, inI_iff.2 h2, inI_iff.2 h3⟩, h4⟩
  · rintro ⟨d, rfl, ⟨h1, h2, h3⟩, h4⟩
    exact ⟨[_], [_, _, _], rfl, ⟨rfl, inI_iff.1 h1⟩, [_], [_, _], rfl, ⟨rfl, inI_iff.1 h2⟩, [_], [_], rfl, ⟨rfl, inI_iff.1 h3⟩, d, rfl, h4⟩
theorem rPartO_iff {S : Nat → Prop} {h : AHeap} {p : Part} {cs : List Value} : rPartO.R S h p cs ↔ ∃ d, cs = .int .i64 p.piece :: .int .i64 p.node :: opC p.op d ∧ inI p.piece ∧ inI p.node ∧ p.op.ok ∧ OwnSl .u64 S h p.op.data d := by
  constructor
  · rintro ⟨c1, c2, rfl, ⟨rfl, h1⟩, c3, c4, rfl, ⟨rfl, h2⟩, ho⟩
    obtain ⟨d, rfl, h3, h4⟩ := rOpO_iff.1 ho
    exact ⟨d, rfl, inI_iff.2 h1, inI_iff.2 h2, h3, h4⟩
  · rintro ⟨d, rfl, h1, h2, h3, h4⟩
    exact ⟨[_], _, rfl, ⟨rfl, inI_iff.1 h1⟩, [_], _, rfl, ⟨rfl, inI_iff.1 h2⟩, rOpO_iff.2 ⟨d, rfl, h3, h4⟩⟩
theorem rOpO_imp : rOpO.imp rOp := ⟨rfl, fun e => by obtain ⟨d, rfl, h1, h2⟩ := rOpO_iff.1 e; exact rOp_iff.2 ⟨d, rfl, h1, h2.isSl⟩⟩
theorem rPartO_imp : rPartO.imp rPart := ⟨rfl, fun e => by obtain ⟨d, rfl, h1, h2, h3, h4⟩ := rPartO_iff.1 e; exact rPart_iff.2 ⟨d, rfl, h1, h2, h3, h4.isSl⟩⟩

theorem seg_at {c cs : List Value} {o sz : Nat} (h : (c.drop o).take sz = cs) (hl : cs.length = sz) : ∀ k, k < sz → c[o + k]? = cs[k]? := fun k hk => seg_get h hk

theorem _root_.Go.AM.IsSl.atPiece {S : Nat → Prop} {h : AHeap} {xs : List Piece} {a : Option Addr} {n cap : Nat} (hs : IsSl rPiece S h xs (.slice a n cap)) {i : Nat} (hi : i < n) :
    ∃ b off sp c md p, a = some ⟨b, off, sp⟩ ∧ S b ∧ h.get b = .cells c md ∧ xs[i]? = some p ∧ p.ok ∧ off + i * 3 + 3 ≤ c.length ∧ (c.drop (off + i * 3)).take 3 = [.int .i64 p.frm, .int .i64 p.to, .int .i64 p.node] ∧
      c[off + i * 3]? = some (.int .i64 p.frm) ∧ c[off + i * 3 + 1]? = some (.int .i64 p.to) ∧ c[off + i * 3 + 2]? = some (.int .i64 p.node) := by
  obtain ⟨b, off, sp, c, md, cs, p, h1, h2, h3, h4, h5, h6, h7⟩ := hs.at 3 rfl hi
  obtain ⟨rfl, h8⟩ := rPiece_iff.1 h5
  exact ⟨b, off, sp, c, md, p, h1, h2, h3, h4, h8, h6, h7, seg_get h7 (k := 0) (by omega), seg_get h7 (k := 1) (by omega), seg_get h7 (k := 2) (by omega)⟩
theorem _root_.Go.AM.IsSl.atOp {S : Nat → Prop} {h : AHeap} {xs : List Op} {a : Option Addr} {n cap : Nat} (hs : IsSl rOp S h xs (.slice a n cap)) {i : Nat} (hi : i < n) :
    ∃ b off sp c md o d, a = some ⟨b, off, sp⟩ ∧ S b ∧ h.get b = .cells c md ∧ xs[i]? = some o ∧ o.ok ∧ Words S h o.data d ∧ off + i * 4 + 4 ≤ c.length ∧ (c.drop (off + i * 4)).take 4 = opC o d ∧
      c[off + i * 4]? = some (.int .i64 o.kind) ∧ c[off + i * 4 + 1]? = some (.int .i64 o.off) ∧ c[off + i * 4 + 2]? = some (.int .i64 o.len) ∧ c[off + i * 4 + 3]? = some d := by
  obtain ⟨b, off, sp, c, md, cs, o, h1, h2, h3, h4, h5, h6, h7⟩ := hs.at 4 rfl hi
  obtain ⟨d, rfl, h8, h9⟩ := rOp_iff.1 h5
  exact ⟨b, off, sp, c, md, o, d, h1, h2, h3, h4, h8, h9, h6, h7, seg_get h7 (k := 0) (by omega), seg_get h7 (k := 1) (by omega), seg_get h7 (k := 2) (by omega), seg_get h7 (k := 3) (by omega)⟩
theorem _root_.Go.AM.IsSl.atPart {S : Nat → Prop} {h : AHeap} {xs : List Part} {a : Option Addr} {n cap : Nat} (hs : IsSl rPart S h xs (.slice a n cap)) {i : Nat} (hi : i < n) :
    ∃ b off sp c md p d, a = some ⟨b, off, sp⟩ ∧ S b ∧ h.get b = .cells c md ∧ xs[i]? = some p ∧ inI p.piece ∧ inI p.node ∧ p.op.ok ∧ Words S h p.op.data d ∧ off + i * 6 + 6 ≤ c.length ∧
      (c.drop (off + i * 6)).take 6 = [.int .i64 p.piece, .int .i64 p.node, .int .i64 p.op.kind, .int .i64 p.op.off, .int .i64 p.op.len, d] ∧ (c.drop (off + i * 6 + 2)).take 4 = opC p.op d ∧
      c[off + i * 6]? = some (.int .i64 p.piece) ∧ c[off + i * 6 + 1]? = some (.int .i64 p.node) ∧ c[off + i * 6 + 2]? = some (.int .i64 p.op.kind) ∧ c[off + i * 6 + 3]? = some (.int .i64 p.op.off) ∧ c[off + i * 6 + 4]? = some (.int .i64 p.op.len) ∧ c[off + i * 6 + 5]? = some d := by
  obtain ⟨b, off, sp, c, md, cs, p, h1, h2, h3, h4, h5, h6, h7⟩ := hs.at 6 rfl hi
  obtain ⟨d, rfl, h8, h9, h10, h11⟩ := rPart_iff.1 h5
  refine ⟨b, off, sp, c, md, p, d, h1, h2, h3, h4, h8, h9, h10, h11, h6, h7, ?_, seg_get h7 (k := 0) (by omega), seg_get h7 (k := 1) (by omega), seg_get h7 (k := 2) (by omega), seg_get h7 (k := 3) (by omega), seg_get h7 (k := 4) (by omega), seg_get h7 (k := 5) (by omega)⟩
  have := congrArg (List.drop 2) h7
  rw [List.drop_take, List.drop_drop] at this
  exact this

/-! Maps and requests, in plain words. -/

/-- The pieces go on from a place to the end. -/
def chain : Int → List Piece → Int → Prop
  | a, [], n => a = n
  | a, p :: ps, n => p.frm = a ∧ a < p.to ∧ (0 ≤ p.node ∧ p.node < 16) ∧ chain p.to ps n
instance chainDec : ∀ (a : Int) (ps : List Piece) (n : Int), Decidable (chain a ps n)
  | a, [], n => inferInstanceAs (Decidable (a = n))
  | a, p :: ps, n => @instDecidableAnd _ _ _ (@instDecidableAnd _ _ _ (@instDecidableAnd _ _ _ (chainDec p.to ps n)))

structure SMap where
  ver : Int
  n : Int
  ps : List Piece

def SMap.right (m : SMap) : Prop := (1 ≤ m.ver ∧ m.ver ≤ 1099511627776 ∧ 1 ≤ m.n ∧ m.n ≤ 1024 ∧ m.ps.length ≤ 16) ∧ chain 0 m.ps m.n
instance (m : SMap) : Decidable m.right := inferInstanceAs (Decidable (_ ∧ _))

/-- A map's value. -/
def mapV (m : SMap) (v : Value) : Value := .agg #[.int .i64 m.ver, .int .i64 m.n, v]
attribute [go_sem] mapV

def Op.range (o : Op) : Int × Int := if o.kind = 1 then (o.off, o.data.length) else if o.kind = 2 then (o.off, o.len) else (0, 0)
def lies (n off k : Int) : Prop := 0 ≤ off ∧ 0 ≤ k ∧ k ≤ n ∧ off ≤ n - k
instance (n off k : Int) : Decidable (lies n off k) := inferInstanceAs (Decidable (_ ∧ _))
def Op.right (n : Int) (o : Op) : Prop := (0 ≤ n ∧ n ≤ 1024) ∧ ((o.kind = 2 ∧ o.data.length = 0 ∧ 1 ≤ o.len ∧ lies n o.off o.len) ∨ (o.kind = 1 ∧ o.len = 0 ∧ 1 ≤ o.data.length ∧ o.data.length ≤ 64 ∧ lies n o.off o.data.length))
instance (n : Int) (o : Op) : Decidable (o.right n) := inferInstanceAs (Decidable (_ ∧ _))

theorem Op.range1 {o : Op} (k : o.kind = 1) : o.range = (o.off, (o.data.length : Int)) := by simp [Op.range, k]
theorem Op.range2 {o : Op} (k : o.kind = 2) : o.range = (o.off, o.len) := by simp [Op.range, k]
theorem Op.range0 {o : Op} (k1 : ¬ o.kind = 1) (k2 : ¬ o.kind = 2) : o.range = (0, 0) := by simp [Op.range, k1, k2]
theorem Op.range_right {n : Int} {o : Op} (hr : o.right n) : 0 ≤ n ∧ n ≤ 1024 ∧ 0 ≤ o.range.1 ∧ 1 ≤ o.range.2 ∧ o.range.1 + o.range.2 ≤ n := by
  obtain ⟨h1, ⟨k, h2, h3, h4⟩ | ⟨k, h2, h3, h4, h5⟩⟩ := hr
  · rw [Op.range2 k]; unfold lies at h4; omega
  · rw [Op.range1 k]; unfold lies at h5; simp only; omega

/-- A value's op. -/
def opV (o : Op) (d : Value) : Value := .agg #[.int .i64 o.kind, .int .i64 o.off, .int .i64 o.len, d]
attribute [go_sem] opV
theorem opV_eq (o : Op) (d : Value) : Value.agg (opC o d).toArray = opV o d := rfl

end Go.Proofs.Ytohgnkjemfkeoaa
