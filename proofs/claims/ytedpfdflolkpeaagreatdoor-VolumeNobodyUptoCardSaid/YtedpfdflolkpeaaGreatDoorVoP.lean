/- volume: maps and parts of requests (the plan seat's texts, in a namespace of their own). -/
import Derived.Test.YtedpfdflolkpeaaGreatDoorAmNum
import Derived.Test.YtedpfdflolkpeaaGreatDoorTypes
set_option linter.unusedSimpArgs false
set_option linter.unusedVariables false
set_option linter.unnecessarySimpa false
set_option maxRecDepth 100000
namespace Go.Proofs.YtedpfdflolkpeaaGreatDoor.Pl
open Go.AM
theorem mixed : Tryz.prog.follows .mixedOrders = true := by kernel_rfl

/-- A whole number of Go's int. -/
def inI (n : Int) : Prop := -9223372036854775808 ≤ n ∧ n ≤ 9223372036854775807
theorem inI_iff {n : Int} : inI n ↔ (IntKind.i64.min ≤ n ∧ n ≤ IntKind.i64.max) := by rw [i64_min, i64_max]; rfl

structure Piece where
  frm : Int
  to : Int
  node : Int
  deriving DecidableEq

structure Op where
  kind : Int
  off : Int
  len : Int
  data : List Nat
  deriving DecidableEq

structure Part where
  piece : Int
  node : Int
  op : Op
  deriving DecidableEq

def rPiece : Rep Piece := (Rep.pair rI (.pair rI rI)).via fun p => (p.frm, p.to, p.node)
def rOp : Rep Op := (Rep.pair rI (.pair rI (.pair rI (Rep.list rW)))).via fun o => (o.kind, o.off, o.len, o.data)
def rPart : Rep Part := (Rep.pair rI (.pair rI rOp)).via fun p => (p.piece, p.node, p.op)

def rOpO : Rep Op := (Rep.pair rI (.pair rI (.pair rI (Rep.own .u64)))).via fun o => (o.kind, o.off, o.len, o.data)
def rPartO : Rep Part := (Rep.pair rI (.pair rI rOpO)).via fun p => (p.piece, p.node, p.op)

def Piece.ok (p : Piece) : Prop := inI p.frm ∧ inI p.to ∧ inI p.node
def Op.ok (o : Op) : Prop := inI o.kind ∧ inI o.off ∧ inI o.len

/-- An op's value. -/
def opC (o : Op) (d : Value) : List Value := [.int .i64 o.kind, .int .i64 o.off, .int .i64 o.len, d]
theorem rOp_iff {S : Nat → Prop} {h : AHeap} {o : Op} {cs : List Value} : rOp.R S h o cs ↔ ∃ d, cs = opC o d ∧ o.ok ∧ Words S h o.data d := by
  constructor
  · rintro ⟨c1, c2, rfl, ⟨rfl, h1⟩, c3, c4, rfl, ⟨rfl, h2⟩, c5, c6, rfl, ⟨rfl, h3⟩, d, rfl, h4⟩
    exact ⟨d, rfl, ⟨inI_iff.2 h1, inI_iff.2 h2, inI_iff.2 h3⟩, h4⟩
  · rintro ⟨d, rfl, ⟨h1, h2, h3⟩, h4⟩
    exact ⟨[_], [_, _, _], rfl, ⟨rfl, inI_iff.1 h1⟩, [_], [_, _], rfl, ⟨rfl, inI_iff.1 h2⟩, [_], [_], rfl, ⟨rfl, inI_iff.1 h3⟩, d, rfl, h4⟩
theorem rPiece_iff {S : Nat → Prop} {h : AHeap} {p : Piece} {cs : List Value} : rPiece.R S h p cs ↔ cs = [.int .i64 p.frm, .int .i64 p.to, .int .i64 p.node] ∧ p.ok := by
  constructor
  · rintro ⟨c1, c2, rfl, ⟨rfl, h1⟩, c3, c4, rfl, ⟨rfl, h2⟩, ⟨rfl, h3⟩⟩
    exact ⟨rfl, inI_iff.2 h1, inI_iff.2 h2, inI_iff.2 h3⟩
  · rintro ⟨rfl, h1, h2, h3⟩
    exact ⟨[_], [_, _], rfl, ⟨rfl, inI_iff.1 h1⟩, [_], [_], rfl, ⟨rfl, inI_iff.1 h2⟩, ⟨rfl, inI_iff.1 h3⟩⟩
theorem rPart_iff {S : Nat → Prop} {h : AHeap} {p : Part} {cs : List Value} : rPart.R S h p cs ↔ ∃ d, cs = .int .i64 p.piece :: .int .i64 p.node :: opC p.op d ∧ inI p.piece ∧ inI p.node ∧ p.op.ok ∧ Words S h p.op.data d := by
  constructor
  · rintro ⟨c1, c2, rfl, ⟨rfl, h1⟩, c3, c4, rfl, ⟨rfl, h2⟩, ho⟩
    obtain ⟨d, rfl, h3, h4⟩ := rOp_iff.1 ho
    exact ⟨d, rfl, inI_iff.2 h1, inI_iff.2 h2, h3, h4⟩
  · rintro ⟨d, rfl, h1, h2, h3, h4⟩
    exact ⟨[_], _, rfl, ⟨rfl, inI_iff.1 h1⟩, [_], _, rfl, ⟨rfl, inI_iff.1 h2⟩, rOp_iff.2 ⟨d, rfl, h3, h4⟩⟩
attribute [go_sem] opC
theorem rOpO_iff {S : Nat → Prop} {h : AHeap} {o : Op} {cs : List Value} : rOpO.R S h o cs ↔ ∃ d, cs = opC o d ∧ o.ok ∧ OwnSl .u64 S h o.data d := by
  constructor
  · rintro ⟨c1, c2, rfl, ⟨rfl, h1⟩, c3, c4, rfl, ⟨rfl, h2⟩, c5, c6, rfl, ⟨rfl, h3⟩, d, rfl, h4⟩
    exact ⟨d, rfl, ⟨inI_iff.2 h1, inI_iff.2 h2, inI_iff.2 h3⟩, h4⟩
  · rintro ⟨d, rfl, ⟨h1, h2, h3⟩, h4⟩
    exact ⟨[_], [_, _, _], rfl, ⟨rfl, inI_iff.1 h1⟩, [_], [_, _], rfl, ⟨rfl, inI_iff.1 h2⟩, [_], [_], rfl, ⟨rfl, inI_iff.1 h3⟩, d, rfl, h4⟩
theorem rPartO_iff {S : Nat → Prop} {h : AHeap} {p : Part} {cs : List Value} : rPartO.R S h p cs ↔ ∃ d, cs = .int .i64 p.piece :: .int .i64 p.node :: opC p.op d ∧ inI p.piece ∧ inI p.node ∧ p.op.ok ∧ OwnSl .u64 S h p.op.data d := by
  constructor
  · rintro ⟨c1, c2, rfl, ⟨rfl, h1⟩, c3, c4, rfl, ⟨rfl, h2⟩, ho⟩
    obtain ⟨d, rfl, h3, h4⟩ := rOpO_iff.1 ho
    exact ⟨d, rfl, inI_iff.2 h1, inI_iff.2 h2, h3, h4⟩
  · rintro ⟨d, rfl, h1, h2, h3, h4⟩
    exact ⟨[_], _, rfl, ⟨rfl, inI_iff.1 h1⟩, [_], _, rfl, ⟨rfl, inI_iff.1 h2⟩, rOpO_iff.2 ⟨d, rfl, h3, h4⟩⟩
theorem rOpO_imp : rOpO.imp rOp := ⟨rfl, fun e => by obtain ⟨d, rfl, h1, h2⟩ := rOpO_iff.1 e; exact rOp_iff.2 ⟨d, rfl, h1, h2.isSl⟩⟩
theorem rPartO_imp : rPartO.imp rPart := ⟨rfl, fun e => by obtain ⟨d, rfl, h1, h2, h3, h4⟩ := rPartO_iff.1 e; exact rPart_iff.2 ⟨d, rfl, h1, h2, h3, h4.isSl⟩⟩

theorem seg_at {c cs : List Value} {o sz : Nat} (h : (c.drop o).take sz = cs) (hl : cs.length = sz) : ∀ k, k < sz → c[o + k]? = cs[k]? := fun k hk => seg_get h hk

theorem _root_.Go.AM.IsSl.atPiece {S : Nat → Prop} {h : AHeap} {xs : List Piece} {a : Option Addr} {n cap : Nat} (hs : IsSl rPiece S h xs (.slice a n cap)) {i : Nat} (hi : i < n) :
    ∃ b off sp c md p, a = some ⟨b, off, sp⟩ ∧ S b ∧ h.get b = .cells c md ∧ xs[i]? = some p ∧ p.ok ∧ off + i * 3 + 3 ≤ c.length ∧ (c.drop (off + i * 3)).take 3 = [.int .i64 p.frm, .int .i64 p.to, .int .i64 p.node] ∧
      c[off + i * 3]? = some (.int .i64 p.frm) ∧ c[off + i * 3 + 1]? = some (.int .i64 p.to) ∧ c[off + i * 3 + 2]? = some (.int .i64 p.node) := by
  obtain ⟨b, off, sp, c, md, cs, p, h1, h2, h3, h4, h5, h6, h7⟩ := hs.at 3 rfl hi
  obtain ⟨rfl, h8⟩ := rPiece_iff.1 h5
  exact ⟨b, off, sp, c, md, p, h1, h2, h3, h4, h8, h6, h7, seg_get h7 (k := 0) (by omega), seg_get h7 (k := 1) (by omega), seg_get h7 (k := 2) (by omega)⟩
theorem _root_.Go.AM.IsSl.atOp {S : Nat → Prop} {h : AHeap} {xs : List Op} {a : Option Addr} {n cap : Nat} (hs : IsSl rOp S h xs (.slice a n cap)) {i : Nat} (hi : i < n) :
    ∃ b off sp c md o d, a = some ⟨b, off, sp⟩ ∧ S b ∧ h.get b = .cells c md ∧ xs[i]? = some o ∧ o.ok ∧ Words S h o.data d ∧ off + i * 4 + 4 ≤ c.length ∧ (c.drop (off + i * 4)).take 4 = opC o d ∧
      c[off + i * 4]? = some (.int .i64 o.kind) ∧ c[off + i * 4 + 1]? = some (.int .i64 o.off) ∧ c[off + i * 4 + 2]? = some (.int .i64 o.len) ∧ c[off + i * 4 + 3]? = some d := by
  obtain ⟨b, off, sp, c, md, cs, o, h1, h2, h3, h4, h5, h6, h7⟩ := hs.at 4 rfl hi
  obtain ⟨d, rfl, h8, h9⟩ := rOp_iff.1 h5
  exact ⟨b, off, sp, c, md, o, d, h1, h2, h3, h4, h8, h9, h6, h7, seg_get h7 (k := 0) (by omega), seg_get h7 (k := 1) (by omega), seg_get h7 (k := 2) (by omega), seg_get h7 (k := 3) (by omega)⟩
theorem _root_.Go.AM.IsSl.atPart {S : Nat → Prop} {h : AHeap} {xs : List Part} {a : Option Addr} {n cap : Nat} (hs : IsSl rPart S h xs (.slice a n cap)) {i : Nat} (hi : i < n) :
    ∃ b off sp c md p d, a = some ⟨b, off, sp⟩ ∧ S b ∧ h.get b = .cells c md ∧ xs[i]? = some p ∧ inI p.piece ∧ inI p.node ∧ p.op.ok ∧ Words S h p.op.data d ∧ off + i * 6 + 6 ≤ c.length ∧
      (c.drop (off + i * 6)).take 6 = [.int .i64 p.piece, .int .i64 p.node, .int .i64 p.op.kind, .int .i64 p.op.off, .int .i64 p.op.len, d] ∧ (c.drop (off + i * 6 + 2)).take 4 = opC p.op d ∧
      c[off + i * 6]? = some (.int .i64 p.piece) ∧ c[off + i * 6 + 1]? = some (.int .i64 p.node) ∧ c[off + i * 6 + 2]? = some (.int .i64 p.op.kind) ∧ c[off + i * 6 + 3]? = some (.int .i64 p.op.off) ∧ c[off + i * 6 + 4]? = some (.int .i64 p.op.len) ∧ c[off + i * 6 + 5]? = some d := by
  obtain ⟨b, off, sp, c, md, cs, p, h1, h2, h3, h4, h5, h6, h7⟩ := hs.at 6 rfl hi
  obtain ⟨d, rfl, h8, h9, h10, h11⟩ := rPart_iff.1 h5
  refine ⟨b, off, sp, c, md, p, d, h1, h2, h3, h4, h8, h9, h10, h11, h6, h7, ?_, seg_get h7 (k := 0) (by omega), seg_get h7 (k := 1) (by omega), seg_get h7 (k := 2) (by omega), seg_get h7 (k := 3) (by omega), seg_get h7 (k := 4) (by omega), seg_get h7 (k := 5) (by omega)⟩
  have := congrArg (List.drop 2) h7
  rw [List.drop_take, List.drop_drop] at this
  exact this

/-! Maps and requests, in plain words. -/

/-- The pieces go on from a place to the end. -/
def chain : Int → List Piece → Int → Prop
  | a, [], n => a = n
  | a, p :: ps, n => p.frm = a ∧ a < p.to ∧ (0 ≤ p.node ∧ p.node < 16) ∧ chain p.to ps n
instance chainDec : ∀ (a : Int) (ps : List Piece) (n : Int), Decidable (chain a ps n)
  | a, [], n => inferInstanceAs (Decidable (a = n))
  | a, p :: ps, n => @instDecidableAnd _ _ _ (@instDecidableAnd _ _ _ (@instDecidableAnd _ _ _ (chainDec p.to ps n)))

structure SMap where
  ver : Int
  n : Int
  ps : List Piece

def SMap.right (m : SMap) : Prop := (1 ≤ m.ver ∧ m.ver ≤ 1099511627776 ∧ 1 ≤ m.n ∧ m.n ≤ 1024 ∧ m.ps.length ≤ 16) ∧ chain 0 m.ps m.n
instance (m : SMap) : Decidable m.right := inferInstanceAs (Decidable (_ ∧ _))

/-- A map's value. -/
def mapV (m : SMap) (v : Value) : Value := .agg #[.int .i64 m.ver, .int .i64 m.n, v]
attribute [go_sem] mapV

def Op.range (o : Op) : Int × Int := if o.kind = 1 then (o.off, o.data.length) else if o.kind = 2 then (o.off, o.len) else (0, 0)
def lies (n off k : Int) : Prop := 0 ≤ off ∧ 0 ≤ k ∧ k ≤ n ∧ off ≤ n - k
instance (n off k : Int) : Decidable (lies n off k) := inferInstanceAs (Decidable (_ ∧ _))
def Op.right (n : Int) (o : Op) : Prop := (0 ≤ n ∧ n ≤ 1024) ∧ ((o.kind = 2 ∧ o.data.length = 0 ∧ 1 ≤ o.len ∧ lies n o.off o.len) ∨ (o.kind = 1 ∧ o.len = 0 ∧ 1 ≤ o.data.length ∧ o.data.length ≤ 64 ∧ lies n o.off o.data.length))
instance (n : Int) (o : Op) : Decidable (o.right n) := inferInstanceAs (Decidable (_ ∧ _))

theorem Op.range1 {o : Op} (k : o.kind = 1) : o.range = (o.off, (o.data.length : Int)) := by simp [Op.range, k]
theorem Op.range2 {o : Op} (k : o.kind = 2) : o.range = (o.off, o.len) := by simp [Op.range, k]
theorem Op.range0 {o : Op} (k1 : ¬ o.kind = 1) (k2 : ¬ o.kind = 2) : o.range = (0, 0) := by simp [Op.range, k1, k2]
theorem Op.range_right {n : Int} {o : Op} (hr : o.right n) : 0 ≤ n ∧ n ≤ 1024 ∧ 0 ≤ o.range.1 ∧ 1 ≤ o.range.2 ∧ o.range.1 + o.range.2 ≤ n := by
  obtain ⟨h1, ⟨k, h2, h3, h4⟩ | ⟨k, h2, h3, h4, h5⟩⟩ := hr
  · rw [Op.range2 k]; unfold lies at h4; omega
  · rw [Op.range1 k]; unfold lies at h5; simp only; omega

/-- A value's op. -/
def opV (o : Op) (d : Value) : Value := .agg #[.int .i64 o.kind, .int .i64 o.off, .int .i64 o.len, d]
attribute [go_sem] opV
theorem opV_eq (o : Op) (d : Value) : Value.agg (opC o d).toArray = opV o d := rfl

section
variable {h : AHeap} {S : Nat → Prop}

theorem isNode_ok {n : Int} : Does Tryz.prog 85 #[.int .i64 n] h (fun u h' => u = .bool (decide (0 ≤ n ∧ n < 16)) ∧ h' = h) := by
  refine spec_go mixed Tryz.func85 rfl Tryz.results85 (n := Tryz.f85.ntmps) (by kernel_rfl) (by simp) ?_
  simp only [go_sem, simprocAttr]
  repeat' (first | (refine gd_split (fun hb => ?_) (fun hb => ?_) <;> simp only [go_sem, simprocAttr, dec_t, dec_f, Bool.not_eq_true', Bool.not_eq_false', Bool.and_eq_true] at hb <;> simp only [go_sem, simprocAttr, hb]) | (refine cnd_split (fun hb => ?_) (fun hb => ?_) <;> simp only [go_sem, simprocAttr, dec_t, dec_f, Bool.not_eq_true', Bool.not_eq_false', Bool.and_eq_true] at hb <;> simp only [go_sem, simprocAttr, hb]))
  all_goals try (first | rfl | (refine bool_ext ?_; try simp (disch := omega) only [wi64, dec_t, Bool.and_eq_true, Bool.or_eq_true, Bool.not_eq_true', dec_f, reduceCtorEq, true_iff, iff_true, false_iff, iff_false, not_true_eq_false, not_false_eq_true, Bool.true_and, Bool.and_true, Bool.false_eq_true, false_and, and_false, true_and, and_true]; try omega))
theorem rnode_ok {n : Int} : Does Tryz.prog 113 #[.int .i64 n] h (fun u h' => u = .bool (decide (0 ≤ n ∧ n < 16)) ∧ h' = h) := by
  refine spec_go mixed Tryz.func113 rfl Tryz.results113 (n := Tryz.f113.ntmps) (by kernel_rfl) (by simp) ?_
  simp only [go_sem, simprocAttr]
  repeat' (first | (refine gd_split (fun hb => ?_) (fun hb => ?_) <;> simp only [go_sem, simprocAttr, dec_t, dec_f, Bool.not_eq_true', Bool.not_eq_false', Bool.and_eq_true] at hb <;> simp only [go_sem, simprocAttr, hb]) | (refine cnd_split (fun hb => ?_) (fun hb => ?_) <;> simp only [go_sem, simprocAttr, dec_t, dec_f, Bool.not_eq_true', Bool.not_eq_false', Bool.and_eq_true] at hb <;> simp only [go_sem, simprocAttr, hb]))
  all_goals try (first | rfl | (refine bool_ext ?_; try simp (disch := omega) only [wi64, dec_t, Bool.and_eq_true, Bool.or_eq_true, Bool.not_eq_true', dec_f, reduceCtorEq, true_iff, iff_true, false_iff, iff_false, not_true_eq_false, not_false_eq_true, Bool.true_and, Bool.and_true, Bool.false_eq_true, false_and, and_false, true_and, and_true]; try omega))
theorem lies_ok {n off k : Int} (h1 : 0 ≤ n) (h2 : n ≤ 1024) : Does Tryz.prog 127 #[.int .i64 n, .int .i64 off, .int .i64 k] h (fun u h' => u = .bool (decide (lies n off k)) ∧ h' = h) := by
  refine spec_go mixed Tryz.func127 rfl Tryz.results127 (n := Tryz.f127.ntmps) (by kernel_rfl) (by simp) ?_
  simp only [go_sem, simprocAttr, lies]
  repeat' (first | (refine gd_split (fun hb => ?_) (fun hb => ?_) <;> simp only [go_sem, simprocAttr, dec_t, dec_f, Bool.not_eq_true', Bool.not_eq_false', Bool.and_eq_true] at hb <;> simp only [go_sem, simprocAttr, hb]) | (refine cnd_split (fun hb => ?_) (fun hb => ?_) <;> simp only [go_sem, simprocAttr, dec_t, dec_f, Bool.not_eq_true', Bool.not_eq_false', Bool.and_eq_true] at hb <;> simp only [go_sem, simprocAttr, hb]))
  all_goals try (first | rfl | (refine bool_ext ?_; try simp (disch := omega) only [wi64, dec_t, Bool.and_eq_true, Bool.or_eq_true, Bool.not_eq_true', dec_f, reduceCtorEq, true_iff, iff_true, false_iff, iff_false, not_true_eq_false, not_false_eq_true, Bool.true_and, Bool.and_true, Bool.false_eq_true, false_and, and_false, true_and, and_true]; try omega))
theorem many_ok {n : Int} : Does Tryz.prog 57 #[.int .i64 n] h (fun u h' => u = .bool (decide (0 ≤ n ∧ n ≤ 1024)) ∧ h' = h) := by
  refine spec_go mixed Tryz.func57 rfl Tryz.results57 (n := Tryz.f57.ntmps) (by kernel_rfl) (by simp) ?_
  simp only [go_sem, simprocAttr]
  repeat' (first | (refine gd_split (fun hb => ?_) (fun hb => ?_) <;> simp only [go_sem, simprocAttr, dec_t, dec_f, Bool.not_eq_true', Bool.not_eq_false', Bool.and_eq_true] at hb <;> simp only [go_sem, simprocAttr, hb]) | (refine cnd_split (fun hb => ?_) (fun hb => ?_) <;> simp only [go_sem, simprocAttr, dec_t, dec_f, Bool.not_eq_true', Bool.not_eq_false', Bool.and_eq_true] at hb <;> simp only [go_sem, simprocAttr, hb]))
  all_goals try (first | rfl | (refine bool_ext ?_; try simp (disch := omega) only [wi64, dec_t, Bool.and_eq_true, Bool.or_eq_true, Bool.not_eq_true', dec_f, reduceCtorEq, true_iff, iff_true, false_iff, iff_false, not_true_eq_false, not_false_eq_true, Bool.true_and, Bool.and_true, Bool.false_eq_true, false_and, and_false, true_and, and_true]; try omega))
theorem rin_ok {n off k : Int} (h1 : 0 ≤ n) (h2 : n ≤ 1024) : Does Tryz.prog 107 #[.int .i64 n, .int .i64 off, .int .i64 k] h (fun u h' => u = .bool (decide (0 ≤ off ∧ off ≤ n ∧ k ≤ n - off)) ∧ h' = h) := by
  refine spec_go mixed Tryz.func107 rfl Tryz.results107 (n := Tryz.f107.ntmps) (by kernel_rfl) (by simp) ?_
  simp only [go_sem, simprocAttr]
  repeat' (first | (refine gd_split (fun hb => ?_) (fun hb => ?_) <;> simp only [go_sem, simprocAttr, dec_t, dec_f, Bool.not_eq_true', Bool.not_eq_false', Bool.and_eq_true] at hb <;> simp only [go_sem, simprocAttr, hb]) | (refine cnd_split (fun hb => ?_) (fun hb => ?_) <;> simp only [go_sem, simprocAttr, dec_t, dec_f, Bool.not_eq_true', Bool.not_eq_false', Bool.and_eq_true] at hb <;> simp only [go_sem, simprocAttr, hb]))
  all_goals try (first | rfl | (refine bool_ext ?_; try simp (disch := omega) only [wi64, dec_t, Bool.and_eq_true, Bool.or_eq_true, Bool.not_eq_true', dec_f, reduceCtorEq, true_iff, iff_true, false_iff, iff_false, not_true_eq_false, not_false_eq_true, Bool.true_and, Bool.and_true, Bool.false_eq_true, false_and, and_false, true_and, and_true]; try omega))

theorem Range_ok {o : Op} {d : Value} (hd : Words S h o.data d) : Does Tryz.prog 102 #[opV o d] h (fun u h' => u = .tuple #[.int .i64 o.range.1, .int .i64 o.range.2] ∧ h.quiet h') := by
  obtain ⟨a, c, rfl⟩ := hd.shape
  refine spec_go mixed Tryz.func102 rfl Tryz.results102 (n := Tryz.f102.ntmps) (by kernel_rfl) (by simp) ?_
  simp only [go_sem, simprocAttr]
  repeat' (first | (refine gd_split (fun hb => ?_) (fun hb => ?_) <;> simp only [go_sem, simprocAttr, dec_t, dec_f, Bool.not_eq_true', Bool.not_eq_false', Bool.and_eq_true] at hb <;> simp only [go_sem, simprocAttr, hb]) | (refine cnd_split (fun hb => ?_) (fun hb => ?_) <;> simp only [go_sem, simprocAttr, dec_t, dec_f, Bool.not_eq_true', Bool.not_eq_false', Bool.and_eq_true] at hb <;> simp only [go_sem, simprocAttr, hb]))
  all_goals simp only [Op.range]
  all_goals simp_all [AHeap.quiet.push]
theorem rRange_ok {o : Op} {d : Value} (hd : Words S h o.data d) : Does Tryz.prog 108 #[opV o d] h (fun u h' => u = .tuple #[.int .i64 o.range.1, .int .i64 o.range.2] ∧ h.quiet h') := by
  obtain ⟨a, c, rfl⟩ := hd.shape
  refine spec_go mixed Tryz.func108 rfl Tryz.results108 (n := Tryz.f108.ntmps) (by kernel_rfl) (by simp) ?_
  simp only [go_sem, simprocAttr]
  repeat' (first | (refine gd_split (fun hb => ?_) (fun hb => ?_) <;> simp only [go_sem, simprocAttr, dec_t, dec_f, Bool.not_eq_true', Bool.not_eq_false', Bool.and_eq_true] at hb <;> simp only [go_sem, simprocAttr, hb]) | (refine cnd_split (fun hb => ?_) (fun hb => ?_) <;> simp only [go_sem, simprocAttr, dec_t, dec_f, Bool.not_eq_true', Bool.not_eq_false', Bool.and_eq_true] at hb <;> simp only [go_sem, simprocAttr, hb]))
  all_goals simp only [Op.range]
  all_goals simp_all [AHeap.quiet.push]

theorem bRight_ok {n : Int} {o : Op} {d : Value} (hd : Words S h o.data d) : Does Tryz.prog 106 #[.int .i64 n, opV o d] h (fun u h' => u = .bool (decide (o.right n)) ∧ h.quiet h') := by
  obtain ⟨a, c, rfl⟩ := hd.shape
  refine spec_go mixed Tryz.func106 rfl Tryz.results106 (n := Tryz.f106.ntmps) (by kernel_rfl) (by simp) ?_
  simp only [go_sem, simprocAttr]
  have hd1 := hd.quiet (.push h (.cells [.int .i64 o.kind, .int .i64 o.off, .int .i64 o.len, .slice a o.data.length c] .rw))
  refine cl_spec (Range_ok hd1) (fun _ _ _ hc => absurd hc (by decide +kernel)) ?_
  rintro u k1 ⟨rfl, q1⟩
  obtain ⟨e1, _, q2⟩ := q1.box
  by_cases c1 : o.kind = 1
  · simp only [go_sem, simprocAttr, e1, Op.range1 c1]
    repeat' (first | (refine gd_split (fun hb => ?_) (fun hb => ?_) <;> simp only [go_sem, simprocAttr, dec_t, dec_f, Bool.not_eq_true', Bool.not_eq_false', Bool.and_eq_true] at hb <;> simp only [go_sem, simprocAttr, e1, c1, hb]) | (refine cnd_split (fun hb => ?_) (fun hb => ?_) <;> simp only [go_sem, simprocAttr, dec_t, dec_f, Bool.not_eq_true', Bool.not_eq_false', Bool.and_eq_true] at hb <;> simp only [go_sem, simprocAttr, e1, c1, hb]) | (refine cl_spec (lies_ok (by omega) (by omega)) (fun _ _ _ hc => absurd hc (by decide +kernel)) ?_ <;> rintro u h' ⟨rfl, rfl⟩ <;> simp only [go_sem, simprocAttr, e1, c1]))
    all_goals refine ⟨?_, q2⟩
    all_goals try (first | rfl | (refine bool_ext ?_; try simp (disch := omega) only [wi64, dec_t, Bool.and_eq_true, Bool.or_eq_true, Bool.not_eq_true', dec_f, reduceCtorEq, true_iff, iff_true, false_iff, iff_false, not_true_eq_false, not_false_eq_true, Bool.true_and, Bool.and_true, Bool.false_eq_true, false_and, and_false, true_and, and_true]; try simp only [Op.right, lies] at *; try omega))
  · by_cases c2 : o.kind = 2
    · simp only [go_sem, simprocAttr, e1, Op.range2 c2]
      repeat' (first | (refine gd_split (fun hb => ?_) (fun hb => ?_) <;> simp only [go_sem, simprocAttr, dec_t, dec_f, Bool.not_eq_true', Bool.not_eq_false', Bool.and_eq_true] at hb <;> simp only [go_sem, simprocAttr, e1, c2, hb]) | (refine cnd_split (fun hb => ?_) (fun hb => ?_) <;> simp only [go_sem, simprocAttr, dec_t, dec_f, Bool.not_eq_true', Bool.not_eq_false', Bool.and_eq_true] at hb <;> simp only [go_sem, simprocAttr, e1, c2, hb]) | (refine cl_spec (lies_ok (by omega) (by omega)) (fun _ _ _ hc => absurd hc (by decide +kernel)) ?_ <;> rintro u h' ⟨rfl, rfl⟩ <;> simp only [go_sem, simprocAttr, e1, c2]))
      all_goals refine ⟨?_, q2⟩
      all_goals try (first | rfl | (refine bool_ext ?_; try simp (disch := omega) only [wi64, dec_t, Bool.and_eq_true, Bool.or_eq_true, Bool.not_eq_true', dec_f, reduceCtorEq, true_iff, iff_true, false_iff, iff_false, not_true_eq_false, not_false_eq_true, Bool.true_and, Bool.and_true, Bool.false_eq_true, false_and, and_false, true_and, and_true]; try simp only [Op.right, lies] at *; try omega))
    · simp only [go_sem, simprocAttr, e1, Op.range0 c1 c2]
      repeat' (first | (refine gd_split (fun hb => ?_) (fun hb => ?_) <;> simp only [go_sem, simprocAttr, dec_t, dec_f, Bool.not_eq_true', Bool.not_eq_false', Bool.and_eq_true] at hb <;> simp only [go_sem, simprocAttr, e1, c1, c2, hb]) | (refine cnd_split (fun hb => ?_) (fun hb => ?_) <;> simp only [go_sem, simprocAttr, dec_t, dec_f, Bool.not_eq_true', Bool.not_eq_false', Bool.and_eq_true] at hb <;> simp only [go_sem, simprocAttr, e1, c1, c2, hb]) | (refine cl_spec (lies_ok (by omega) (by omega)) (fun _ _ _ hc => absurd hc (by decide +kernel)) ?_ <;> rintro u h' ⟨rfl, rfl⟩ <;> simp only [go_sem, simprocAttr, e1, c1, c2]))
      all_goals refine ⟨?_, q2⟩
      all_goals try (first | rfl | (refine bool_ext ?_; try simp (disch := omega) only [wi64, dec_t, Bool.and_eq_true, Bool.or_eq_true, Bool.not_eq_true', dec_f, reduceCtorEq, true_iff, iff_true, false_iff, iff_false, not_true_eq_false, not_false_eq_true, Bool.true_and, Bool.and_true, Bool.false_eq_true, false_and, and_false, true_and, and_true]; try simp only [Op.right, lies] at *; try omega))

theorem rRight_ok {n : Int} {o : Op} {d : Value} (hd : Words S h o.data d) : Does Tryz.prog 58 #[.int .i64 n, opV o d] h (fun u h' => u = .bool (decide (o.right n)) ∧ h.quiet h') := by
  obtain ⟨a, c, rfl⟩ := hd.shape
  refine spec_go mixed Tryz.func58 rfl Tryz.results58 (n := Tryz.f58.ntmps) (by kernel_rfl) (by simp) ?_
  simp only [go_sem, simprocAttr]
  repeat' (first | (refine gd_split (fun hb => ?_) (fun hb => ?_) <;> simp only [go_sem, simprocAttr, dec_t, dec_f, Bool.not_eq_true', Bool.not_eq_false', Bool.and_eq_true] at hb <;> simp only [go_sem, simprocAttr, hb]) | (refine cnd_split (fun hb => ?_) (fun hb => ?_) <;> simp only [go_sem, simprocAttr, dec_t, dec_f, Bool.not_eq_true', Bool.not_eq_false', Bool.and_eq_true] at hb <;> simp only [go_sem, simprocAttr, hb]) | (refine cl_spec (many_ok) (fun _ _ _ hc => absurd hc (by decide +kernel)) ?_ <;> rintro u h' ⟨rfl, rfl⟩ <;> simp only [go_sem, simprocAttr]) | (refine cl_spec (rin_ok (by omega) (by omega)) (fun _ _ _ hc => absurd hc (by decide +kernel)) ?_ <;> rintro u h' ⟨rfl, rfl⟩ <;> simp only [go_sem, simprocAttr]))
  all_goals try (first | rfl | (refine bool_ext ?_; try simp (disch := omega) only [wi64, dec_t, Bool.and_eq_true, Bool.or_eq_true, Bool.not_eq_true', dec_f, reduceCtorEq, true_iff, iff_true, false_iff, iff_false, not_true_eq_false, not_false_eq_true, Bool.true_and, Bool.and_true, Bool.false_eq_true, false_and, and_false, true_and, and_true]; try simp only [Op.right, lies] at *; try omega))

theorem sRight_ok {m : SMap} {v : Value} (hd : IsSl rPiece S h m.ps v) : Does Tryz.prog 110 #[mapV m v] h (fun u h' => u = .bool (decide m.right) ∧ h.quiet h') := by
  obtain ⟨a, c, rfl⟩ := hd.shape
  have hl := hd.len
  refine spec_go mixed Tryz.func110 rfl Tryz.results110 (n := Tryz.f110.ntmps) (by kernel_rfl) (by simp) ?_
  simp only [go_sem, simprocAttr]
  repeat' (first | (refine gd_split (fun hb => ?_) (fun hb => ?_) <;> simp only [go_sem, simprocAttr, dec_t, dec_f, Bool.not_eq_true', Bool.not_eq_false', Bool.and_eq_true] at hb <;> simp only [go_sem, simprocAttr, hb]) | (refine cnd_split (fun hb => ?_) (fun hb => ?_) <;> simp only [go_sem, simprocAttr, dec_t, dec_f, Bool.not_eq_true', Bool.not_eq_false', Bool.and_eq_true] at hb <;> simp only [go_sem, simprocAttr, hb]))
  all_goals try (first | rfl | (refine bool_ext ?_; try simp (disch := omega) only [wi64, dec_t, Bool.and_eq_true, Bool.or_eq_true, Bool.not_eq_true', dec_f, reduceCtorEq, true_iff, iff_true, false_iff, iff_false, not_true_eq_false, not_false_eq_true, Bool.true_and, Bool.and_true, Bool.false_eq_true, false_and, and_false, true_and, and_true]; try simp only [SMap.right] at *; try omega))
  rename_i b4 b3 b2 b1
  refine go_gen fun h1 e1 => ?_
  obtain ⟨g1, l1, q1⟩ := AHeap.quiet.box (h := h) (k := h1) (by rw [e1]; exact .refl _)
  clear e1
  refine go_loop (fun z ρ k => ∃ (i : Nat) (at_ : Int), i ≤ m.ps.length ∧ z = m.ps.length - i ∧ h1.quiet k ∧ (chain 0 m.ps m.n ↔ chain at_ (m.ps.drop i) m.n) ∧
    ρ 1 = .pointer (some ⟨h.next, 0, none⟩) ∧ ρ 3 = .int .i64 at_ ∧ ρ 31 = .slice a m.ps.length c ∧ ρ 32 = .int .i64 m.ps.length ∧ ρ 33 = .int .i64 i) m.ps.length ⟨0, 0, by omega, by omega, .refl _, by simp, by simp only [go_sem, simprocAttr]⟩ ?_
  rintro z ρ k ⟨i, at_, hi, rfl, qk, hch, r1, r3, r31, r32, r33⟩
  have gk : k.get h.next = _ := (qk.2 _ l1).trans g1
  simp only [go_sem, simprocAttr, r1, r3, r31, r32, r33]
  refine cnd_decide (fun hx => ?_) (fun hx => ?_)
  · have hx' : i < m.ps.length := by omega
    obtain ⟨b, off, sp, cc, md, p, rfl, hSb, hg, hpi, hp, hle, hdt, f0, f1, f2⟩ := (hd.quiet (q1.trans qk)).atPiece hx'
    rw [drop_cons hpi, chain] at hch
    have e9 : IntKind.i64.wrap ((i : Int) + 1) = ((i + 1 : Nat) : Int) := by rw [wi64] <;> omega
    simp only [go_sem, simprocAttr, r1, r3, r31, r32, r33, hx', hg, hle, hdt]
    repeat' (first | (refine gd_split (fun hb => ?_) (fun hb => ?_) <;> simp only [go_sem, simprocAttr, dec_t, dec_f, Bool.not_eq_true', Bool.not_eq_false', Bool.and_eq_true] at hb <;> simp only [go_sem, simprocAttr, r1, r3, r31, r32, r33, e9, hb]) | (refine cnd_split (fun hb => ?_) (fun hb => ?_) <;> simp only [go_sem, simprocAttr, dec_t, dec_f, Bool.not_eq_true', Bool.not_eq_false', Bool.and_eq_true] at hb <;> simp only [go_sem, simprocAttr, r1, r3, r31, r32, r33, e9, hb]) | (refine cl_spec (isNode_ok) (fun _ _ _ hc => absurd hc (by decide +kernel)) ?_ <;> rintro u h' ⟨rfl, rfl⟩ <;> simp only [go_sem, simprocAttr, r1, r3, r31, r32, r33, e9]))
    all_goals try exact ⟨congrArg Value.bool (decide_eq_false (fun e => by have := hch.1 e.2; omega)).symm, (q1.trans qk).push' _⟩
    refine Hold.mk ⟨m.ps.length - (i + 1), by omega, i + 1, p.to, by omega, rfl, qk.push' _, hch.trans ⟨fun e => e.2.2.2, fun e => ⟨by omega, by omega, by omega, e⟩⟩, by simp only [go_sem, simprocAttr, r1, r31, r32]⟩
  · have : i = m.ps.length := by omega
    subst this
    simp only [go_sem, simprocAttr, r1, r3, r31, r32, r33, gk]
    refine ⟨?_, q1.trans qk⟩
    rw [List.drop_length, chain] at hch
    refine bool_ext ?_
    simp only [dec_t, SMap.right, hch]
    omega

theorem rsRight_ok {m : SMap} {v : Value} (hd : IsSl rPiece S h m.ps v) : Does Tryz.prog 101 #[mapV m v] h (fun u h' => u = .bool (decide m.right) ∧ h.quiet h') := by
  obtain ⟨a, c, rfl⟩ := hd.shape
  have hl := hd.len
  have hc0 : m.ps.length = 0 → m.right → False := fun e r => by
    have := r.2; rw [List.eq_nil_of_length_eq_zero e, chain] at this; have := r.1; omega
  refine spec_go mixed Tryz.func101 rfl Tryz.results101 (n := Tryz.f101.ntmps) (by kernel_rfl) (by simp) ?_
  simp only [go_sem, simprocAttr]
  repeat' (first | (refine gd_split (fun hb => ?_) (fun hb => ?_) <;> simp only [go_sem, simprocAttr, dec_t, dec_f, Bool.not_eq_true', Bool.not_eq_false', Bool.and_eq_true] at hb <;> simp only [go_sem, simprocAttr, hb]) | (refine cnd_split (fun hb => ?_) (fun hb => ?_) <;> simp only [go_sem, simprocAttr, dec_t, dec_f, Bool.not_eq_true', Bool.not_eq_false', Bool.and_eq_true] at hb <;> simp only [go_sem, simprocAttr, hb]))
  all_goals try (first | rfl | (refine bool_ext ?_; try simp (disch := omega) only [wi64, dec_t, Bool.and_eq_true, Bool.or_eq_true, Bool.not_eq_true', dec_f, reduceCtorEq, true_iff, iff_true, false_iff, iff_false, not_true_eq_false, not_false_eq_true, Bool.true_and, Bool.and_true, Bool.false_eq_true, false_and, and_false, true_and, and_true]; try simp only [SMap.right] at *; try omega))
  rotate_left
  · exact fun e => hc0 (by omega) e
  rename_i b5 b4 b3 b2 b1
  refine go_gen fun h1 e1 => ?_
  obtain ⟨g1, l1, q1⟩ := AHeap.quiet.box (h := h) (k := h1) (by rw [e1]; exact .refl _)
  clear e1
  refine go_loop (fun z ρ k => ∃ (i : Nat) (at_ : Int), i ≤ m.ps.length ∧ z = m.ps.length - i ∧ h1.quiet k ∧ (chain 0 m.ps m.n ↔ chain at_ (m.ps.drop i) m.n) ∧
    ρ 1 = .pointer (some ⟨h.next, 0, none⟩) ∧ ρ 3 = .int .i64 at_ ∧ ρ 4 = .int .i64 i) m.ps.length ⟨0, 0, by omega, by omega, .refl _, by simp, by simp only [go_sem, simprocAttr]⟩ ?_
  rintro z ρ k ⟨i, at_, hi, rfl, qk, hch, r1, r3, r4⟩
  have gk : k.get h.next = _ := (qk.2 _ l1).trans g1
  simp only [go_sem, simprocAttr, r1, r3, r4, gk]
  refine cnd_decide (fun hx => ?_) (fun hx => ?_)
  · have hx' : i < m.ps.length := by omega
    obtain ⟨b, off, sp, cc, md, p, rfl, _, hg, hpi, hp, hle, hdt, f0, f1, f2⟩ := (hd.quiet (q1.trans qk)).atPiece hx'
    rw [drop_cons hpi, chain] at hch
    have e9 : IntKind.i64.wrap ((i : Int) + 1) = ((i + 1 : Nat) : Int) := by rw [wi64] <;> omega
    simp only [go_sem, simprocAttr, r1, r3, r4, gk, hx', hg, hle, hdt]
    repeat' (first | (refine gd_split (fun hb => ?_) (fun hb => ?_) <;> simp only [go_sem, simprocAttr, dec_t, dec_f, Bool.not_eq_true', Bool.not_eq_false', Bool.and_eq_true] at hb <;> simp only [go_sem, simprocAttr, r1, r3, r4, e9, hb]) | (refine cnd_split (fun hb => ?_) (fun hb => ?_) <;> simp only [go_sem, simprocAttr, dec_t, dec_f, Bool.not_eq_true', Bool.not_eq_false', Bool.and_eq_true] at hb <;> simp only [go_sem, simprocAttr, r1, r3, r4, e9, hb]) | (refine cl_spec (rnode_ok) (fun _ _ _ hc => absurd hc (by decide +kernel)) ?_ <;> rintro u h' ⟨rfl, rfl⟩ <;> simp only [go_sem, simprocAttr, r1, r3, r4, e9]))
    all_goals try exact ⟨congrArg Value.bool (decide_eq_false (fun e => by have := hch.1 e.2; omega)).symm, (q1.trans qk).push' _⟩
    refine Hold.mk ⟨m.ps.length - (i + 1), by omega, i + 1, p.to, by omega, rfl, qk.push' _, hch.trans ⟨fun e => e.2.2.2, fun e => ⟨by omega, by omega, by omega, e⟩⟩, by simp only [go_sem, simprocAttr, r1]⟩
  · have : i = m.ps.length := by omega
    subst this
    simp only [go_sem, simprocAttr, r1, r3, gk]
    refine ⟨?_, q1.trans qk⟩
    rw [List.drop_length, chain] at hch
    refine bool_ext ?_
    simp only [dec_t, SMap.right, hch]
    omega

end

def idxP (b : Int) (ps : List Piece) : Nat := ps.findIdx fun p => decide (b < p.to)
def idxR (b : Int) (ps : List Piece) : Nat := ps.findIdx fun p => decide (p.frm ≤ b ∧ b < p.to)
theorem idxP_cons (b : Int) (p : Piece) (ps : List Piece) : idxP b (p :: ps) = if b < p.to then 0 else idxP b ps + 1 := by
  unfold idxP; rw [List.findIdx_cons]; by_cases h : b < p.to <;> simp [h]
theorem idxR_cons (b : Int) (p : Piece) (ps : List Piece) : idxR b (p :: ps) = if p.frm ≤ b ∧ b < p.to then 0 else idxR b ps + 1 := by
  unfold idxR; rw [List.findIdx_cons]; by_cases h : p.frm ≤ b ∧ b < p.to <;> simp [h]

theorem chain_le : ∀ {ps : List Piece} {a n : Int}, chain a ps n → a ≤ n
  | [], a, n, h => by simp only [chain] at h; omega
  | p :: ps, a, n, h => by have := chain_le h.2.2.2; have := h.2.1; omega
theorem chain_idx : ∀ {ps : List Piece} {a n b : Int}, chain a ps n → a ≤ b → b < n → ∃ p, ps[idxP b ps]? = some p ∧ p.frm ≤ b ∧ b < p.to ∧ idxR b ps = idxP b ps ∧ p.to ≤ n ∧ a ≤ p.frm ∧ 0 ≤ p.node ∧ p.node < 16
  | [], a, n, b, h, h1, h2 => by simp only [chain] at h; omega
  | p :: ps, a, n, b, h, h1, h2 => by
    obtain ⟨h3, h4, h5, h6⟩ := h
    rw [idxP_cons, idxR_cons]
    by_cases hb : b < p.to
    · rw [if_pos hb, if_pos ⟨by omega, hb⟩]
      exact ⟨p, rfl, by omega, hb, rfl, chain_le h6, by omega, h5⟩
    · obtain ⟨q, k1, k2, k3, k4, k5, k6, k7⟩ := chain_idx h6 (b := b) (by omega) h2
      rw [if_neg hb, if_neg (fun e => hb e.2)]
      exact ⟨q, by simpa using k1, k2, k3, by rw [k4], k5, by omega, k7⟩
theorem chain_out : ∀ {ps : List Piece} {a n b : Int}, chain a ps n → b < a ∨ n ≤ b → idxR b ps = ps.length
  | [], a, n, b, h, h1 => rfl
  | p :: ps, a, n, b, h, h1 => by
    obtain ⟨h3, h4, h5, h6⟩ := h
    have := chain_le h6
    rw [idxR_cons, if_neg (by omega), chain_out h6 (by omega)]; rfl

/-- Which piece has a block; the error. -/
def SMap.find (m : SMap) (b : Int) : Int × Int := if m.right then (if 0 ≤ b ∧ b < m.n then (idxP b m.ps, 0) else (0, 9)) else (0, 1)

section
variable {h : AHeap} {S : Nat → Prop}

theorem index_ok {ps : List Piece} {v : Value} {b : Int} {bx : Nat} (hd : IsSl rPiece S h ps v) (hb : h.get bx = .cells [.int .i64 b] .rw) :
    Does Tryz.prog 111 #[v, .func (.func 112) #[] #[.pointer (some ⟨bx, 0, none⟩)]] h
      (fun u h' => u = .int .i64 (if idxP b ps < ps.length then (idxP b ps : Int) else -1) ∧ h.quiet h') := by
  obtain ⟨a, c, rfl⟩ := hd.shape
  have hl := hd.len
  have hlt : bx < h.next := AHeap.lt_of_alive h (by rw [hb]; simp)
  refine spec_go mixed Tryz.func111 rfl Tryz.results111 (n := Tryz.f111.ntmps) (by kernel_rfl) (by simp) ?_
  simp only [go_sem, simprocAttr]
  refine go_loop (fun z ρ k => ∃ i : Nat, i ≤ ps.length ∧ z = ps.length - i ∧ h.quiet k ∧ idxP b ps = i + idxP b (ps.drop i) ∧
    ρ 0 = .slice a ps.length c ∧ ρ 1 = .func (.func 112) #[] #[.pointer (some ⟨bx, 0, none⟩)] ∧ ρ 7 = .int .i64 ps.length ∧ ρ 8 = .int .i64 i) ps.length ⟨0, by omega, by omega, .refl _, by simp, by simp only [go_sem, simprocAttr]⟩ ?_
  rintro z ρ k ⟨i, hi, rfl, qk, he, r0, r1, r7, r8⟩
  simp only [go_sem, simprocAttr, r0, r1, r7, r8]
  refine cnd_decide (fun hx => ?_) (fun hx => ?_)
  · have hx' : i < ps.length := by omega
    obtain ⟨b0, off, sp, cc, md, p, rfl, _, hg, hpi, hp, hle, hdt, f0, f1, f2⟩ := (hd.quiet qk).atPiece hx'
    rw [drop_cons hpi, idxP_cons] at he
    have e9 : IntKind.i64.wrap ((i : Int) + 1) = ((i + 1 : Nat) : Int) := by rw [wi64] <;> omega
    simp only [go_sem, simprocAttr, r0, r1, r7, r8, hx', hg, hle, hdt]
    have step : Does Tryz.prog 112 #[.agg #[.int .i64 p.frm, .int .i64 p.to, .int .i64 p.node], .pointer (some ⟨bx, 0, none⟩)] k (fun u h' => u = .bool (decide (b < p.to)) ∧ k.quiet h') := by
      have hbk : k.get bx = .cells [.int .i64 b] .rw := by rw [qk.2 _ hlt]; exact hb
      have hlk : bx < k.next := AHeap.lt_of_alive k (by rw [hbk]; simp)
      refine spec_go mixed Tryz.func112 rfl Tryz.results112 (n := Tryz.f112.ntmps) (by kernel_rfl) (by simp) ?_
      simp only [go_sem, simprocAttr, AHeap.get_push_lt _ _ hlk, hbk]
    refine cl_spec step (fun _ _ _ hc => absurd hc (by decide +kernel)) ?_
    rintro u k1 ⟨rfl, q1⟩
    simp only [go_sem, simprocAttr, r0, r1, r7, r8]
    refine cnd_decide (fun hy => ?_) (fun hy => ?_)
    · simp only [go_sem, simprocAttr, r0, r1, r7, r8]
      rw [if_pos hy] at he
      rw [he, Nat.add_zero, if_pos hx']
      exact ⟨rfl, qk.trans q1⟩
    · simp only [go_sem, simprocAttr, r0, r1, r7, r8, e9]
      rw [if_neg hy] at he
      exact Hold.mk ⟨ps.length - (i + 1), by omega, i + 1, by omega, rfl, qk.trans q1, by omega, by simp only [go_sem, simprocAttr, r0, r1, r7]⟩
  · have : i = ps.length := by omega
    subst this
    rw [List.drop_length] at he
    simp only [go_sem, simprocAttr]
    rw [if_neg (by omega)]
    exact ⟨rfl, qk⟩

theorem find_ok {m : SMap} {v : Value} {b : Int} (hd : IsSl rPiece S h m.ps v) : Does Tryz.prog 61 #[mapV m v, .int .i64 b] h
      (fun u h' => u = .tuple #[.int .i64 (m.find b).1, .int .i64 (m.find b).2] ∧ h.quiet h') := by
  obtain ⟨a, c, rfl⟩ := hd.shape
  refine spec_go mixed Tryz.func61 rfl Tryz.results61 (n := Tryz.f61.ntmps) (by kernel_rfl) (by simp) ?_
  simp only [go_sem, simprocAttr]
  refine cl_gen fun h1 e1 => ?_
  have q1 : h.quiet h1 := by rw [e1]; simp only [go_sem, simprocAttr]
  have g2 : h1.get h.next = .cells [.int .i64 m.ver, .int .i64 m.n, .slice a m.ps.length c] .rw := by rw [e1]; simp only [go_sem, simprocAttr]
  have g3 : h1.get (h.next + 1) = .cells [.int .i64 b] .rw := by rw [e1]; simp only [go_sem, simprocAttr]
  have l2 : h.next < h1.next := by rw [e1]; simp; omega
  have l3 : h.next + 1 < h1.next := by rw [e1]; simp
  clear e1
  refine cl_spec (sRight_ok (hd.quiet q1)) (fun _ _ _ hc => absurd hc (by decide +kernel)) ?_
  rintro u k ⟨rfl, q2⟩
  have q3 := q1.trans q2
  rw [← q2.2 _ l2] at g2
  rw [← q2.2 _ l3] at g3
  by_cases hr : m.right
  · simp only [go_sem, simprocAttr, hr, decide_true]
    simp only [go_sem, simprocAttr, g2, g3]
    by_cases hb : 0 ≤ b ∧ b < m.n
    · have hb1 : ¬ b < 0 := by omega
      have hb2 : ¬ m.n ≤ b := by omega
      have ef : m.find b = ((idxP b m.ps : Int), 0) := by unfold SMap.find; rw [if_pos hr, if_pos hb]
      obtain ⟨p, hp, _⟩ := chain_idx hr.2 (b := b) hb.1 hb.2
      have hlt := (List.getElem?_eq_some_iff.1 hp).1
      simp only [go_sem, simprocAttr, g2, g3, hb1, hb2, decide_false]
      refine cl_spec (index_ok (hd.quiet q3) g3) (fun _ _ _ hc => absurd hc (by decide +kernel)) ?_
      rintro u k1 ⟨rfl, q4⟩
      rw [if_pos hlt, ef]
      simp only [go_sem, simprocAttr]
      exact q3.trans q4
    · have ef : m.find b = (0, 9) := by unfold SMap.find; rw [if_pos hr, if_neg hb]
      rw [ef]
      repeat' (first | (refine gd_split (fun hb => ?_) (fun hb => ?_) <;> simp only [go_sem, simprocAttr, dec_t, dec_f, Bool.not_eq_true', Bool.not_eq_false', Bool.and_eq_true] at hb <;> simp only [go_sem, simprocAttr, g2, g3, hb]) | (refine cnd_split (fun hb => ?_) (fun hb => ?_) <;> simp only [go_sem, simprocAttr, dec_t, dec_f, Bool.not_eq_true', Bool.not_eq_false', Bool.and_eq_true] at hb <;> simp only [go_sem, simprocAttr, g2, g3, hb]))
      all_goals first | exact q3 | exact ⟨rfl, q3⟩ | (exfalso; omega)
  · have ef : m.find b = (0, 1) := by unfold SMap.find; rw [if_neg hr]
    rw [ef]
    simp only [go_sem, simprocAttr, hr, decide_false]
    exact q3

theorem rfind_ok {m : SMap} {v : Value} {b : Int} (hd : IsSl rPiece S h m.ps v) : Does Tryz.prog 51 #[mapV m v, .int .i64 b] h
      (fun u h' => u = .tuple #[.int .i64 (m.find b).1, .int .i64 (m.find b).2] ∧ h.quiet h') := by
  obtain ⟨a, c, rfl⟩ := hd.shape
  have hl := hd.len
  refine spec_go mixed Tryz.func51 rfl Tryz.results51 (n := Tryz.f51.ntmps) (by kernel_rfl) (by simp) ?_
  simp only [go_sem, simprocAttr]
  refine cl_gen fun h1 e1 => ?_
  obtain ⟨g2, l2, q1⟩ := AHeap.quiet.box (h := h) (k := h1) (by rw [e1]; exact .refl _)
  clear e1
  refine cl_spec (rsRight_ok (hd.quiet q1)) (fun _ _ _ hc => absurd hc (by decide +kernel)) ?_
  rintro u k ⟨rfl, q2⟩
  have q3 := q1.trans q2
  rw [← q2.2 _ l2] at g2
  by_cases hr : m.right
  · simp only [go_sem, simprocAttr, hr, decide_true]
    have ef : m.find b = if idxR b m.ps < m.ps.length then ((idxR b m.ps : Int), 0) else (0, 9) := by
      unfold SMap.find
      rw [if_pos hr]
      by_cases hb : 0 ≤ b ∧ b < m.n
      · obtain ⟨p, hp, _, _, e, _⟩ := chain_idx hr.2 (b := b) hb.1 hb.2
        have hlt := (List.getElem?_eq_some_iff.1 hp).1
        rw [if_pos hb, e, if_pos hlt]
      · rw [if_neg hb, chain_out hr.2 (by omega), if_neg (by omega)]
    refine go_loop (fun z ρ k => ∃ i : Nat, i ≤ m.ps.length ∧ z = m.ps.length - i ∧ h.quiet k ∧ idxR b m.ps = i + idxR b (m.ps.drop i) ∧ k.get h.next = .cells [.int .i64 m.ver, .int .i64 m.n, .slice a m.ps.length c] .rw ∧
      ρ 1 = .int .i64 b ∧ ρ 2 = .pointer (some ⟨h.next, 0, none⟩) ∧ ρ 6 = .int .i64 i) m.ps.length ⟨0, by omega, by omega, q3, by simp, g2, by simp only [go_sem, simprocAttr]⟩ ?_
    rintro z ρ k ⟨i, hi, rfl, qk, he, gk, r1, r2, r6⟩
    simp only [go_sem, simprocAttr, r1, r2, r6, gk]
    refine cnd_decide (fun hx => ?_) (fun hx => ?_)
    · have hx' : i < m.ps.length := by omega
      obtain ⟨b0, off, sp, cc, md, p, rfl, _, hg, hpi, hp, hle, hdt, f0, f1, f2⟩ := (hd.quiet qk).atPiece hx'
      rw [drop_cons hpi, idxR_cons] at he
      have e9 : IntKind.i64.wrap ((i : Int) + 1) = ((i + 1 : Nat) : Int) := by rw [wi64] <;> omega
      simp only [go_sem, simprocAttr, r1, r2, r6, gk, hx', hg, f0]
      repeat' (first | (refine gd_split (fun hb => ?_) (fun hb => ?_) <;> simp only [go_sem, simprocAttr, dec_t, dec_f, Bool.not_eq_true', Bool.not_eq_false', Bool.and_eq_true] at hb <;> simp only [go_sem, simprocAttr, r1, r2, r6, gk, hx', hg, f0, f1, e9, hb]) | (refine cnd_split (fun hb => ?_) (fun hb => ?_) <;> simp only [go_sem, simprocAttr, dec_t, dec_f, Bool.not_eq_true', Bool.not_eq_false', Bool.and_eq_true] at hb <;> simp only [go_sem, simprocAttr, r1, r2, r6, gk, hx', hg, f0, f1, e9, hb]))
      · rw [if_pos (by omega), Nat.add_zero] at he
        rw [ef, he, if_pos hx']
        exact ⟨rfl, qk⟩
      · rw [if_neg (by omega)] at he
        exact Hold.mk ⟨m.ps.length - (i + 1), by omega, i + 1, by omega, rfl, qk, by omega, gk, by simp only [go_sem, simprocAttr, r1, r2]⟩
      · rw [if_neg (by omega)] at he
        exact Hold.mk ⟨m.ps.length - (i + 1), by omega, i + 1, by omega, rfl, qk, by omega, gk, by simp only [go_sem, simprocAttr, r1, r2]⟩
    · have : i = m.ps.length := by omega
      subst this
      rw [List.drop_length] at he
      simp only [go_sem, simprocAttr]
      rw [ef, if_neg (by omega)]
      exact ⟨rfl, qk⟩
  · have ef : m.find b = (0, 1) := by unfold SMap.find; rw [if_neg hr]
    rw [ef]
    simp only [go_sem, simprocAttr, hr, decide_false]
    exact q3

theorem rNode_ok {m : SMap} {v : Value} {b : Int} (hd : IsSl rPiece S h m.ps v) (hr : m.right) (h1 : 0 ≤ b) (h2 : b < m.n) : Does Tryz.prog 19 #[mapV m v, .int .i64 b] h
      (fun u h' => h.quiet h' ∧ ∃ p, m.ps[idxP b m.ps]? = some p ∧ u = .int .i64 p.node) := by
  obtain ⟨a, c, rfl⟩ := hd.shape
  refine spec_go mixed Tryz.func19 rfl Tryz.results19 (n := Tryz.f19.ntmps) (by kernel_rfl) (by simp) ?_
  simp only [go_sem, simprocAttr]
  refine cl_gen fun k e1 => ?_
  obtain ⟨g2, l2, q1⟩ := AHeap.quiet.box (h := h) (k := k) (by rw [e1]; exact .refl _)
  clear e1
  refine cl_spec (rfind_ok (hd.quiet q1)) (fun _ _ _ hc => absurd hc (by decide +kernel)) ?_
  rintro u k1 ⟨rfl, q2⟩
  rw [← q2.2 _ l2] at g2
  have ef : m.find b = ((idxP b m.ps : Int), 0) := by unfold SMap.find; rw [if_pos hr, if_pos ⟨h1, h2⟩]
  obtain ⟨p, hp, _⟩ := chain_idx hr.2 (b := b) h1 h2
  have hlt := (List.getElem?_eq_some_iff.1 hp).1
  obtain ⟨b0, off, sp, cc, md, p', rfl, _, hg, hpi, hp', hle, hdt, f0, f1, f2⟩ := (hd.quiet (q1.trans q2)).atPiece hlt
  rw [hp] at hpi; cases hpi
  rw [ef]
  simp only [go_sem, simprocAttr, g2, hlt, hg, f2]
  exact ⟨q1.trans q2, p, hp, rfl⟩
end

/-- What of the blocks from a to ahead of b lies in which piece. -/
def segs : Nat → List Piece → Int → Int → List (Nat × Int × Int × Int)
  | _, [], _, _ => []
  | k, p :: ps, a, b => if max p.frm a < min p.to b then (k, p.node, max p.frm a, min p.to b) :: segs (k + 1) ps a b else segs (k + 1) ps a b

theorem segs_nil : ∀ (ps : List Piece) (k : Nat) {a b : Int}, b ≤ a → segs k ps a b = []
  | [], k, a, b, h => rfl
  | p :: ps, k, a, b, h => by rw [segs, if_neg (by omega), segs_nil ps _ h]
theorem segs_len : ∀ (ps : List Piece) (k : Nat) (a b : Int), (segs k ps a b).length ≤ ps.length
  | [], k, a, b => Nat.le_refl _
  | p :: ps, k, a, b => by
    have := segs_len ps (k + 1) a b
    rw [segs]; split <;> simp <;> omega
theorem segs_far : ∀ {ps : List Piece} {c n a t b : Int} (k : Nat), chain c ps n → a ≤ c → t ≤ c → segs k ps a b = segs k ps t b
  | [], c, n, a, t, b, k, h, h1, h2 => rfl
  | p :: ps, c, n, a, t, b, k, h, h1, h2 => by
    obtain ⟨h3, h4, h5, h6⟩ := h
    rw [segs, segs, segs_far (k + 1) h6 (a := a) (t := t) (by omega) (by omega), show max p.frm a = max p.frm t by omega]
theorem segs_step : ∀ {ps : List Piece} {c n a b : Int} (k : Nat), chain c ps n → c ≤ a → a < b → b ≤ n →
    ∃ p, ps[idxP a ps]? = some p ∧ segs k ps a b = (k + idxP a ps, p.node, a, min p.to b) :: segs k ps (min p.to b) b
  | [], c, n, a, b, k, h, h1, h2, h3 => by simp only [chain] at h; omega
  | p :: ps, c, n, a, b, k, h, h1, h2, h3 => by
    obtain ⟨h4, h5, h6, h7⟩ := h
    rw [idxP_cons]
    by_cases hb : a < p.to
    · rw [if_pos hb]
      refine ⟨p, rfl, ?_⟩
      rw [segs, if_pos (by omega), segs, if_neg (by omega), show max p.frm a = a by omega, segs_far (k + 1) h7 (a := a) (t := min p.to b) (by omega) (by omega)]
      rfl
    · rw [if_neg hb]
      obtain ⟨q, k1, k2⟩ := segs_step (k + 1) h7 (a := a) (b := b) (by omega) h2 h3
      refine ⟨q, by simpa using k1, ?_⟩
      have hq := (List.getElem?_eq_some_iff.1 k1)
      obtain ⟨r, l1, l2, l3, _⟩ := chain_idx h7 (b := a) (by omega) (by omega)
      rw [k1] at l1; cases l1
      rw [segs, if_neg (by omega), k2, segs, if_neg (by omega)]
      congr 2; omega

/-- The parts, each made by a function of where it lies. -/
def mkParts (F : Int → Int → Op) (l : List (Nat × Int × Int × Int)) : List Part := l.map fun s => ⟨s.1, s.2.1, F s.2.2.1 (s.2.2.2 - s.2.2.1)⟩

section
variable {h : AHeap} {S : Nat → Prop} {v : Value}

theorem cloneW_ok {bs : List Nat} (hb : Words S h bs v) (hn : bs.length ≤ 1099511627776) :
    Does Tryz.prog 104 #[v] h (fun u h' => h.quiet h' ∧ Lst rW h.next (fun _ => False) h' bs u) := by
  obtain ⟨a, cap, rfl⟩ := hb.shape
  refine spec_go mixed Tryz.func104 rfl Tryz.results104 (n := Tryz.f104.ntmps) (by kernel_rfl) (by simp) ?_
  rcases a with _ | ad
  · have hl := hb.len
    have h0 : bs = [] := by obtain ⟨a', cap', css, e, h1, h2, h3, _⟩ := hb; cases e; have := h3 rfl; exact List.eq_nil_of_length_eq_zero (by omega)
    subst h0
    simp only [go_sem, simprocAttr]
    exact .nil _ _ _ _
  · have hq : h.quiet (h.push (.cells [] .rw)) := .push _ _
    obtain ⟨css, e1, ha⟩ := (hb.quiet hq).acells 1 rfl
    simp only [go_sem, simprocAttr, e1, ha.ones, List.length_nil]
    obtain ⟨u, h', e, hl, hf, _⟩ := (Lst.empty rW (lo := h.next) (T := fun _ => False) (h := h.push (.cells [] .rw)) (b := h.next) (o := 0) (Nat.le_refl _) (by simp)).app 1 rfl (bytes := 8) (n := bs.length)
      (nat_all2 (fun n hn => by have := hb.vals rfl n hn; exact this)) rfl (by simp; omega) (by simp; omega) (by simp)
    rw [nat_flat, ← (nat_cells ha).1] at e
    simp only [go_sem, simprocAttr, e]
    exact ⟨Fw.behind hq hf (fun j hj => by simp at hj; omega), hl⟩

/-- A function of where a part lies. -/
def Makes (h : AHeap) (g : FuncId) (caps : Array Value) (off n : Int) (F : Int → Int → Op) : Prop :=
  ∀ (f k : Int) (h' : AHeap), off ≤ f → 1 ≤ k → f + k ≤ off + n → h.quiet h' → Does Tryz.prog g (#[.int .i64 f, .int .i64 k] ++ caps) h' fun u h'' => h'.quiet h'' ∧ ∃ d, u = opV (F f k) d ∧ (F f k).ok ∧ OwnSl .u64 (h'.next ≤ ·) h'' (F f k).data d

theorem cut_ok {m : SMap} {off n : Int} {g : FuncId} {caps : Array Value} {F : Int → Int → Op} (hd : IsSl rPiece S h m.ps v) (hr : m.right) (h0 : 0 ≤ off) (h1 : 1 ≤ n) (h2 : off + n ≤ m.n) (hF : Makes h g caps off n F) :
    Does Tryz.prog 88 #[mapV m v, .int .i64 off, .int .i64 n, .func (.func g) #[] caps] h (fun u h' => h.quiet h' ∧ Lst rPartO h.next (h.next ≤ ·) h' (mkParts F (segs 0 m.ps off (off + n))) u) := by
  obtain ⟨a, c, rfl⟩ := hd.shape
  have hl := hd.len
  have hmn := hr.1
  refine spec_go mixed Tryz.func88 rfl Tryz.results88 (n := Tryz.f88.ntmps) (by kernel_rfl) (by simp) ?_
  simp only [go_sem, simprocAttr]
  refine go_gen fun h1 e1 => ?_
  obtain ⟨g2, l2, q1⟩ := AHeap.quiet.box (h := h) (k := h1) (by rw [e1]; exact .refl _)
  clear e1
  refine go_loop (fun z ρ k => ∃ (at_ : Int) (l : List (Nat × Int × Int × Int)) (u : Value), off ≤ at_ ∧ at_ ≤ off + n ∧ z = (off + n - at_).toNat ∧ h.quiet k ∧ h.next < k.next ∧ k.get h.next = .cells [.int .i64 m.ver, .int .i64 m.n, .slice a m.ps.length c] .rw ∧
    Lst rPartO (h.next + 1) (h.next + 1 ≤ ·) k (mkParts F l) u ∧ l ++ segs 0 m.ps at_ (off + n) = segs 0 m.ps off (off + n) ∧
    ρ 1 = .int .i64 off ∧ ρ 2 = .int .i64 n ∧ ρ 3 = .func (.func g) #[] caps ∧ ρ 4 = .pointer (some ⟨h.next, 0, none⟩) ∧ ρ 9 = u ∧ ρ 10 = .int .i64 at_) n.toNat
    ⟨off, [], _, by omega, by omega, by omega, q1, l2, g2, .nil _ _ _ _, rfl, by simp only [go_sem, simprocAttr]⟩ ?_
  rintro z ρ k ⟨at_, l, u, hat, hat2, rfl, qk, lk, gk, hl1, hseg, r1, r2, r3, r4, r9, r10⟩
  have e1 : IntKind.i64.wrap (off + n) = off + n := by rw [wi64] <;> omega
  simp only [go_sem, simprocAttr, r1, r2, r3, r4, r9, r10, e1]
  refine cnd_decide (fun hx => ?_) (fun hx => ?_)
  · simp only [go_sem, simprocAttr, r1, r2, r3, r4, r9, r10, gk]
    refine cl_spec (find_ok (hd.quiet qk)) (fun _ _ _ hc => absurd hc (by decide +kernel)) ?_
    rintro u2 k2 ⟨rfl, q2⟩
    have ef : m.find at_ = ((idxP at_ m.ps : Int), 0) := by unfold SMap.find; rw [if_pos hr, if_pos (by omega)]
    obtain ⟨p, hp, hp1, hp2, _, hp3, _, hp4⟩ := chain_idx hr.2 (b := at_) (by omega) (by omega)
    obtain ⟨p', hp', hst⟩ := segs_step (b := off + n) 0 hr.2 (a := at_) (by omega) (by omega) (by omega)
    rw [hp] at hp'; cases hp'
    have hlt := (List.getElem?_eq_some_iff.1 hp).1
    have qk2 := qk.trans q2
    have gk2 : k2.get h.next = _ := (q2.2 _ lk).trans gk
    obtain ⟨b0, ofs, sp, cc, md, p', rfl, _, hg, hpi, hp', hle, hdt, f0, f1, f2⟩ := (hd.quiet qk2).atPiece hlt
    rw [hp] at hpi; cases hpi
    rw [ef]
    have em : min (off + n) p.to = min p.to (off + n) := by omega
    have e2 : IntKind.i64.wrap (min p.to (off + n) - at_) = min p.to (off + n) - at_ := by rw [wi64] <;> omega
    have hgl : g < 18446744073709551616 := by
      obtain ⟨_, _, ⟨⟨_, _, _, _, e⟩, _⟩, _⟩ := hF at_ (min p.to (off + n) - at_) k2 hat (by omega) (by omega) qk2
      exact e
    simp only [go_sem, simprocAttr, hgl, r1, r2, r3, r4, r9, r10, gk2, e1, hlt, hg, f1, f2, em, e2]
    refine cl_spec (hF at_ (min p.to (off + n) - at_) k2 hat (by omega) (by omega) qk2) (fun u h' hp _ => hp.1) ?_
    rintro u3 k3 ⟨q3, d, rfl, hok, hown⟩
    have q3' := qk2.trans q3
    have hl3 := (hl1.quiet q2).quiet q3
    have hll : l.length + (segs 0 m.ps at_ (off + n)).length ≤ 16 := by
      rw [← List.length_append, hseg]; have := segs_len m.ps 0 off (off + n); omega
    rw [hst] at hll hseg
    obtain ⟨ad, rfl⟩ := hown.shape
    have hin : inI (idxP at_ m.ps : Nat) ∧ inI p.node := by unfold inI; omega
    generalize hG : F at_ (min p.to (off + n) - at_) = o at *
    have q4 := AHeap.quiet.push k3 (.cells (.int .i64 (idxP at_ m.ps : Nat) :: .int .i64 p.node :: opC o (.slice ad o.data.length o.data.length)) .rw)
    obtain ⟨u4, k4, e4, hl4, hf4, _⟩ := (hl3.quiet q4).app1 (r := rPartO) (y := ⟨(idxP at_ m.ps : Nat), p.node, o⟩) (cs := .int .i64 (idxP at_ m.ps : Nat) :: .int .i64 p.node :: opC o (.slice ad o.data.length o.data.length)) (bytes := 64) 6 rfl
      (rPartO_iff.2 ⟨_, rfl, hin.1, hin.2, hok, hown.mono fun j hj hjl => ⟨⟨by have := q2.1; omega, fun e => by have := (hl1.blk_ge e).2; have := q2.1; omega⟩, q4.2 j hjl⟩⟩) (by simp [mkParts] at hll ⊢; omega) (by simp [mkParts] at hll ⊢; omega) (by have := q3'.1; simp; omega)
    simp only [opC] at e4
    simp only [go_sem, simprocAttr, r1, r2, r3, r4, r9, r10, gk2, e1, hlt, hg, f1, f2, em, e2, e4]
    have q5 : h.quiet k4 := Fw.behind (q3'.trans q4) hf4 (fun j e => by have := ((hl3.quiet q4).blk_ge e).1; omega)
    have lk4 : k3.next < k4.next := by have := hf4.1; simp at this; omega
    have gk4 : k4.get h.next = k2.get h.next := by
      rw [hf4.2 _ (by have := q2.1; have := q3.1; simp; omega) (fun e => by have := ((hl3.quiet q4).blk_ge e).1; omega), q4.2 _ (by have := q2.1; have := q3.1; omega), q3.2 _ (by have := q2.1; omega)]
    refine Hold.mk ⟨(off + n - min p.to (off + n)).toNat, by omega, min p.to (off + n), l ++ [(idxP at_ m.ps, p.node, at_, min p.to (off + n))], u4, by omega, by omega, rfl, q5, by have := q2.1; have := q3.1; omega, gk4.trans gk2, ?_, ?_, ?_⟩
    · rw [mkParts, List.map_append, List.map_cons, List.map_nil]; simp only; rw [hG]; exact hl4
    · rw [Nat.zero_add] at hseg; simpa using hseg
    · simp only [go_sem, simprocAttr, r1, r2, r3, r4]
  · have : at_ = off + n := by omega
    subst this
    rw [segs_nil _ _ (Int.le_refl _), List.append_nil] at hseg
    simp only [go_sem, simprocAttr, r9]
    rw [← hseg]
    exact ⟨qk, hl1.mono (by omega) (Nat.le_refl _) (fun j hj _ _ => ⟨by omega, rfl⟩) (fun _ _ _ => rfl)⟩


/-- What is wrong with a request. -/
def SMap.err (m : SMap) (o : Op) : Int := if m.right then (if o.right m.n then 0 else 9) else 1

theorem right_ok {m : SMap} {o : Op} {d : Value} (hd : IsSl rPiece S h m.ps v) (hod : Words S h o.data d) : Does Tryz.prog 87 #[mapV m v, opV o d] h (fun u h' => u = .int .i64 (m.err o) ∧ h.quiet h') := by
  obtain ⟨a, c, rfl⟩ := hd.shape
  obtain ⟨a2, c2, rfl⟩ := hod.shape
  refine spec_go mixed Tryz.func87 rfl Tryz.results87 (n := Tryz.f87.ntmps) (by kernel_rfl) (by simp) ?_
  simp only [go_sem, simprocAttr]
  refine cl_gen fun h1 e1 => ?_
  have q1 : h.quiet h1 := by rw [e1]; simp only [go_sem, simprocAttr]
  have g2 : h1.get h.next = .cells [.int .i64 m.ver, .int .i64 m.n, .slice a m.ps.length c] .rw := by rw [e1]; simp only [go_sem, simprocAttr]
  have g3 : h1.get (h.next + 1) = .cells [.int .i64 o.kind, .int .i64 o.off, .int .i64 o.len, .slice a2 o.data.length c2] .rw := by rw [e1]; simp only [go_sem, simprocAttr]
  have l2 : h.next < h1.next := by rw [e1]; simp; omega
  have l3 : h.next + 1 < h1.next := by rw [e1]; simp
  clear e1
  refine cl_spec (sRight_ok (hd.quiet q1)) (fun _ _ _ hc => absurd hc (by decide +kernel)) ?_
  rintro u k ⟨rfl, q2⟩
  have q3 := q1.trans q2
  rw [← q2.2 _ l2] at g2
  rw [← q2.2 _ l3] at g3
  by_cases hr : m.right
  · simp only [go_sem, simprocAttr, hr, decide_true, g2, g3]
    refine cl_spec (bRight_ok (hod.quiet q3)) (fun _ _ _ hc => absurd hc (by decide +kernel)) ?_
    rintro u k1 ⟨rfl, q4⟩
    by_cases ho : o.right m.n
    · simp only [go_sem, simprocAttr, ho, decide_true, SMap.err, hr]
      exact q3.trans q4
    · simp only [go_sem, simprocAttr, ho, decide_false, SMap.err, hr]
      exact q3.trans q4
  · simp only [go_sem, simprocAttr, hr, decide_false, SMap.err]
    exact q3

/-- What of an op lies in some blocks. -/
def Op.cut (o : Op) (f k : Int) : Op := if o.kind = 1 then ⟨1, f, 0, (o.data.drop (f - o.off).toNat).take k.toNat⟩ else ⟨o.kind, f, k, []⟩

theorem OwnSl.nil (k : IntKind) (S : Nat → Prop) (h : AHeap) : OwnSl k S h [] (.slice none 0 0) := ⟨none, rfl, by simp, by simp, .inl ⟨rfl, fun _ e => by cases e⟩⟩

theorem opsF_ok {o : Op} {d : Value} {n : Int} {bo bf : Nat} (hod : Words S h o.data d) (ho : o.right n) (gb : h.get bo = .cells (opC o d) .rw) (gf : h.get bf = .cells [.int .i64 o.range.1] .rw) :
    Makes h 103 #[.pointer (some ⟨bo, 0, none⟩), .pointer (some ⟨bf, 0, none⟩)] o.range.1 o.range.2 o.cut := by
  intro f k h' h1 h2 h3 q
  obtain ⟨a, c, rfl⟩ := hod.shape
  have hl := hod.len
  have lo : bo < h.next := AHeap.lt_of_alive h (by rw [gb]; simp)
  have lf : bf < h.next := AHeap.lt_of_alive h (by rw [gf]; simp)
  rw [← q.2 _ lo] at gb
  rw [← q.2 _ lf] at gf
  replace lo : bo < h'.next := AHeap.lt_of_alive h' (by rw [gb]; simp)
  replace lf : bf < h'.next := AHeap.lt_of_alive h' (by rw [gf]; simp)
  obtain ⟨n0, n1, r0, r1, r2⟩ := Op.range_right ho
  refine spec_go mixed Tryz.func103 rfl Tryz.results103 (n := Tryz.f103.ntmps) (by kernel_rfl) (by simp) ?_
  rcases ho.2 with ⟨k2, d0, _⟩ | ⟨k1, l0, _⟩
  · simp only [go_sem, simprocAttr, AHeap.get_push_lt _ _ lo, gb, k2]
    have ec : o.cut f k = ⟨2, f, k, []⟩ := by unfold Op.cut; rw [if_neg (by omega), k2]
    rw [ec]
    refine ⟨.slice none 0 0, rfl, ⟨by unfold inI; simp only; omega, by unfold inI; simp only; omega, by unfold inI; simp only; omega⟩, OwnSl.nil _ _ _⟩
  · rw [Op.range1 k1] at *
    simp only at h1 h2 h3 r0 r1 r2 gf
    have e1 : IntKind.i64.wrap (f - o.off) = f - o.off := by rw [wi64] <;> omega
    have e2 : IntKind.i64.wrap (f - o.off + k) = f - o.off + k := by rw [wi64] <;> omega
    have ec : o.cut f k = ⟨1, f, 0, (o.data.drop (f - o.off).toNat).take k.toNat⟩ := by unfold Op.cut; rw [if_pos k1]
    rw [ec]
    generalize hH : h'.push (.cells [.int .i64 0, .int .i64 0, .int .i64 0, .slice none 0 0] .rw) = H
    have qH : h'.quiet H := by rw [← hH]; exact .push _ _
    have nH : H.next = h'.next + 1 := by rw [← hH]; simp
    have gH : H.get h'.next = .cells [.int .i64 0, .int .i64 0, .int .i64 0, .slice none 0 0] .rw := by rw [← hH]; simp
    obtain ⟨a', c', es, hs⟩ := ((hod.quiet q).quiet qH).sliceI 1 rfl (l := f - o.off) (m := f - o.off + k) (by omega) (by omega) (by omega)
    rw [show (f - o.off + k).toNat - (f - o.off).toNat = k.toNat by omega] at es hs
    have gbH : H.get bo = _ := (qH.2 _ lo).trans gb
    have gfH : H.get bf = _ := (qH.2 _ lf).trans gf
    simp only [go_sem, simprocAttr, gbH, gfH, k1, e1, e2, es, hH]
    refine cl_spec (cloneW_ok hs (by simp; omega)) (fun _ _ _ hc => absurd hc (by decide +kernel)) ?_
    rintro u k2 ⟨q2, hl2⟩
    have g2 : k2.get h'.next = _ := (q2.2 _ (by omega)).trans gH
    have hown := hl2.own (S := (H.next ≤ ·)) (fun j hj => hj)
    obtain ⟨ad, rfl⟩ := hown.shape
    have lk2 : h'.next < k2.next := by have := q2.1; omega
    simp only [go_sem, simprocAttr, g2, AHeap.get_set_self _ _ lk2]
    refine ⟨(qH.trans q2).set' (Nat.le_refl _) _, _, rfl, ⟨by unfold inI; simp only; omega, by unfold inI; simp only; omega, by unfold inI; simp only; omega⟩, hown.mono fun j hj _ => ⟨by omega, AHeap.get_set_ne _ _ (by omega)⟩⟩


/-- The parts of a request. -/
def SMap.parts (m : SMap) (o : Op) : List Part := mkParts o.cut (segs 0 m.ps o.range.1 (o.range.1 + o.range.2))
def SMap.ops (m : SMap) (o : Op) : List Part := if m.right ∧ o.right m.n then m.parts o else []
/-- Parts that were made. -/
def Parts (h h' : AHeap) (l : List Part) (u : Value) : Prop := Lst rPartO h.next (h.next ≤ ·) h' l u

theorem ops_ok {m : SMap} {o : Op} {d : Value} (hd : IsSl rPiece S h m.ps v) (hod : Words S h o.data d) : Does Tryz.prog 53 #[mapV m v, opV o d] h
      (fun u h' => h.quiet h' ∧ ∃ w, u = .tuple #[w, .int .i64 (m.err o)] ∧ Parts h h' (m.ops o) w) := by
  obtain ⟨a, c, rfl⟩ := hd.shape
  obtain ⟨a2, c2, rfl⟩ := hod.shape
  refine spec_go mixed Tryz.func53 rfl Tryz.results53 (n := Tryz.f53.ntmps) (by kernel_rfl) (by simp) ?_
  simp only [go_sem, simprocAttr]
  refine cl_gen fun h1 e1 => ?_
  have q1 : h.quiet h1 := by rw [e1]; simp only [go_sem, simprocAttr]
  have g2 : h1.get h.next = .cells [.int .i64 m.ver, .int .i64 m.n, .slice a m.ps.length c] .rw := by rw [e1]; simp only [go_sem, simprocAttr]
  have g3 : h1.get (h.next + 1) = .cells [.int .i64 o.kind, .int .i64 o.off, .int .i64 o.len, .slice a2 o.data.length c2] .rw := by rw [e1]; simp only [go_sem, simprocAttr]
  have l2 : h.next < h1.next := by rw [e1]; simp; omega
  have l3 : h.next + 1 < h1.next := by rw [e1]; simp
  clear e1
  refine cl_spec (right_ok (hd.quiet q1) (hod.quiet q1)) (fun _ _ _ hc => absurd hc (by decide +kernel)) ?_
  rintro u k ⟨rfl, q2⟩
  have q3 := q1.trans q2
  rw [← q2.2 _ l2] at g2
  rw [← q2.2 _ l3] at g3
  replace l2 : h.next < k.next := AHeap.lt_of_alive k (by rw [g2]; simp)
  replace l3 : h.next + 1 < k.next := AHeap.lt_of_alive k (by rw [g3]; simp)
  by_cases hr : m.right ∧ o.right m.n
  · have ee : m.err o = 0 := by unfold SMap.err; rw [if_pos hr.1, if_pos hr.2]
    rw [ee]
    simp only [go_sem, simprocAttr, g2, g3]
    refine cl_spec (Range_ok (hod.quiet q3)) (fun _ _ _ hc => absurd hc (by decide +kernel)) ?_
    rintro u k1 ⟨rfl, q4⟩
    have q5 := q3.trans q4
    rw [← q4.2 _ l2] at g2
    rw [← q4.2 _ l3] at g3
    replace l2 : h.next < k1.next := AHeap.lt_of_alive k1 (by rw [g2]; simp)
    replace l3 : h.next + 1 < k1.next := AHeap.lt_of_alive k1 (by rw [g3]; simp)
    simp only [go_sem, simprocAttr, AHeap.get_push_lt _ _ l2, g2, AHeap.get_push_self, AHeap.get_set_self _ _ (show k1.next < (k1.push (.cells [.int .i64 0] .rw)).next by simp)]
    have q6 := AHeap.quiet.push k1 (.cells [.int .i64 o.range.1] .rw)
    obtain ⟨n0, n1, r0, r1, r2⟩ := Op.range_right hr.2
    have hF := opsF_ok (h := k1.push (.cells [.int .i64 o.range.1] .rw)) (bo := h.next + 1) (bf := k1.next) ((hod.quiet q5).quiet q6) hr.2 (by rw [AHeap.get_push_lt _ _ l3]; exact g3) (by simp)
    refine cl_spec (cut_ok ((hd.quiet q5).quiet q6) hr.1 r0 r1 r2 hF) (fun u h' hp _ => hp.1) ?_
    rintro u k2 ⟨q7, hl⟩
    have q8 := (q5.trans q6).trans q7
    simp only [go_sem, simprocAttr]
    refine ⟨q8, u, rfl, ?_⟩
    unfold SMap.ops
    rw [if_pos hr]
    exact hl.mono (Nat.le_trans q5.1 q6.1) (Nat.le_refl _) (fun j hj _ _ => ⟨Nat.le_trans (Nat.le_trans q5.1 q6.1) hj, rfl⟩) (fun _ _ _ => rfl)
  · have ee : m.err o ≠ 0 := by unfold SMap.err; by_cases h1 : m.right <;> by_cases h2 : o.right m.n <;> simp_all
    simp only [go_sem, simprocAttr, ee]
    refine ⟨q3, _, rfl, ?_⟩
    unfold SMap.ops
    rw [if_neg hr]
    exact Lst.nil _ _ _ _

theorem readsF_ok (h : AHeap) (off n : Int) (h0 : 0 ≤ off) (h1 : off + n ≤ 1024) : Makes h 89 #[] off n (Op.cut ⟨0, off, n, []⟩) := by
  intro f k h' k1 k2 k3 q
  refine spec_go mixed Tryz.func89 rfl Tryz.results89 (n := Tryz.f89.ntmps) (by kernel_rfl) (by simp) ?_
  simp only [go_sem, simprocAttr]
  refine ⟨.slice none 0 0, rfl, ⟨by unfold inI Op.cut; simp, by unfold inI Op.cut; simp; omega, by unfold inI Op.cut; simp; omega⟩, OwnSl.nil _ _ _⟩

/-- What is read, as an op. -/
abbrev rdOp (off n : Int) : Op := ⟨2, off, n, []⟩
def SMap.reads (m : SMap) (off n : Int) : List Part := if m.right ∧ (rdOp off n).right m.n then mkParts (Op.cut ⟨0, off, n, []⟩) (segs 0 m.ps off (off + n)) else []

theorem reads_ok {m : SMap} {off n : Int} (hd : IsSl rPiece S h m.ps v) : Does Tryz.prog 41 #[mapV m v, .int .i64 off, .int .i64 n] h
      (fun u h' => h.quiet h' ∧ ∃ w, u = .tuple #[w, .int .i64 (m.err (rdOp off n))] ∧ Parts h h' (m.reads off n) w) := by
  obtain ⟨a, c, rfl⟩ := hd.shape
  refine spec_go mixed Tryz.func41 rfl Tryz.results41 (n := Tryz.f41.ntmps) (by kernel_rfl) (by simp) ?_
  simp only [go_sem, simprocAttr]
  refine cl_gen fun h1 e1 => ?_
  obtain ⟨g2, l2, q1⟩ := AHeap.quiet.box (h := h) (k := h1) (by rw [e1]; exact .refl _)
  clear e1
  refine cl_spec (right_ok (o := rdOp off n) (d := .slice none 0 0) (S := S) (hd.quiet q1) (.nil _ _ _)) (fun _ _ _ hc => absurd hc (by decide +kernel)) ?_
  rintro u k ⟨rfl, q2⟩
  have q3 := q1.trans q2
  rw [← q2.2 _ l2] at g2
  by_cases hr : m.right ∧ (rdOp off n).right m.n
  · have ee : m.err (rdOp off n) = 0 := by unfold SMap.err; rw [if_pos hr.1, if_pos hr.2]
    rw [ee]
    obtain ⟨n0, n1, r0, r1, r2⟩ := Op.range_right hr.2
    rw [Op.range2 rfl] at r0 r1 r2
    simp only at r0 r1 r2
    simp only [go_sem, simprocAttr, g2]
    refine cl_spec (cut_ok (hd.quiet q3) hr.1 r0 r1 r2 (readsF_ok k off n r0 (by omega))) (fun u h' hp _ => hp.1) ?_
    rintro u k2 ⟨q7, hl⟩
    simp only [go_sem, simprocAttr]
    refine ⟨q3.trans q7, u, rfl, ?_⟩
    unfold SMap.reads
    rw [if_pos hr]
    exact hl.mono q3.1 (Nat.le_refl _) (fun j hj _ _ => ⟨Nat.le_trans q3.1 hj, rfl⟩) (fun _ _ _ => rfl)
  · have ee : m.err (rdOp off n) ≠ 0 := by unfold SMap.err; by_cases h1 : m.right <;> by_cases h2 : (rdOp off n).right m.n <;> simp_all
    simp only [go_sem, simprocAttr, ee]
    refine ⟨q3, _, rfl, ?_⟩
    unfold SMap.reads
    rw [if_neg hr]
    exact Lst.nil _ _ _ _

end

theorem segs_mem : ∀ {ps : List Piece} {k : Nat} {a b : Int} {s : Nat × Int × Int × Int}, s ∈ segs k ps a b → ∃ p, k ≤ s.1 ∧ ps[s.1 - k]? = some p ∧ s.2.1 = p.node ∧ s.2.2.1 = max p.frm a ∧ s.2.2.2 = min p.to b ∧ s.2.2.1 < s.2.2.2
  | [], k, a, b, s, h => by simp [segs] at h
  | p :: ps, k, a, b, s, h => by
    have tl : s ∈ segs (k + 1) ps a b → ∃ p', k ≤ s.1 ∧ (p :: ps)[s.1 - k]? = some p' ∧ s.2.1 = p'.node ∧ s.2.2.1 = max p'.frm a ∧ s.2.2.2 = min p'.to b ∧ s.2.2.1 < s.2.2.2 := fun h => by
      obtain ⟨q, k1, k2, k3⟩ := segs_mem h
      refine ⟨q, by omega, ?_, k3⟩
      rw [show s.1 - k = (s.1 - (k + 1)) + 1 by omega]; simpa using k2
    rw [segs] at h
    split at h
    · rename_i hc
      rcases List.mem_cons.1 h with rfl | h
      · exact ⟨p, Nat.le_refl _, by simp, rfl, rfl, rfl, hc⟩
      · exact tl h
    · exact tl h
theorem segs_sorted : ∀ (ps : List Piece) (k : Nat) (a b : Int), (segs k ps a b).Pairwise fun x y => x.1 < y.1
  | [], k, a, b => .nil
  | p :: ps, k, a, b => by
    rw [segs]
    split
    · refine .cons (fun y hy => ?_) (segs_sorted ps _ a b)
      obtain ⟨q, k1, _⟩ := segs_mem hy
      simp only; omega
    · exact segs_sorted ps _ a b
theorem chain_uniq : ∀ {ps : List Piece} {c n f : Int} {i : Nat} {p : Piece}, chain c ps n → ps[i]? = some p → p.frm ≤ f → f < p.to → idxP f ps = i ∧ c ≤ f ∧ f < n ∧ c ≤ p.frm ∧ p.to ≤ n
  | [], c, n, f, i, p, h, hi, _, _ => by simp at hi
  | q :: ps, c, n, f, i, p, h, hi, h1, h2 => by
    obtain ⟨k1, k2, k3, k4⟩ := h
    have := chain_le k4
    rw [idxP_cons]
    cases i with
    | zero => simp only [List.getElem?_cons_zero, Option.some.injEq] at hi; subst hi; rw [if_pos h2]; omega
    | succ i =>
      obtain ⟨l1, l2, l3, l4, l5⟩ := chain_uniq k4 (by simpa using hi) h1 h2
      rw [if_neg (by omega), l1]; omega
theorem cut_range {o : Op} {n : Int} (ho : o.right n) {f t : Int} (h1 : o.range.1 ≤ f) (h2 : f < t) (h3 : t ≤ o.range.1 + o.range.2) : (o.cut f (t - f)).range = (f, t - f) := by
  unfold Op.cut
  rcases ho.2 with ⟨e, _⟩ | ⟨e, _⟩
  · rw [if_neg (by omega)]; exact Op.range2 e
  · rw [Op.range1 e] at h1 h3
    rw [if_pos e, Op.range1 rfl]
    simp at h3 ⊢; omega

/-- What a part of an op is. -/
theorem part_is {m : SMap} {o : Op} (hr : m.right) (ho : o.right m.n) {q : Part} {j : Nat} (hj : (m.parts o)[j]? = some q) :
    ∃ (i : Nat) (p : Piece) (f t : Int), q.piece = i ∧ m.ps[i]? = some p ∧ q.node = p.node ∧ p.frm ≤ f ∧ f < t ∧ t ≤ p.to ∧ q.op = o.cut f (t - f) ∧ q.op.range = (f, t - f) ∧ idxP f m.ps = i ∧ 0 ≤ f ∧ t ≤ m.n ∧ o.range.1 ≤ f ∧ t ≤ o.range.1 + o.range.2 := by
  unfold SMap.parts mkParts at hj
  rw [List.getElem?_map, Option.map_eq_some_iff] at hj
  obtain ⟨s, hs, rfl⟩ := hj
  obtain ⟨p, _, h2, h3, h4, h5, h6⟩ := segs_mem (List.mem_of_getElem? hs)
  rw [Nat.sub_zero] at h2
  obtain ⟨n0, n1, r0, r1, r2⟩ := Op.range_right ho
  obtain ⟨u1, u2, u3, u4, u5⟩ := chain_uniq hr.2 h2 (f := s.2.2.1) (by omega) (by omega)
  exact ⟨s.1, p, s.2.2.1, s.2.2.2, rfl, h2, h3, by omega, h6, by omega, rfl, cut_range ho (by omega) h6 (by omega), u1, by omega, by omega, by omega, by omega⟩
theorem parts_up {m : SMap} {o : Op} {q r : Part} {i j : Nat} (hi : (m.parts o)[i]? = some q) (hj : (m.parts o)[j]? = some r) (h : i < j) : q.piece < r.piece := by
  unfold SMap.parts mkParts at hi hj
  rw [List.getElem?_map, Option.map_eq_some_iff] at hi hj
  obtain ⟨s, hs, rfl⟩ := hi
  obtain ⟨t, ht, rfl⟩ := hj
  obtain ⟨hs1, hs2⟩ := List.getElem?_eq_some_iff.1 hs
  obtain ⟨ht1, ht2⟩ := List.getElem?_eq_some_iff.1 ht
  have := List.pairwise_iff_getElem.1 (segs_sorted m.ps 0 o.range.1 (o.range.1 + o.range.2)) i j hs1 ht1 h
  rw [hs2, ht2] at this
  exact Int.ofNat_lt.2 this

theorem ops_len (m : SMap) (o : Op) : (m.ops o).length ≤ 16 := by
  unfold SMap.ops
  split
  · rename_i hr; have := segs_len m.ps 0 o.range.1 (o.range.1 + o.range.2); have := hr.1.1; simp [SMap.parts, mkParts]; omega
  · simp
theorem reads_len (m : SMap) (off n : Int) : (m.reads off n).length ≤ 16 := by
  unfold SMap.reads
  split
  · rename_i hr; have := segs_len m.ps 0 off (off + n); have := hr.1.1; simp [mkParts]; omega
  · simp
theorem Parts.sl {h h' : AHeap} {l : List Part} {u : Value} (hp : Parts h h' l u) : IsSl rPart (fun _ => True) h' l u := (hp.isSl (fun _ _ _ => trivial) (fun _ _ => trivial)).imp rPartO_imp

theorem putCells_eq (c vs : List Value) (o : Nat) (h : o + vs.length ≤ c.length) : putCells c o vs = c.take o ++ vs ++ c.drop (o + vs.length) := by
  have e : c = c.take o ++ (c.drop o) := (List.take_append_drop _ _).symm
  have hl : (c.take o).length = o := by simp; omega
  have e2 : c.drop o = (c.drop o).take vs.length ++ c.drop (o + vs.length) := by rw [← List.drop_drop]; exact (List.take_append_drop _ _).symm
  conv => lhs; rw [e]
  rw [putCells_append [] _ _ _ _ (by omega), hl, Nat.sub_self]
  conv => lhs; rw [e2]
  rw [putCells_le _ _ _ _ (by simp; omega)]
  have := putCells_all vs [] ((c.drop o).take vs.length) (by simp; omega)
  simp only [List.length_nil, List.nil_append] at this
  rw [this, List.append_assoc]

/-- A list with room behind it: so many places, the first of them these numbers. -/
def LstC (lo : Nat) (h : AHeap) (xs : List Nat) (cap : Nat) (v : Value) : Prop :=
  xs.length ≤ cap ∧ (∀ x ∈ xs, (x : Int) ≤ IntKind.u64.max) ∧ ((cap = 0 ∧ v = .slice none 0 0) ∨ ∃ ob c, v = .slice (some ⟨ob, 0, some 1⟩) xs.length cap ∧ lo ≤ ob ∧ h.get ob = .cells c (.tail 1) ∧ c.length = cap ∧ c.take xs.length = xs.map fun n => .int .u64 (n : Nat))

section
variable {h : AHeap} {S : Nat → Prop}

theorem LstC.isSl {lo : Nat} {xs : List Nat} {cap : Nat} {v : Value} (hl : LstC lo h xs cap v) (h62 : cap ≤ 281474976710656) : IsSl rW (lo ≤ ·) h xs v := by
  obtain ⟨h1, h2, ⟨rfl, rfl⟩ | ⟨ob, c, rfl, h3, h4, h5, h6⟩⟩ := hl
  · have : xs = [] := List.eq_nil_of_length_eq_zero (by omega)
    subst this; exact .nil _ _ _
  · refine ⟨_, _, _, rfl, h1, by omega, (fun h => by cases h), (fun ad h => by cases h; exact .inr rfl), nat_all2 h2, fun _ => ⟨_, _, _, rfl, h3, h4, ?_, ?_⟩⟩
    · show 0 + xs.length * 1 ≤ c.length; omega
    · show (c.drop 0).take (xs.length * 1) = _
      rw [List.drop_zero, Nat.mul_one, h6, nat_flat]

theorem LstC.app {lo : Nat} {xs ys : List Nat} {cap : Nat} {v : Value} (hl : LstC lo h xs cap v) (hy : ∀ y ∈ ys, (y : Int) ≤ IntKind.u64.max) (hc : xs.length + ys.length ≤ cap) :
    ∃ v' h', aappend h 1 8 v ys.length (ys.map fun n => .int .u64 (n : Nat)) = some (v', h') ∧ LstC lo h' (xs ++ ys) cap v' ∧ Fw (lo ≤ ·) h h' := by
  obtain ⟨h1, h2, ⟨rfl, rfl⟩ | ⟨ob, c, rfl, h3, h4, h5, h6⟩⟩ := hl
  · have hx : xs = [] := List.eq_nil_of_length_eq_zero (by omega)
    have hys : ys = [] := List.eq_nil_of_length_eq_zero (by omega)
    subst hx hys
    exact ⟨_, _, by rw [aappend_nil, if_pos List.length_nil], ⟨Nat.le_refl _, by simp, .inl ⟨rfl, rfl⟩⟩, .refl _ _⟩
  · by_cases hn0 : ys.length = 0
    · have hys : ys = [] := List.eq_nil_of_length_eq_zero hn0
      subst hys
      exact ⟨.slice (some ⟨ob, 0, some 1⟩) xs.length cap, h, by rw [aappend_u, if_pos List.length_nil], ⟨by simpa using h1, by simpa using h2, .inr ⟨ob, c, by simp, h3, h4, h5, by simpa using h6⟩⟩, .refl _ _⟩
    · have hlt : ob < h.next := AHeap.lt_of_alive h (by rw [h4]; simp)
      refine ⟨_, _, by rw [aappend_u, if_neg hn0, if_pos hc, h4, appIn_cells, if_pos ⟨by simp, by omega⟩], ⟨by simpa using hc, ?_, .inr ⟨ob, _, by simp, h3, AHeap.get_set_self _ _ hlt, ?_, ?_⟩⟩, ?_⟩
      · intro x hx
        rcases List.mem_append.1 hx with hx | hx
        · exact h2 x hx
        · exact hy x hx
      · rw [length_putCells]; exact h5
      · rw [putCells_eq _ _ _ (by simp; omega), Nat.zero_add, Nat.mul_one, List.length_append, List.take_append_of_le_length (by simp; omega), List.take_of_length_le (by simp; omega), h6, List.map_append]
      · exact (Fw.set _).mono fun j _ e => by subst e; exact h3

theorem Grow_ok {n : Nat} (hn : n ≤ 1099511627776) : Does Tryz.prog 130 #[.slice none 0 0, .int .i64 n] h (fun u h' => h.quiet h' ∧ LstC h.next h' [] n u) := by
  have e1 : IntKind.i64.wrap ((n : Int) - IntKind.i64.wrap 0) = n := by
    rw [show IntKind.i64.wrap 0 = 0 from rfl, wi64] <;> omega
  have e0 : ¬ ((n : Int) < 0) := by omega
  refine spec_go mixed Tryz.func130 rfl Tryz.results130 (n := Tryz.f130.ntmps) (by kernel_rfl) (by simp) ?_
  simp only [go_sem, simprocAttr, e0, e1, decide_false]
  by_cases hn0 : (0 : Int) < n
  · have b1 : (n : Int) * 8 ≤ 140737488355328 := by omega
    have b2 : (n : Int) ≤ 4611686018427387904 := by omega
    simp only [go_sem, simprocAttr, hn0, decide_true, b1, b2]
    exact ⟨Nat.zero_le _, by simp, .inr ⟨h.next, azeros [.int .u64 0] n, by simp, Nat.le_refl _, by simp, by simp [azeros], rfl⟩⟩
  · have : n = 0 := by omega
    subst this
    simp only [go_sem, simprocAttr, hn0, decide_false]
    exact ⟨Nat.le_refl _, by simp, .inl ⟨rfl, rfl⟩⟩

theorem sum_take (ls : List (List Nat)) {i : Nat} {x : List Nat} (hi : ls[i]? = some x) : (ls.take (i + 1)).flatten = (ls.take i).flatten ++ x := by
  rw [List.take_add_one, hi]; simp
theorem flat_take_le (ls : List (List Nat)) (i : Nat) : (ls.take i).flatten.length ≤ ls.flatten.length := by
  conv => rhs; rw [← List.take_append_drop i ls, List.flatten_append, List.length_append]
  omega

theorem Concat_ok {ls : List (List Nat)} {v : Value} (hx : IsSl (Rep.list rW) S h ls v) (hn : ls.flatten.length ≤ 1099511627776) : Does Tryz.prog 95 #[v] h (fun u h' => h.quiet h' ∧ Words (h.next ≤ ·) h' ls.flatten u) := by
  obtain ⟨a, c, rfl⟩ := hx.shape
  have hl := hx.len
  refine spec_go mixed Tryz.func95 rfl Tryz.results95 (n := Tryz.f95.ntmps) (by kernel_rfl) (by simp) ?_
  simp only [go_sem, simprocAttr]
  refine go_loop (fun z ρ k => ∃ i : Nat, i ≤ ls.length ∧ z = ls.length - i ∧ k = h ∧ ρ 0 = .slice a ls.length c ∧ ρ 3 = .int .i64 ((ls.take i).flatten.length : Nat) ∧ ρ 9 = .slice a ls.length c ∧ ρ 10 = .int .i64 ls.length ∧ ρ 11 = .int .i64 i) ls.length
    ⟨0, by omega, by omega, rfl, by simp only [go_sem, simprocAttr]; simp⟩ ?_
  rintro z ρ k ⟨i, hi, rfl, rfl, r0, r3, r9, r10, r11⟩
  simp only [go_sem, simprocAttr, r0, r3, r9, r10, r11]
  refine cnd_decide (fun hx' => ?_) (fun hx' => ?_)
  · have h1 : i < ls.length := by omega
    obtain ⟨b, off, sp, cc, md, x, u, rfl, _, hg, hxi, hxu, hc⟩ := hx.atL h1
    obtain ⟨ax, cx, rfl⟩ := hxu.shape
    have e9 : IntKind.i64.wrap ((i : Int) + 1) = ((i + 1 : Nat) : Int) := by rw [wi64] <;> omega
    have ht := congrArg List.length (sum_take ls hxi)
    rw [List.length_append] at ht
    have hb := flat_take_le ls (i + 1)
    have e3 : IntKind.i64.wrap (((ls.take i).flatten.length : Nat) + (x.length : Nat) : Int) = ((ls.take (i + 1)).flatten.length : Nat) := by rw [wi64] <;> omega
    simp only [go_sem, simprocAttr, r0, r3, r9, r10, r11, h1, hg, hc, e3, e9]
    exact Hold.mk ⟨ls.length - (i + 1), by omega, i + 1, by omega, rfl, rfl, by simp only [go_sem, simprocAttr, r0, r9, r10]⟩
  · have : i = ls.length := by omega
    subst this
    rw [List.take_length] at r3
    simp only [go_sem, simprocAttr, r0, r3]
    refine cl_spec (Grow_ok hn) (fun _ _ _ hc => absurd hc (by decide +kernel)) ?_
    rintro u k1 ⟨q1, hl1⟩
    simp only [go_sem, simprocAttr, r0]
    refine go_loop (fun z ρ k2 => ∃ (i : Nat) (u : Value), i ≤ ls.length ∧ z = ls.length - i ∧ k.quiet k2 ∧ LstC k.next k2 (ls.take i).flatten ls.flatten.length u ∧ ρ 6 = u ∧ ρ 25 = .slice a ls.length c ∧ ρ 26 = .int .i64 ls.length ∧ ρ 27 = .int .i64 i) ls.length
      ⟨0, u, by omega, by omega, q1, by simpa using hl1, by simp only [go_sem, simprocAttr]⟩ ?_
    rintro z ρ k2 ⟨i, u, hi, rfl, qk, hl2, r6, r25, r26, r27⟩
    simp only [go_sem, simprocAttr, r6, r25, r26, r27]
    refine cnd_decide (fun hx' => ?_) (fun hx' => ?_)
    · have h1 : i < ls.length := by omega
      obtain ⟨b, off, sp, cc, md, x, xu, rfl, _, hg, hxi, hxu, hc⟩ := (hx.quiet qk).atL h1
      obtain ⟨ax, cx, rfl⟩ := hxu.shape
      have e9 : IntKind.i64.wrap ((i : Int) + 1) = ((i + 1 : Nat) : Int) := by rw [wi64] <;> omega
      have ht := congrArg List.length (sum_take ls hxi)
      rw [List.length_append] at ht
      have hb := flat_take_le ls (i + 1)
      obtain ⟨u4, k4, e4, hl4, hf4⟩ := hl2.app (ys := x) (fun n hn => by have := hxu.vals rfl n hn; exact this) (by omega)
      simp only [go_sem, simprocAttr, r6, r25, r26, r27, h1, hg, hc, hxu.acellsN, e4, e9]
      refine Hold.mk ⟨ls.length - (i + 1), by omega, i + 1, u4, by omega, rfl, Fw.behind qk hf4 (fun j e => e), ?_, by simp only [go_sem, simprocAttr, r25, r26]⟩
      rw [sum_take ls hxi]; exact hl4
    · have : i = ls.length := by omega
      subst this
      rw [List.take_length] at hl2
      simp only [go_sem, simprocAttr, r6]
      exact ⟨qk, hl2.isSl (by omega)⟩
end

def lensP (l : List Part) : List Int := l.map fun p => p.op.len
def lensD (l : List (List Nat)) : List Int := l.map fun d => (d.length : Int)

section
variable {h : AHeap} {S S' : Nat → Prop}

def partV (p : Part) (d : Value) : Value := .agg #[.int .i64 p.piece, .int .i64 p.node, .int .i64 p.op.kind, .int .i64 p.op.off, .int .i64 p.op.len, d]
attribute [go_sem] partV
theorem take_eq_step {α : Type} {xs ys : List α} {i : Nat} {x y : α} (h : xs.take i = ys.take i) (hx : xs[i]? = some x) (hy : ys[i]? = some y) : (x = y → xs.take (i + 1) = ys.take (i + 1)) ∧ (x ≠ y → xs ≠ ys) := by
  refine ⟨fun e => by rw [List.take_add_one, List.take_add_one, h, hx, hy, e], fun hn e => hn ?_⟩
  subst e; rw [hx] at hy; exact Option.some.inj hy
theorem eqLens_ok {ps : List Part} {ds : List (List Nat)} {v w : Value} (hx : IsSl rPart S h ps v) (hy : IsSl (Rep.list rW) S' h ds w) :
    Does Tryz.prog 93 #[v, w, .func (.func 94) #[] #[]] h (fun u h' => u = .bool (decide (lensP ps = lensD ds)) ∧ h.quiet h') := by
  obtain ⟨a, c, rfl⟩ := hx.shape
  obtain ⟨a2, c2, rfl⟩ := hy.shape
  have l1 := hx.len
  have ll : lensP ps = lensD ds → ps.length = ds.length := fun e => by have := congrArg List.length e; simpa [lensP, lensD] using this
  refine spec_go mixed Tryz.func93 rfl Tryz.results93 (n := Tryz.f93.ntmps) (by kernel_rfl) (by simp) ?_
  simp only [go_sem, simprocAttr]
  by_cases hl : ps.length = ds.length
  · have hl' : ((ps.length : Nat) : Int) = ds.length := by omega
    simp only [go_sem, simprocAttr, hl', decide_true]
    refine go_loop (fun z ρ k => ∃ i : Nat, i ≤ ps.length ∧ z = ps.length - i ∧ h.quiet k ∧ (lensP ps).take i = (lensD ds).take i ∧ ρ 1 = .slice a2 ds.length c2 ∧ ρ 2 = .func (.func 94) #[] #[] ∧ ρ 15 = .slice a ps.length c ∧ ρ 16 = .int .i64 ds.length ∧ ρ 17 = .int .i64 i) ps.length ⟨0, by omega, by omega, .refl _, rfl, by simp only [go_sem, simprocAttr, hl']⟩ ?_
    rintro z ρ k ⟨i, hi, rfl, qk, ht, r1, r2, r15, r16, r17⟩
    simp only [go_sem, simprocAttr, r1, r2, r15, r16, r17]
    refine cnd_decide (fun hx' => ?_) (fun hx' => ?_)
    · have h1 : i < ps.length := by omega
      have h2 : i < ds.length := by omega
      obtain ⟨b, off, sp, cc, md, x, dx, rfl, _, hg, hxi, hx1, hx2, hxo, hxd, hle, hdt, _⟩ := (hx.quiet qk).atPart h1
      obtain ⟨b2, off2, sp2, cc2, md2, y, dy, rfl, _, hg2, hyi, hyd, hc2⟩ := (hy.quiet qk).atL h2
      have e9 : IntKind.i64.wrap ((i : Int) + 1) = ((i + 1 : Nat) : Int) := by rw [wi64] <;> omega
      have lb2 : b2 < k.next := AHeap.lt_of_alive k (by rw [hg2]; simp)
      obtain ⟨s1, s2⟩ := take_eq_step ht (show (lensP ps)[i]? = some x.op.len by simp [lensP, hxi]) (show (lensD ds)[i]? = some (y.length : Int) by simp [lensD, hyi])
      obtain ⟨ax, cx, rfl⟩ := hxd.shape
      obtain ⟨ay, cy, rfl⟩ := hyd.shape
      simp only [go_sem, simprocAttr, r1, r2, r15, r16, r17, h1, h2, hg, hle, hdt, AHeap.get_push_lt _ _ lb2, hg2, hc2]
      refine cl_gen fun H eH => ?_
      have qH : k.quiet H := by rw [eH]; simp only [go_sem, simprocAttr]
      clear eH
      have one : Does Tryz.prog 94 #[partV x (.slice ax x.op.data.length cx), .slice ay y.length cy] H (fun u h' => u = .bool (decide (x.op.len = y.length)) ∧ H.quiet h') := by
        refine spec_go mixed Tryz.func94 rfl Tryz.results94 (n := Tryz.f94.ntmps) (by kernel_rfl) (by simp) ?_
        simp only [go_sem, simprocAttr]
      refine cl_spec one (fun _ _ _ hc => absurd hc (by decide +kernel)) ?_
      rintro u k2 ⟨rfl, q2⟩
      by_cases e : x.op.len = y.length
      · simp only [go_sem, simprocAttr, r1, r2, r15, r16, r17, decide_eq_true e, e9]
        exact Hold.mk ⟨ps.length - (i + 1), by omega, i + 1, by omega, rfl, (qk.trans qH).trans q2, s1 e, by simp only [go_sem, simprocAttr, r1, r2, r15, r16]⟩
      · simp only [go_sem, simprocAttr, r1, r2, r15, r16, r17, decide_eq_false e]
        exact ⟨congrArg Value.bool (decide_eq_false (s2 e)).symm, (qk.trans qH).trans q2⟩
    · have e1 : i = ps.length := by omega
      rw [List.take_of_length_le (by simp [lensP]; omega), List.take_of_length_le (by simp [lensD]; omega)] at ht
      simp only [go_sem, simprocAttr]
      exact ⟨congrArg Value.bool (decide_eq_true ht).symm, qk⟩
  · have hl' : ¬ ((ps.length : Nat) : Int) = ds.length := by omega
    simp only [go_sem, simprocAttr, hl', decide_false]
    exact congrArg Value.bool (decide_eq_false (fun e => hl (ll e))).symm

/-- What data are together. -/
def SMap.join (m : SMap) (off n : Int) (ds : List (List Nat)) : List Nat × Int :=
  if m.err (rdOp off n) ≠ 0 then ([], m.err (rdOp off n)) else if lensP (m.reads off n) = lensD ds then (ds.flatten, 0) else ([], 5)

theorem join_ok {m : SMap} {off n : Int} {ds : List (List Nat)} {v w : Value} (hd : IsSl rPiece S h m.ps v) (hy : IsSl (Rep.list rW) S' h ds w) (hn : ds.flatten.length ≤ 1099511627776) : Does Tryz.prog 43 #[mapV m v, .int .i64 off, .int .i64 n, w] h
      (fun u h' => h.quiet h' ∧ ∃ x, u = .tuple #[x, .int .i64 (m.join off n ds).2] ∧ Words (h.next ≤ ·) h' (m.join off n ds).1 x) := by
  obtain ⟨a, c, rfl⟩ := hd.shape
  refine spec_go mixed Tryz.func43 rfl Tryz.results43 (n := Tryz.f43.ntmps) (by kernel_rfl) (by simp) ?_
  simp only [go_sem, simprocAttr]
  have q0 := AHeap.quiet.push h (.cells [.int .i64 m.ver, .int .i64 m.n, .slice a m.ps.length c] .rw)
  refine cl_spec (reads_ok (hd.quiet q0)) (fun _ _ _ hc => absurd hc (by decide +kernel)) ?_
  rintro u k1 ⟨q1, w1, rfl, p1⟩
  have Q1 := q0.trans q1
  unfold SMap.join
  by_cases he : m.err (rdOp off n) = 0
  · rw [if_neg (by simpa using he)]
    simp only [go_sem, simprocAttr, he]
    refine cl_spec (eqLens_ok p1.sl (hy.quiet Q1)) (fun _ _ _ hc => absurd hc (by decide +kernel)) ?_
    rintro u k2 ⟨rfl, q2⟩
    by_cases hl : lensP (m.reads off n) = lensD ds
    · rw [if_pos hl]
      simp only [go_sem, simprocAttr, decide_eq_true hl]
      refine cl_spec (Concat_ok (hy.quiet (Q1.trans q2)) hn) (fun _ _ _ hc => absurd hc (by decide +kernel)) ?_
      rintro u k3 ⟨q3, hu⟩
      simp only [go_sem, simprocAttr]
      exact ⟨(Q1.trans q2).trans q3, u, rfl, hu.weaken fun j hj => by have := (Q1.trans q2).1; omega⟩
    · rw [if_neg hl]
      simp only [go_sem, simprocAttr, decide_eq_false hl]
      exact ⟨Q1.trans q2, _, rfl, .nil _ _ _⟩
  · rw [if_pos he]
    simp only [go_sem, simprocAttr, he]
    exact ⟨Q1, _, rfl, .nil _ _ _⟩

/-- What is read of a volume. -/
def readV (xs : List Nat) (off n : Int) : List Nat × Int :=
  if xs.length ≤ 1024 then (if 0 ≤ n ∧ 0 ≤ off ∧ off ≤ xs.length ∧ n ≤ xs.length - off then ((xs.drop off.toNat).take n.toNat, 0) else ([], 1)) else ([], 6)

theorem rRead_ok {xs : List Nat} {v : Value} {off n : Int} (hx : Words S h xs v) : Does Tryz.prog 121 #[v, .int .i64 off, .int .i64 n] h
      (fun u h' => h.quiet h' ∧ ∃ x, u = .tuple #[x, .int .i64 (readV xs off n).2] ∧ Words (h.next ≤ ·) h' (readV xs off n).1 x) := by
  obtain ⟨a, c, rfl⟩ := hx.shape
  have hl := hx.len
  refine spec_go mixed Tryz.func121 rfl Tryz.results121 (n := Tryz.f121.ntmps) (by kernel_rfl) (by simp) ?_
  simp only [go_sem, simprocAttr]
  refine cl_spec many_ok (fun _ _ _ hc => absurd hc (by decide +kernel)) ?_
  rintro u k ⟨rfl, rfl⟩
  unfold readV
  by_cases h1 : xs.length ≤ 1024
  · rw [if_pos h1]
    have h1' : (xs.length : Int) ≤ 1024 := by omega
    simp only [go_sem, simprocAttr, decide_eq_true h1']
    by_cases h2 : n < 0
    · simp only [go_sem, simprocAttr, h2, decide_true]
      rw [if_neg (by omega)]
      exact ⟨_, rfl, .nil _ _ _⟩
    · simp only [go_sem, simprocAttr, h2, decide_false]
      refine cl_spec (rin_ok (by omega) (by omega)) (fun _ _ _ hc => absurd hc (by decide +kernel)) ?_
      rintro u k ⟨rfl, rfl⟩
      by_cases h3 : 0 ≤ off ∧ off ≤ (xs.length : Int) ∧ n ≤ xs.length - off
      · rw [if_pos ⟨by omega, h3⟩]
        have e1 : IntKind.i64.wrap (off + n) = off + n := by rw [wi64] <;> omega
        obtain ⟨a', c', es, hs⟩ := hx.sliceI 1 rfl (l := off) (m := off + n) (by omega) (by omega) (by omega)
        rw [show (off + n).toNat - off.toNat = n.toNat by omega] at es hs
        have hlen := hs.len.1.symm
        obtain ⟨u4, k4, e4, hl4, hf4, _⟩ := (Lst.nil rW k.next (fun _ => False) k).app (ys := (xs.drop off.toNat).take n.toNat) 1 rfl (bytes := 8) (n := n.toNat) (nat_all2 (fun n hn => by have := hs.vals rfl n hn; exact this)) hlen (by simp; omega) (by simp; omega) (Nat.le_refl _)
        rw [nat_flat] at e4
        simp only [go_sem, simprocAttr, decide_eq_true h3, e1, es, hs.acellsN, e4]
        exact ⟨hf4.quiet (fun j _ e => by cases e), u4, rfl, hl4.isSl (fun _ e _ => e.elim) (fun _ e => e)⟩
      · rw [if_neg (fun e => h3 e.2)]
        simp only [go_sem, simprocAttr, decide_eq_false h3]
        exact ⟨_, rfl, .nil _ _ _⟩
  · rw [if_neg h1]
    have h1' : ¬ ((xs.length : Int) ≤ 1024) := by omega
    simp only [go_sem, simprocAttr, decide_eq_false h1']
    exact ⟨_, rfl, .nil _ _ _⟩
end

/-- What is read piece by piece is what is read at once. -/
theorem segs_read (xs : List Nat) {ps : List Piece} {c n : Int} (h : chain c ps n) (hc : 0 ≤ c) : ∀ (z : Nat) {a b : Int}, z = (b - a).toNat → c ≤ a → a ≤ b → b ≤ n →
    ((segs 0 ps a b).map fun s => (xs.drop s.2.2.1.toNat).take (s.2.2.2 - s.2.2.1).toNat).flatten = (xs.drop a.toNat).take (b - a).toNat := by
  intro z
  induction z using Nat.strongRecOn with
  | ind z ih =>
    intro a b hz h1 h2 h3
    by_cases hab : a < b
    · obtain ⟨p, hp, hs⟩ := segs_step 0 h h1 hab h3
      obtain ⟨q, k1, k2, k3, _⟩ := chain_idx h (b := a) h1 (by omega)
      rw [hp] at k1; cases k1
      rw [hs, List.map_cons, List.flatten_cons, ih _ (by omega) rfl (by omega) (by omega) h3]
      simp only
      rw [show (b - a).toNat = (min p.to b - a).toNat + (b - min p.to b).toNat by omega, List.take_add, List.drop_drop]
      congr 3
      omega
    · rw [segs_nil ps 0 (by omega), show (b - a).toNat = 0 by omega]; simp

theorem rdcut (off n f k : Int) : Op.cut ⟨0, off, n, []⟩ f k = ⟨0, f, k, []⟩ := by unfold Op.cut; rw [if_neg (by simp)]

end Go.Proofs.YtedpfdflolkpeaaGreatDoor.Pl
