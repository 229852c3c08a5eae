/- net: messages. -/
import Derived.Test.YtolnacokdjognaaNeC
set_option linter.unusedSimpArgs false
set_option linter.unusedVariables false
set_option linter.unnecessarySimpa false
set_option maxRecDepth 100000
namespace Go.Proofs.Ytolnacokdjognaa
open Go.AM

structure Msg where
  fr : Int
  dst : Int
  kd : Int
  ep : Int
  sq : Int
  ak : Int
  load : List Nat
def Msg.ns (m : Msg) : List Int := [m.fr, m.dst, m.kd, m.ep, m.sq, m.ak]
def Msg.cs (m : Msg) (v : Value) : List Value := [.int .i64 m.fr, .int .i64 m.dst, .int .i64 m.kd, .int .i64 m.ep, .int .i64 m.sq, .int .i64 m.ak, v]
def Msg.inI (m : Msg) : Prop := ∀ x ∈ m.ns, -9223372036854775808 ≤ x ∧ x ≤ 9223372036854775807
def okN (i : Nat) (x : Int) : Prop := 0 ≤ x ∧ x ≤ (if i < 2 then 15 else 2147483648)
instance (i : Nat) (x : Int) : Decidable (okN i x) := inferInstanceAs (Decidable (_ ∧ _))
def Msg.right (m : Msg) : Prop := okN 0 m.fr ∧ okN 1 m.dst ∧ okN 2 m.kd ∧ okN 3 m.ep ∧ okN 4 m.sq ∧ okN 5 m.ak ∧ m.load.length ≤ 1200
instance (m : Msg) : Decidable m.right := inferInstanceAs (Decidable (_ ∧ _))
theorem Msg.right_iff (m : Msg) : m.right ↔ (∀ i x, m.ns[i]? = some x → okN i x) ∧ m.load.length ≤ 1200 := by
  constructor
  · rintro ⟨h0, h1, h2, h3, h4, h5, h6⟩
    refine ⟨fun i x hx => ?_, h6⟩
    obtain ⟨hl, -⟩ := List.getElem?_eq_some_iff.1 hx
    have hl : i < 6 := hl
    match i, hl with
    | 0, _ => cases hx; exact h0
    | 1, _ => cases hx; exact h1
    | 2, _ => cases hx; exact h2
    | 3, _ => cases hx; exact h3
    | 4, _ => cases hx; exact h4
    | 5, _ => cases hx; exact h5
  · rintro ⟨h, h6⟩
    exact ⟨h 0 _ rfl, h 1 _ rfl, h 2 _ rfl, h 3 _ rfl, h 4 _ rfl, h 5 _ rfl, h6⟩
/-- The places of a message's numbers. -/
def mptrs (id : Nat) : List Value := (List.range 6).map fun i => .pointer (some ⟨id, i, none⟩)
theorem mptrs_get {id i : Nat} (hi : i < 6) : (mptrs id)[i]? = some (.pointer (some ⟨id, i, none⟩)) := by
  simp [mptrs, List.getElem?_range hi]
theorem Msg.cs_get {m : Msg} {v : Value} {i : Nat} (hi : i < 6) : ∃ x, m.ns[i]? = some x ∧ (m.cs v)[i]? = some (.int .i64 x) := by
  match i, hi with
  | 0, _ => exact ⟨_, rfl, rfl⟩
  | 1, _ => exact ⟨_, rfl, rfl⟩
  | 2, _ => exact ⟨_, rfl, rfl⟩
  | 3, _ => exact ⟨_, rfl, rfl⟩
  | 4, _ => exact ⟨_, rfl, rfl⟩
  | 5, _ => exact ⟨_, rfl, rfl⟩
section
variable {h : AHeap} {S S' Z : Nat → Prop} {v : Value}
end
end Go.Proofs.Ytolnacokdjognaa
