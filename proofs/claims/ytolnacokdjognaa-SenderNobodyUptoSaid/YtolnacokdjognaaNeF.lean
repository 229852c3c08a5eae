/- net: unpacking messages. -/
import Derived.Test.YtolnacokdjognaaNeE
set_option linter.unusedSimpArgs false
set_option linter.unusedVariables false
set_option linter.unnecessarySimpa false
set_option maxRecDepth 100000
namespace Go.Proofs.Ytolnacokdjognaa
open Go.AM

/-- A reader behind so many numbers, and these. -/
def stR (s : RdS) : Nat → RdS
  | 0 => s
  | i + 1 => ((stR s i).int 2147483648).2
def xnR (s : RdS) (i : Nat) : Int := ((stR s i).int 2147483648).1
def mOf (s : RdS) : Msg := ⟨xnR s 0, xnR s 1, xnR s 2, xnR s 3, xnR s 4, xnR s 5, (stR s 6).part.1⟩
def finR (s : RdS) : RdS := (stR s 6).part.2.fin
/-- What bytes are unpacked to: a message, or an error's number. -/
def unpackN (b : List Nat) : Except Int Msg :=
  match openN b with
  | none => .error 4
  | some x => if ((finR ⟨x, 0, 0, 0⟩).why = 0 ∧ (finR ⟨x, 0, 0, 0⟩).fat = 0) ∧ (mOf ⟨x, 0, 0, 0⟩).right then .ok (mOf ⟨x, 0, 0, 0⟩) else .error 5
def Msg.zero : Msg := ⟨0, 0, 0, 0, 0, 0, []⟩
theorem mOf_ns (s : RdS) {i : Nat} (hi : i < 6) : (mOf s).ns[i]? = some (xnR s i) := by
  match i, hi with
  | 0, _ => rfl
  | 1, _ => rfl
  | 2, _ => rfl
  | 3, _ => rfl
  | 4, _ => rfl
  | 5, _ => rfl
theorem take_set_succ {α : Type} {l : List α} {i : Nat} {x : α} (hi : i < l.length) : (l.set i x).take (i + 1) = l.take i ++ [x] := by
  rw [List.take_add_one, List.take_set_of_le (Nat.le_refl _), List.getElem?_set_self hi]; rfl
section
variable {h : AHeap} {S S' Z : Nat → Prop} {v w : Value}
end
end Go.Proofs.Ytolnacokdjognaa
