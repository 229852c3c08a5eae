/- net: comparing and packing messages. -/
import Derived.Test.YtolnacokdjognaaNeD
set_option linter.unusedSimpArgs false
set_option linter.unusedVariables false
set_option linter.unnecessarySimpa false
set_option maxRecDepth 100000
namespace Go.Proofs.Ytolnacokdjognaa
open Go.AM

theorem Msg.ext' {m n : Msg} : m = n ↔ m.ns = n.ns ∧ m.load = n.load := by
  constructor
  · rintro rfl; exact ⟨rfl, rfl⟩
  · rintro ⟨h1, h2⟩
    cases m; cases n
    simp only [Msg.ns, List.cons.injEq, and_true] at h1 h2
    obtain ⟨rfl, rfl, rfl, rfl, rfl, rfl⟩ := h1
    subst h2; rfl
instance : DecidableEq Msg := fun m n => decidable_of_iff _ Msg.ext'.symm
def Msg.encode (m : Msg) : List Nat := (m.ns.map Int.toNat).flatMap (leB 8) ++ partsB [m.load]
def packN (m : Msg) : Option (List Nat) := if m.right then some (sealN m.encode) else none
section
variable {h : AHeap} {S S' Z : Nat → Prop} {v w : Value}
/-- The first numbers, put. -/
def Msg.fst (m : Msg) (i : Nat) : List Nat := ((m.ns.take i).map Int.toNat).flatMap (leB 8)
theorem Msg.fst_succ {m : Msg} {i : Nat} {x : Int} (hx : m.ns[i]? = some x) : m.fst (i + 1) = m.fst i ++ leB 8 x.toNat := by
  unfold Msg.fst
  rw [List.take_add_one, hx]
  simp
theorem Msg.fst_len {m : Msg} {i : Nat} (hi : i ≤ 6) : (m.fst i).length = 8 * i := by
  unfold Msg.fst
  rw [flat8, List.length_map, List.length_take, show m.ns.length = 6 from rfl, Nat.min_eq_left hi]
theorem Msg.fst_end (m : Msg) : m.fst 6 ++ partsB [m.load] = m.encode := rfl
end
end Go.Proofs.Ytolnacokdjognaa
