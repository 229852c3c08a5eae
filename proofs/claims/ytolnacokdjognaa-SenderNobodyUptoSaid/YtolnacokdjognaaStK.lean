/- stream: alive, and what is built. -/
import Derived.Test.YtolnacokdjognaaStJ
set_option linter.unusedSimpArgs false
set_option linter.unusedVariables false
set_option linter.unnecessarySimpa false
set_option maxRecDepth 100000
namespace Go.Proofs.Ytolnacokdjognaa
open Go.AM
def aHd : Rec := ⟨1, 0, 1, 0, 0, 0, 9, []⟩
def aOps : List Bop := [⟨1, 2, 0, [5]⟩]
def aL : List Rec := buildL aHd aOps
theorem aE : bldE aHd aOps = 0 := by decide +kernel
theorem aC : checkN aL = 0 := by decide +kernel
theorem aMay : ∀ r ∈ aL, r.may := by decide +kernel
theorem aDat : ∀ r ∈ aL, ∀ x ∈ r.data, x < 18446744073709551616 := by decide +kernel
theorem aOk : okL aL := fun r hr => ⟨aMay r hr, aDat r hr⟩
theorem aLen : (encN aL).length = 236 := by
  show (encN [aHd, recO ⟨1, 2, 0, [5]⟩, tailN 1]).length = 236
  rw [encN_cons, encN_cons, encN_cons, List.length_append, List.length_append, List.length_append, recB_len, recB_len, recB_len]
  rfl
theorem encE_ok {l : List Rec} (h1 : ∀ r ∈ l, r.may) (h2 : (encN l).length ≤ 65536) : encE l = .ok (encN l) := by
  unfold encE
  rw [if_neg (by rintro ⟨r, hr, e⟩; exact e (h1 r hr)), if_neg (by omega)]
theorem encE_inv {l : List Rec} {b : List Nat} (h : encE l = .ok b) : (∀ r ∈ l, r.may) ∧ (encN l).length ≤ 65536 ∧ b = encN l := by
  unfold encE at h
  split at h
  · cases h
  · rename_i h1
    split at h
    · cases h
    · rename_i h2
      cases h
      exact ⟨fun r hr => Classical.byContradiction fun e => h1 ⟨r, hr, e⟩, by omega, rfl⟩
theorem encE_err {l : List Rec} {e : Int} (h : encE l = .error e) : e ≠ 0 := by
  unfold encE at h
  split at h
  · cases h; decide
  · split at h
    · cases h; decide
    · cases h
theorem read_all {l : List Rec} (ho : okL l) : readA (encN l) = (l, [], 0) := by
  have := readA_app ho []
  rw [List.append_nil, show readA [] = ([], [], 0) from readA_wait rfl, List.append_nil] at this
  exact this
section
variable {h k h' : AHeap} {S S' Z : Nat → Prop} {v w : Value} {id : Nat}
end
end Go.Proofs.Ytolnacokdjognaa
