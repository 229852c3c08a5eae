/- stream: what is encoded is read, however it is cut. -/
import Derived.Test.YtolnacokdjognaaStL
set_option linter.unusedSimpArgs false
set_option linter.unusedVariables false
set_option linter.unnecessarySimpa false
set_option maxRecDepth 100000
namespace Go.Proofs.Ytolnacokdjognaa
open Go.AM
theorem isl_dat {S : Nat → Prop} {h : AHeap} {l : List Rec} {v : Value} (hs : IsSl rRec S h l v) : ∀ r ∈ l, (∀ x ∈ r.data, x < 18446744073709551616) ∧ r.inI := fun r hr => by
  obtain ⟨i, hi⟩ := List.mem_iff_getElem?.1 hr
  obtain ⟨a, c, rfl⟩ := hs.shape
  obtain ⟨b, off, sp, cc, md, x, lv, _, _, _, hxi, hlv, hxb, _, _⟩ := IsSl.atR hs (List.getElem?_eq_some_iff.1 hi).1
  rw [hi] at hxi
  cases hxi
  exact ⟨hlv.lt64, hxb⟩
theorem len_enc (l : List Rec) : l.length ≤ (encN l).length := by
  induction l with
  | nil => simp
  | cons r l ih => rw [encN_cons, List.length_append, recB_len, List.length_cons]; omega
section
variable {h k h' : AHeap} {S S' Z : Nat → Prop} {v w : Value} {id : Nat}
end
end Go.Proofs.Ytolnacokdjognaa
