/- stream: Build and Ops go back to one another; what is encoded is read. -/
import Derived.Test.YtolnacokdjognaaStK
set_option linter.unusedSimpArgs false
set_option linter.unusedVariables false
set_option linter.unnecessarySimpa false
set_option maxRecDepth 100000
namespace Go.Proofs.Ytolnacokdjognaa
open Go.AM
theorem check_may {l : List Rec} (h : checkN l = 0) : ∀ r ∈ l, r.may := by
  unfold checkN at h
  split at h
  · cases h
  · rename_i c
    exact fun r hr => Classical.byContradiction fun e => c ⟨r, hr, e⟩
theorem bld_check {hd : Rec} {ops : List Bop} (h : bldE hd ops = 0) : checkN (buildL hd ops) = 0 := by
  unfold bldE at h
  split at h
  · cases h
  · exact h
theorem mid_build (hd : Rec) (ops : List Bop) : midR (buildL hd ops) = ops.map recO := by
  unfold midR buildL
  simp only [List.length_cons, List.length_append, List.length_map, List.length_nil, List.drop_succ_cons, List.drop_zero]
  rw [show ops.length + (0 + 1) + 1 - 1 - 1 = ops.length by omega, List.take_append_of_le_length (by simp), List.take_of_length_le (by simp)]
theorem ops_back {hd : Rec} {ops : List Bop} (h : bldE hd ops = 0) : (midR (buildL hd ops)).map Rec.op = ops := by
  have hm := check_may (bld_check h)
  rw [mid_build, List.map_map]
  have : ∀ o ∈ ops, (Rec.op ∘ recO) o = o := fun o ho => by
    have hmay := hm (recO o) (by unfold buildL; simp; exact .inr (.inl ⟨o, ho, rfl⟩))
    have hk : o.kd = 1 ∨ o.kd = 2 := by
      by_cases k1 : o.kd = 1
      · exact .inl k1
      · by_cases k2 : o.kd = 2
        · exact .inr k2
        · exfalso
          have e : (recO o).kd = 0 := by unfold recO; simp only; rw [if_neg k1, if_neg k2]
          have := hmay.2
          unfold Rec.form at this
          omega
    show (recO o).op = o
    obtain ⟨kd, off, ln, data⟩ := o
    rcases hk with hk | hk
    · obtain rfl : kd = 1 := hk
      rfl
    · obtain rfl : kd = 2 := hk
      rfl
  conv => rhs; rw [← List.map_id ops]
  exact List.map_congr_left this
section
variable {h k h' : AHeap} {S S' Z : Nat → Prop} {v w : Value} {id : Nat}
end
end Go.Proofs.Ytolnacokdjognaa
