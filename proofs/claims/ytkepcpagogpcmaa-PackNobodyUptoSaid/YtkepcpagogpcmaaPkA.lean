/- pack: a closed call. -/
import Derived.Test.YtkepcpagogpcmaaTypes
set_option linter.unusedSimpArgs false
set_option linter.unusedVariables false
set_option linter.unnecessarySimpa false
namespace Go.Proofs.Ytkepcpagogpcmaa
open Go.AM
theorem mixedA : Try.prog.follows .mixedOrders = true := by kernel_rfl
theorem alive_ok (h : AHeap) : Does Try.prog 14 #[] h (fun u h' => u = .bool true ∧ h' = h) :=
  ⟨_, _, Runs.of_yes (ok := (List.range Try.prog.funcs.size).filter (okFn Try.prog)) mixedA (by decide +kernel) (n := 40) (by decide +kernel) h, rfl, rfl⟩

end Go.Proofs.Ytkepcpagogpcmaa
