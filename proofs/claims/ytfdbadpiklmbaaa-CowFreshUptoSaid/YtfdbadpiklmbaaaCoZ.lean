/- cow: a closed call. -/
import Derived.Test.YtfdbadpiklmbaaaTypes
set_option linter.unusedSimpArgs false
set_option linter.unusedVariables false
set_option linter.unnecessarySimpa false
set_option maxRecDepth 100000
namespace Go.Proofs.Ytfdbadpiklmbaaa
open Go.AM
theorem mixedA : Try.prog.follows .mixedOrders = true := by kernel_rfl
theorem alive_ok (h : AHeap) : Does Try.prog 10 #[] h (fun u h' => u = .bool true ∧ h' = h) :=
  ⟨_, _, Runs.of_yes (hs := [(56, 2)]) (ok := (List.range Try.prog.funcs.size).filter (okFn Try.prog [(56, 2)])) mixedA (by decide +kernel) (n := 40) (by decide +kernel) h, rfl, rfl⟩
end Go.Proofs.Ytfdbadpiklmbaaa
