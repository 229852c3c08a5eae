/- plan: how what is handed in reads. -/
import Derived.Test.YtohgnkjemfkeoaaDatA
import Derived.Test.YtohgnkjemfkeoaaAmLawC
set_option linter.unusedSimpArgs false
set_option linter.unusedVariables false
set_option linter.unnecessarySimpa false
set_option maxRecDepth 100000
namespace Go.Proofs.Ytohgnkjemfkeoaa
open Go.AM
theorem rPiece_reads : rPiece.Reads (.pcons 1 (.int .i64) (.pcons 1 (.int .i64) (.pcons 1 (.int .i64) .pnil))) (fun _ => 1 + (1 + 1)) :=
  Reads.via (Reads.pair (Reads.int _) (Reads.pair (Reads.int _) (Reads.last (Reads.int _)))) (g := fun x => ⟨x.1, x.2.1, x.2.2⟩) (fun _ => rfl)
theorem rOp_reads : rOp.Reads (.pcons 1 (.int .i64) (.pcons 1 (.int .i64) (.pcons 1 (.int .i64) (.pcons 1 (.slice 1 (.int .u64)) .pnil)))) (fun o => 1 + (1 + (1 + ((o.data.map fun _ => 1).sum + 1)))) :=
  Reads.via (Reads.pair (Reads.int _) (Reads.pair (Reads.int _) (Reads.pair (Reads.int _) (Reads.last (Reads.list (Reads.nat (by decide)) rfl))))) (g := fun x => ⟨x.1, x.2.1, x.2.2.1, x.2.2.2⟩) (fun _ => rfl)
end Go.Proofs.Ytohgnkjemfkeoaa
