/-
  No cell of these rows narrows 'for every input' (looked for: loops, veiled, ifaces, maps, wideKeys, modest, calm, conditions, laid).
  DERIVED. THE GIVEN ROWS OF THIS SEAT. 7 by the template 'for every input the law returns true; each argument reads behind the call as it read before'; 0 by the template 'total and deterministic' (their statements: YtbcgipcgcjkfcaaTotals.lean).
  GIVEN WITH THE SEED: the statements are not yours to turn. If you find one false, say at which input.
  Laid BY PROGRAM, IN A SANDBOX (cutbox-rows.mjs): the forced cells as the released guide's own fill.sh prints them over the translation 0502909bc4f2555b… (all of the seat's roots in one cut). By AI agents, Wed Nov 11 2026. No macro, syntax, notation, axiom, sorry.
-/
import Derived.Test.YtbcgipcgcjkfcaaChecked
import GoSem.Claim
import GoSem.ClaimJoined
import GoSem.ClaimMapViews
import Derived.JoinedTies
import Derived.KernelRfl
namespace Go.Proofs.Ytbcgipcgcjkfcaa
/- THE CELL 'sum', in the pinned program and in every row, IS THE sha256 OF THE DUMP (.gsa) THAT YtbcgipcgcjkfcaaProg.lean LOADS. Nothing in Lean hashes anything: it is a label: what it is worth is what the hold of that sum in a sandbox is worth. -/
noncomputable def Try.pinned : Pinned := { name := "ytbcgipcgcjkfcaa", sum := "0502909bc4f2555bf7a41ed805a48dcb91844809ee8913258fc202d000e63522", checked := Try.checked }
namespace Rows
def none {H : Type} : Left H := { results := [], args := [] }

/-- 'jackstaylaw17.BarrierCoords': WHATEVER THE INPUT: true; the input reads as it did. -/
def barrierCoordsSpec : ChangeSpec := { name := "barrierCoords", fn := fun _ => fun
  | [d1, d2, d3] => { results := [.lit (.bool true)], args := [d1, d2, d3] }
  | _ => none }
def barrierCoordsRow : OpenClaim := { program := "ytbcgipcgcjkfcaa", sum := "0502909bc4f2555bf7a41ed805a48dcb91844809ee8913258fc202d000e63522", func := "jackstay/jackstaylaw17.BarrierCoords", spec := "barrierCoords", apart := false }
def BarrierCoordsSaid : Prop := barrierCoordsRow.holds Try.pinned (OpenSpec.ofChange barrierCoordsSpec)

/-- ITS FALSE NEIGHBOUR: 'it returns false'. Refute it at one input. -/
def barrierCoordsWrong : ChangeSpec := { name := "barrierCoords", fn := fun _ => fun
  | [d1, d2, d3] => { results := [.lit (.bool false)], args := [d1, d2, d3] }
  | _ => none }
def BarrierCoordsWrongFalsely : Prop := barrierCoordsRow.holds Try.pinned (OpenSpec.ofChange barrierCoordsWrong)

/-- 'jackstaylaw17.BarrierStands': WHATEVER THE INPUT: true; the input reads as it did. -/
def barrierStandsSpec : ChangeSpec := { name := "barrierStands", fn := fun _ => fun
  | [d1, d2] => { results := [.lit (.bool true)], args := [d1, d2] }
  | _ => none }
def barrierStandsRow : OpenClaim := { program := "ytbcgipcgcjkfcaa", sum := "0502909bc4f2555bf7a41ed805a48dcb91844809ee8913258fc202d000e63522", func := "jackstay/jackstaylaw17.BarrierStands", spec := "barrierStands", apart := false }
def BarrierStandsSaid : Prop := barrierStandsRow.holds Try.pinned (OpenSpec.ofChange barrierStandsSpec)

/-- ITS FALSE NEIGHBOUR: 'it returns false'. Refute it at one input. -/
def barrierStandsWrong : ChangeSpec := { name := "barrierStands", fn := fun _ => fun
  | [d1, d2] => { results := [.lit (.bool false)], args := [d1, d2] }
  | _ => none }
def BarrierStandsWrongFalsely : Prop := barrierStandsRow.holds Try.pinned (OpenSpec.ofChange barrierStandsWrong)

/-- 'jackstaylaw17.BarrierAgents': WHATEVER THE INPUT: true; the input reads as it did. -/
def barrierAgentsSpec : ChangeSpec := { name := "barrierAgents", fn := fun _ => fun
  | [d1, d2] => { results := [.lit (.bool true)], args := [d1, d2] }
  | _ => none }
def barrierAgentsRow : OpenClaim := { program := "ytbcgipcgcjkfcaa", sum := "0502909bc4f2555bf7a41ed805a48dcb91844809ee8913258fc202d000e63522", func := "jackstay/jackstaylaw17.BarrierAgents", spec := "barrierAgents", apart := false }
def BarrierAgentsSaid : Prop := barrierAgentsRow.holds Try.pinned (OpenSpec.ofChange barrierAgentsSpec)

/-- ITS FALSE NEIGHBOUR: 'it returns false'. Refute it at one input. -/
def barrierAgentsWrong : ChangeSpec := { name := "barrierAgents", fn := fun _ => fun
  | [d1, d2] => { results := [.lit (.bool false)], args := [d1, d2] }
  | _ => none }
def BarrierAgentsWrongFalsely : Prop := barrierAgentsRow.holds Try.pinned (OpenSpec.ofChange barrierAgentsWrong)

/-- 'jackstaylaw17.BarrierAll': WHATEVER THE INPUT: true; the input reads as it did. -/
def barrierAllSpec : ChangeSpec := { name := "barrierAll", fn := fun _ => fun
  | [d1, d2] => { results := [.lit (.bool true)], args := [d1, d2] }
  | _ => none }
def barrierAllRow : OpenClaim := { program := "ytbcgipcgcjkfcaa", sum := "0502909bc4f2555bf7a41ed805a48dcb91844809ee8913258fc202d000e63522", func := "jackstay/jackstaylaw17.BarrierAll", spec := "barrierAll", apart := false }
def BarrierAllSaid : Prop := barrierAllRow.holds Try.pinned (OpenSpec.ofChange barrierAllSpec)

/-- ITS FALSE NEIGHBOUR: 'it returns false'. Refute it at one input. -/
def barrierAllWrong : ChangeSpec := { name := "barrierAll", fn := fun _ => fun
  | [d1, d2] => { results := [.lit (.bool false)], args := [d1, d2] }
  | _ => none }
def BarrierAllWrongFalsely : Prop := barrierAllRow.holds Try.pinned (OpenSpec.ofChange barrierAllWrong)

/-- 'jackstaylaw17.BarrierEnds': WHATEVER THE INPUT: true; the input reads as it did. -/
def barrierEndsSpec : ChangeSpec := { name := "barrierEnds", fn := fun _ => fun
  | [d1, d2] => { results := [.lit (.bool true)], args := [d1, d2] }
  | _ => none }
def barrierEndsRow : OpenClaim := { program := "ytbcgipcgcjkfcaa", sum := "0502909bc4f2555bf7a41ed805a48dcb91844809ee8913258fc202d000e63522", func := "jackstay/jackstaylaw17.BarrierEnds", spec := "barrierEnds", apart := false }
def BarrierEndsSaid : Prop := barrierEndsRow.holds Try.pinned (OpenSpec.ofChange barrierEndsSpec)

/-- ITS FALSE NEIGHBOUR: 'it returns false'. Refute it at one input. -/
def barrierEndsWrong : ChangeSpec := { name := "barrierEnds", fn := fun _ => fun
  | [d1, d2] => { results := [.lit (.bool false)], args := [d1, d2] }
  | _ => none }
def BarrierEndsWrongFalsely : Prop := barrierEndsRow.holds Try.pinned (OpenSpec.ofChange barrierEndsWrong)

/-- 'jackstaylaw17.BarrierTaken': WHATEVER THE INPUT: true; the input reads as it did. -/
def barrierTakenSpec : ChangeSpec := { name := "barrierTaken", fn := fun _ => fun
  | [d1, d2] => { results := [.lit (.bool true)], args := [d1, d2] }
  | _ => none }
def barrierTakenRow : OpenClaim := { program := "ytbcgipcgcjkfcaa", sum := "0502909bc4f2555bf7a41ed805a48dcb91844809ee8913258fc202d000e63522", func := "jackstay/jackstaylaw17.BarrierTaken", spec := "barrierTaken", apart := false }
def BarrierTakenSaid : Prop := barrierTakenRow.holds Try.pinned (OpenSpec.ofChange barrierTakenSpec)

/-- ITS FALSE NEIGHBOUR: 'it returns false'. Refute it at one input. -/
def barrierTakenWrong : ChangeSpec := { name := "barrierTaken", fn := fun _ => fun
  | [d1, d2] => { results := [.lit (.bool false)], args := [d1, d2] }
  | _ => none }
def BarrierTakenWrongFalsely : Prop := barrierTakenRow.holds Try.pinned (OpenSpec.ofChange barrierTakenWrong)

/-- 'jackstaylaw17.BarrierNobody': WHATEVER THE INPUT: true; the input reads as it did. -/
def barrierNobodySpec : ChangeSpec := { name := "barrierNobody", fn := fun _ => fun
  | [d1, d2] => { results := [.lit (.bool true)], args := [d1, d2] }
  | _ => none }
def barrierNobodyRow : OpenClaim := { program := "ytbcgipcgcjkfcaa", sum := "0502909bc4f2555bf7a41ed805a48dcb91844809ee8913258fc202d000e63522", func := "jackstay/jackstaylaw17.BarrierNobody", spec := "barrierNobody", apart := false }
def BarrierNobodySaid : Prop := barrierNobodyRow.holds Try.pinned (OpenSpec.ofChange barrierNobodySpec)

/-- ITS FALSE NEIGHBOUR: 'it returns false'. Refute it at one input. -/
def barrierNobodyWrong : ChangeSpec := { name := "barrierNobody", fn := fun _ => fun
  | [d1, d2] => { results := [.lit (.bool false)], args := [d1, d2] }
  | _ => none }
def BarrierNobodyWrongFalsely : Prop := barrierNobodyRow.holds Try.pinned (OpenSpec.ofChange barrierNobodyWrong)

/- THE SECOND FORM. 'bulk': how many values and letters a reading holds, each counted each time it is reached (what is shared counts as often as it is met; a slice's spare places count too). A statement '..UptoSaid' is the law's where the arguments, and the package variables that the reading takes, are together of bulk at most 1048576: NARROWER than '..Said'. Prove '..Said' where nothing that the law and all that it calls make is longer than what came in: it says more and counts as full. Else prove '..UptoSaid'. A law counts once. -/
mutual
def uptoBulk {H : Type} : DataW H → Nat
  | .lit (.string bytes) => bytes.length + 1
  | .lit _ => 1
  | .nil => 1
  | .ptr d => uptoBulk d + 1
  | .slice elems spare => uptoBulkAll elems + uptoBulkAll spare + 1
  | .agg parts => uptoBulkAll parts + 1
  | .iface _ d => uptoBulk d + 1
  | .map entries => uptoBulkEntries entries + 1
  | .held _ => 1
def uptoBulkAll {H : Type} : List (DataW H) → Nat
  | [] => 0
  | d :: r => uptoBulk d + uptoBulkAll r
def uptoBulkEntries {H : Type} : List (Lit × DataW H) → Nat
  | [] => 0
  | x :: r => uptoBulkEntry x + uptoBulkEntries r
def uptoBulkEntry {H : Type} : Lit × DataW H → Nat
  | (.string bytes, d) => bytes.length + uptoBulk d + 1
  | (_, d) => uptoBulk d + 1
 end
def uptoSmall : (H : Type) → List (DataW H) → Bool := fun _ ds => decide (uptoBulkAll ds ≤ 1048576)
def OpenSpec.upto (s : _root_.Go.ChangeSpec) : _root_.Go.OpenSpec := { _root_.Go.OpenSpec.ofChange s with cond := some uptoSmall }

/-- 'jackstaylaw17.BarrierCoords', WHERE WHAT IT READS IS OF BULK AT MOST 1048576: true; the input reads as it did. -/
def barrierCoordsUptoRow : OpenClaim := { program := "ytbcgipcgcjkfcaa", sum := "0502909bc4f2555bf7a41ed805a48dcb91844809ee8913258fc202d000e63522", func := "jackstay/jackstaylaw17.BarrierCoords", spec := "barrierCoords", apart := false, narrowed := true }
def BarrierCoordsUptoSaid : Prop := barrierCoordsUptoRow.holds Try.pinned (OpenSpec.upto barrierCoordsSpec)

/-- 'jackstaylaw17.BarrierStands', WHERE WHAT IT READS IS OF BULK AT MOST 1048576: true; the input reads as it did. -/
def barrierStandsUptoRow : OpenClaim := { program := "ytbcgipcgcjkfcaa", sum := "0502909bc4f2555bf7a41ed805a48dcb91844809ee8913258fc202d000e63522", func := "jackstay/jackstaylaw17.BarrierStands", spec := "barrierStands", apart := false, narrowed := true }
def BarrierStandsUptoSaid : Prop := barrierStandsUptoRow.holds Try.pinned (OpenSpec.upto barrierStandsSpec)

/-- 'jackstaylaw17.BarrierAgents', WHERE WHAT IT READS IS OF BULK AT MOST 1048576: true; the input reads as it did. -/
def barrierAgentsUptoRow : OpenClaim := { program := "ytbcgipcgcjkfcaa", sum := "0502909bc4f2555bf7a41ed805a48dcb91844809ee8913258fc202d000e63522", func := "jackstay/jackstaylaw17.BarrierAgents", spec := "barrierAgents", apart := false, narrowed := true }
def BarrierAgentsUptoSaid : Prop := barrierAgentsUptoRow.holds Try.pinned (OpenSpec.upto barrierAgentsSpec)

/-- 'jackstaylaw17.BarrierAll', WHERE WHAT IT READS IS OF BULK AT MOST 1048576: true; the input reads as it did. -/
def barrierAllUptoRow : OpenClaim := { program := "ytbcgipcgcjkfcaa", sum := "0502909bc4f2555bf7a41ed805a48dcb91844809ee8913258fc202d000e63522", func := "jackstay/jackstaylaw17.BarrierAll", spec := "barrierAll", apart := false, narrowed := true }
def BarrierAllUptoSaid : Prop := barrierAllUptoRow.holds Try.pinned (OpenSpec.upto barrierAllSpec)

/-- 'jackstaylaw17.BarrierEnds', WHERE WHAT IT READS IS OF BULK AT MOST 1048576: true; the input reads as it did. -/
def barrierEndsUptoRow : OpenClaim := { program := "ytbcgipcgcjkfcaa", sum := "0502909bc4f2555bf7a41ed805a48dcb91844809ee8913258fc202d000e63522", func := "jackstay/jackstaylaw17.BarrierEnds", spec := "barrierEnds", apart := false, narrowed := true }
def BarrierEndsUptoSaid : Prop := barrierEndsUptoRow.holds Try.pinned (OpenSpec.upto barrierEndsSpec)

/-- 'jackstaylaw17.BarrierTaken', WHERE WHAT IT READS IS OF BULK AT MOST 1048576: true; the input reads as it did. -/
def barrierTakenUptoRow : OpenClaim := { program := "ytbcgipcgcjkfcaa", sum := "0502909bc4f2555bf7a41ed805a48dcb91844809ee8913258fc202d000e63522", func := "jackstay/jackstaylaw17.BarrierTaken", spec := "barrierTaken", apart := false, narrowed := true }
def BarrierTakenUptoSaid : Prop := barrierTakenUptoRow.holds Try.pinned (OpenSpec.upto barrierTakenSpec)

/-- 'jackstaylaw17.BarrierNobody', WHERE WHAT IT READS IS OF BULK AT MOST 1048576: true; the input reads as it did. -/
def barrierNobodyUptoRow : OpenClaim := { program := "ytbcgipcgcjkfcaa", sum := "0502909bc4f2555bf7a41ed805a48dcb91844809ee8913258fc202d000e63522", func := "jackstay/jackstaylaw17.BarrierNobody", spec := "barrierNobody", apart := false, narrowed := true }
def BarrierNobodyUptoSaid : Prop := barrierNobodyUptoRow.holds Try.pinned (OpenSpec.upto barrierNobodySpec)

end Rows
end Go.Proofs.Ytbcgipcgcjkfcaa
