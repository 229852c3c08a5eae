/-
  No cell of these rows narrows 'for every input' (looked for: loops, veiled, ifaces, maps, wideKeys, modest, calm, conditions, laid).
  DERIVED. THE GIVEN ROWS OF THIS SEAT. 7 by the template 'for every input the law returns true; each argument reads behind the call as it read before'; 0 by the template 'total and deterministic' (their statements: YtohgnkjemfkeoaaTotals.lean).
  GIVEN WITH THE SEED: the statements are not yours to turn. If you find one false, say at which input.
  Laid BY PROGRAM, IN A SANDBOX (cutbox-rows.mjs): the forced cells as the released guide's own fill.sh prints them over the translation 88e504dc0136bb24… (all of the seat's roots in one cut). By AI agents, Wed Nov 11 2026. No macro, syntax, notation, axiom, sorry.
-/
import Derived.Test.YtohgnkjemfkeoaaChecked
import GoSem.Claim
import GoSem.ClaimJoined
import GoSem.ClaimMapViews
import Derived.JoinedTies
import Derived.KernelRfl
namespace Go.Proofs.Ytohgnkjemfkeoaa
/- THE CELL 'sum', in the pinned program and in every row, IS THE sha256 OF THE DUMP (.gsa) THAT YtohgnkjemfkeoaaProg.lean LOADS. Nothing in Lean hashes anything: it is a label: what it is worth is what the hold of that sum in a sandbox is worth. -/
noncomputable def Try.pinned : Pinned := { name := "ytohgnkjemfkeoaa", sum := "88e504dc0136bb24ac178ed4a648f4f341fe0945ba3144b4af2a1ace3d884d14", checked := Try.checked }
namespace Rows
def none {H : Type} : Left H := { results := [], args := [] }

/-- 'jackstaylaw14.PlanDone': WHATEVER THE INPUT: true; the input reads as it did. -/
def planDoneSpec : ChangeSpec := { name := "planDone", fn := fun _ => fun
  | [d1, d2, d3] => { results := [.lit (.bool true)], args := [d1, d2, d3] }
  | _ => none }
def planDoneRow : OpenClaim := { program := "ytohgnkjemfkeoaa", sum := "88e504dc0136bb24ac178ed4a648f4f341fe0945ba3144b4af2a1ace3d884d14", func := "jackstay/jackstaylaw14.PlanDone", spec := "planDone", unfollowed := true, recurses := true, apart := false }
def PlanDoneSaid : Prop := planDoneRow.holds Try.pinned (OpenSpec.ofChange planDoneSpec)

/-- ITS FALSE NEIGHBOUR: 'it returns false'. Refute it at one input. -/
def planDoneWrong : ChangeSpec := { name := "planDone", fn := fun _ => fun
  | [d1, d2, d3] => { results := [.lit (.bool false)], args := [d1, d2, d3] }
  | _ => none }
def PlanDoneWrongFalsely : Prop := planDoneRow.holds Try.pinned (OpenSpec.ofChange planDoneWrong)

/-- 'jackstaylaw14.PlanPieces': WHATEVER THE INPUT: true; the input reads as it did. -/
def planPiecesSpec : ChangeSpec := { name := "planPieces", fn := fun _ => fun
  | [d1, d2] => { results := [.lit (.bool true)], args := [d1, d2] }
  | _ => none }
def planPiecesRow : OpenClaim := { program := "ytohgnkjemfkeoaa", sum := "88e504dc0136bb24ac178ed4a648f4f341fe0945ba3144b4af2a1ace3d884d14", func := "jackstay/jackstaylaw14.PlanPieces", spec := "planPieces", unfollowed := true, recurses := true, apart := false }
def PlanPiecesSaid : Prop := planPiecesRow.holds Try.pinned (OpenSpec.ofChange planPiecesSpec)

/-- ITS FALSE NEIGHBOUR: 'it returns false'. Refute it at one input. -/
def planPiecesWrong : ChangeSpec := { name := "planPieces", fn := fun _ => fun
  | [d1, d2] => { results := [.lit (.bool false)], args := [d1, d2] }
  | _ => none }
def PlanPiecesWrongFalsely : Prop := planPiecesRow.holds Try.pinned (OpenSpec.ofChange planPiecesWrong)

/-- 'jackstaylaw14.PlanOwn': WHATEVER THE INPUT: true; the input reads as it did. -/
def planOwnSpec : ChangeSpec := { name := "planOwn", fn := fun _ => fun
  | [d1, d2] => { results := [.lit (.bool true)], args := [d1, d2] }
  | _ => none }
def planOwnRow : OpenClaim := { program := "ytohgnkjemfkeoaa", sum := "88e504dc0136bb24ac178ed4a648f4f341fe0945ba3144b4af2a1ace3d884d14", func := "jackstay/jackstaylaw14.PlanOwn", spec := "planOwn", unfollowed := true, recurses := true, apart := false }
def PlanOwnSaid : Prop := planOwnRow.holds Try.pinned (OpenSpec.ofChange planOwnSpec)

/-- ITS FALSE NEIGHBOUR: 'it returns false'. Refute it at one input. -/
def planOwnWrong : ChangeSpec := { name := "planOwn", fn := fun _ => fun
  | [d1, d2] => { results := [.lit (.bool false)], args := [d1, d2] }
  | _ => none }
def PlanOwnWrongFalsely : Prop := planOwnRow.holds Try.pinned (OpenSpec.ofChange planOwnWrong)

/-- 'jackstaylaw14.PlanCuts': WHATEVER THE INPUT: true; the input reads as it did. -/
def planCutsSpec : ChangeSpec := { name := "planCuts", fn := fun _ => fun
  | [d1, d2, d3] => { results := [.lit (.bool true)], args := [d1, d2, d3] }
  | _ => none }
def planCutsRow : OpenClaim := { program := "ytohgnkjemfkeoaa", sum := "88e504dc0136bb24ac178ed4a648f4f341fe0945ba3144b4af2a1ace3d884d14", func := "jackstay/jackstaylaw14.PlanCuts", spec := "planCuts", unfollowed := true, recurses := true, apart := false }
def PlanCutsSaid : Prop := planCutsRow.holds Try.pinned (OpenSpec.ofChange planCutsSpec)

/-- ITS FALSE NEIGHBOUR: 'it returns false'. Refute it at one input. -/
def planCutsWrong : ChangeSpec := { name := "planCuts", fn := fun _ => fun
  | [d1, d2, d3] => { results := [.lit (.bool false)], args := [d1, d2, d3] }
  | _ => none }
def PlanCutsWrongFalsely : Prop := planCutsRow.holds Try.pinned (OpenSpec.ofChange planCutsWrong)

/-- 'jackstaylaw14.PlanJoins': WHATEVER THE INPUT: true; the input reads as it did. -/
def planJoinsSpec : ChangeSpec := { name := "planJoins", fn := fun _ => fun
  | [d1, d2, d3] => { results := [.lit (.bool true)], args := [d1, d2, d3] }
  | _ => none }
def planJoinsRow : OpenClaim := { program := "ytohgnkjemfkeoaa", sum := "88e504dc0136bb24ac178ed4a648f4f341fe0945ba3144b4af2a1ace3d884d14", func := "jackstay/jackstaylaw14.PlanJoins", spec := "planJoins", unfollowed := true, recurses := true, apart := false }
def PlanJoinsSaid : Prop := planJoinsRow.holds Try.pinned (OpenSpec.ofChange planJoinsSpec)

/-- ITS FALSE NEIGHBOUR: 'it returns false'. Refute it at one input. -/
def planJoinsWrong : ChangeSpec := { name := "planJoins", fn := fun _ => fun
  | [d1, d2, d3] => { results := [.lit (.bool false)], args := [d1, d2, d3] }
  | _ => none }
def PlanJoinsWrongFalsely : Prop := planJoinsRow.holds Try.pinned (OpenSpec.ofChange planJoinsWrong)

/-- 'jackstaylaw14.PlanReads': WHATEVER THE INPUT: true; the input reads as it did. -/
def planReadsSpec : ChangeSpec := { name := "planReads", fn := fun _ => fun
  | [d1, d2, d3] => { results := [.lit (.bool true)], args := [d1, d2, d3] }
  | _ => none }
def planReadsRow : OpenClaim := { program := "ytohgnkjemfkeoaa", sum := "88e504dc0136bb24ac178ed4a648f4f341fe0945ba3144b4af2a1ace3d884d14", func := "jackstay/jackstaylaw14.PlanReads", spec := "planReads", unfollowed := true, recurses := true, apart := false }
def PlanReadsSaid : Prop := planReadsRow.holds Try.pinned (OpenSpec.ofChange planReadsSpec)

/-- ITS FALSE NEIGHBOUR: 'it returns false'. Refute it at one input. -/
def planReadsWrong : ChangeSpec := { name := "planReads", fn := fun _ => fun
  | [d1, d2, d3] => { results := [.lit (.bool false)], args := [d1, d2, d3] }
  | _ => none }
def PlanReadsWrongFalsely : Prop := planReadsRow.holds Try.pinned (OpenSpec.ofChange planReadsWrong)

/-- 'jackstaylaw14.PlanWhole': WHATEVER THE INPUT: true; the input reads as it did. -/
def planWholeSpec : ChangeSpec := { name := "planWhole", fn := fun _ => fun
  | [d] => { results := [.lit (.bool true)], args := [d] }
  | _ => none }
def planWholeRow : OpenClaim := { program := "ytohgnkjemfkeoaa", sum := "88e504dc0136bb24ac178ed4a648f4f341fe0945ba3144b4af2a1ace3d884d14", func := "jackstay/jackstaylaw14.PlanWhole", spec := "planWhole", unfollowed := true, recurses := true, apart := false }
def PlanWholeSaid : Prop := planWholeRow.holds Try.pinned (OpenSpec.ofChange planWholeSpec)

/-- ITS FALSE NEIGHBOUR: 'it returns false'. Refute it at one input. -/
def planWholeWrong : ChangeSpec := { name := "planWhole", fn := fun _ => fun
  | [d] => { results := [.lit (.bool false)], args := [d] }
  | _ => none }
def PlanWholeWrongFalsely : Prop := planWholeRow.holds Try.pinned (OpenSpec.ofChange planWholeWrong)

/- THE SECOND FORM. 'bulk': how many values and letters a reading holds, each counted each time it is reached (what is shared counts as often as it is met; a slice's spare places count too). A statement '..UptoSaid' is the law's where the arguments, and the package variables that the reading takes, are together of bulk at most 1048576: NARROWER than '..Said'. Prove '..Said' where nothing that the law and all that it calls make is longer than what came in: it says more and counts as full. Else prove '..UptoSaid'. A law counts once. -/
mutual
def uptoBulk {H : Type} : DataW H → Nat
  | .lit (.string bytes) => bytes.length + 1
  | .lit _ => 1
  | .nil => 1
  | .ptr d => uptoBulk d + 1
  | .slice elems spare => uptoBulkAll elems + uptoBulkAll spare + 1
  | .agg parts => uptoBulkAll parts + 1
  | .iface _ d => uptoBulk d + 1
  | .map entries => uptoBulkEntries entries + 1
  | .held _ => 1
def uptoBulkAll {H : Type} : List (DataW H) → Nat
  | [] => 0
  | d :: r => uptoBulk d + uptoBulkAll r
def uptoBulkEntries {H : Type} : List (Lit × DataW H) → Nat
  | [] => 0
  | x :: r => uptoBulkEntry x + uptoBulkEntries r
def uptoBulkEntry {H : Type} : Lit × DataW H → Nat
  | (.string bytes, d) => bytes.length + uptoBulk d + 1
  | (_, d) => uptoBulk d + 1
 end
def uptoSmall : (H : Type) → List (DataW H) → Bool := fun _ ds => decide (uptoBulkAll ds ≤ 1048576)
def OpenSpec.upto (s : _root_.Go.ChangeSpec) : _root_.Go.OpenSpec := { _root_.Go.OpenSpec.ofChange s with cond := some uptoSmall }

/-- 'jackstaylaw14.PlanDone', WHERE WHAT IT READS IS OF BULK AT MOST 1048576: true; the input reads as it did. -/
def planDoneUptoRow : OpenClaim := { program := "ytohgnkjemfkeoaa", sum := "88e504dc0136bb24ac178ed4a648f4f341fe0945ba3144b4af2a1ace3d884d14", func := "jackstay/jackstaylaw14.PlanDone", spec := "planDone", unfollowed := true, recurses := true, apart := false, narrowed := true }
def PlanDoneUptoSaid : Prop := planDoneUptoRow.holds Try.pinned (OpenSpec.upto planDoneSpec)

/-- 'jackstaylaw14.PlanPieces', WHERE WHAT IT READS IS OF BULK AT MOST 1048576: true; the input reads as it did. -/
def planPiecesUptoRow : OpenClaim := { program := "ytohgnkjemfkeoaa", sum := "88e504dc0136bb24ac178ed4a648f4f341fe0945ba3144b4af2a1ace3d884d14", func := "jackstay/jackstaylaw14.PlanPieces", spec := "planPieces", unfollowed := true, recurses := true, apart := false, narrowed := true }
def PlanPiecesUptoSaid : Prop := planPiecesUptoRow.holds Try.pinned (OpenSpec.upto planPiecesSpec)

/-- 'jackstaylaw14.PlanOwn', WHERE WHAT IT READS IS OF BULK AT MOST 1048576: true; the input reads as it did. -/
def planOwnUptoRow : OpenClaim := { program := "ytohgnkjemfkeoaa", sum := "88e504dc0136bb24ac178ed4a648f4f341fe0945ba3144b4af2a1ace3d884d14", func := "jackstay/jackstaylaw14.PlanOwn", spec := "planOwn", unfollowed := true, recurses := true, apart := false, narrowed := true }
def PlanOwnUptoSaid : Prop := planOwnUptoRow.holds Try.pinned (OpenSpec.upto planOwnSpec)

/-- 'jackstaylaw14.PlanCuts', WHERE WHAT IT READS IS OF BULK AT MOST 1048576: true; the input reads as it did. -/
def planCutsUptoRow : OpenClaim := { program := "ytohgnkjemfkeoaa", sum := "88e504dc0136bb24ac178ed4a648f4f341fe0945ba3144b4af2a1ace3d884d14", func := "jackstay/jackstaylaw14.PlanCuts", spec := "planCuts", unfollowed := true, recurses := true, apart := false, narrowed := true }
def PlanCutsUptoSaid : Prop := planCutsUptoRow.holds Try.pinned (OpenSpec.upto planCutsSpec)

/-- 'jackstaylaw14.PlanJoins', WHERE WHAT IT READS IS OF BULK AT MOST 1048576: true; the input reads as it did. -/
def planJoinsUptoRow : OpenClaim := { program := "ytohgnkjemfkeoaa", sum := "88e504dc0136bb24ac178ed4a648f4f341fe0945ba3144b4af2a1ace3d884d14", func := "jackstay/jackstaylaw14.PlanJoins", spec := "planJoins", unfollowed := true, recurses := true, apart := false, narrowed := true }
def PlanJoinsUptoSaid : Prop := planJoinsUptoRow.holds Try.pinned (OpenSpec.upto planJoinsSpec)

/-- 'jackstaylaw14.PlanReads', WHERE WHAT IT READS IS OF BULK AT MOST 1048576: true; the input reads as it did. -/
def planReadsUptoRow : OpenClaim := { program := "ytohgnkjemfkeoaa", sum := "88e504dc0136bb24ac178ed4a648f4f341fe0945ba3144b4af2a1ace3d884d14", func := "jackstay/jackstaylaw14.PlanReads", spec := "planReads", unfollowed := true, recurses := true, apart := false, narrowed := true }
def PlanReadsUptoSaid : Prop := planReadsUptoRow.holds Try.pinned (OpenSpec.upto planReadsSpec)

/-- 'jackstaylaw14.PlanWhole', WHERE WHAT IT READS IS OF BULK AT MOST 1048576: true; the input reads as it did. -/
def planWholeUptoRow : OpenClaim := { program := "ytohgnkjemfkeoaa", sum := "88e504dc0136bb24ac178ed4a648f4f341fe0945ba3144b4af2a1ace3d884d14", func := "jackstay/jackstaylaw14.PlanWhole", spec := "planWhole", unfollowed := true, recurses := true, apart := false, narrowed := true }
def PlanWholeUptoSaid : Prop := planWholeUptoRow.holds Try.pinned (OpenSpec.upto planWholeSpec)

end Rows
end Go.Proofs.Ytohgnkjemfkeoaa
