/-
  No cell of these rows narrows 'for every input' (looked for: loops, veiled, ifaces, maps, wideKeys, modest, calm, conditions, laid).
  DERIVED. THE GIVEN ROWS OF THIS SEAT. 4 by the template 'for every input the law returns true; each argument reads behind the call as it read before'; 0 by the template 'total and deterministic' (their statements: YtolnacokdjognaaTotals.lean).
  GIVEN WITH THE SEED: the statements are not yours to turn. If you find one false, say at which input.
  Laid BY PROGRAM, IN A SANDBOX (cutbox-rows.mjs): the forced cells as the released guide's own fill.sh prints them over the translation c56acab6322f7c28… (all of the seat's roots in one cut). By AI agents, Wed Nov 11 2026. No macro, syntax, notation, axiom, sorry.
-/
import Derived.Test.YtolnacokdjognaaChecked
import GoSem.Claim
import GoSem.ClaimJoined
import GoSem.ClaimMapViews
import Derived.JoinedTies
import Derived.KernelRfl
namespace Go.Proofs.Ytolnacokdjognaa
/- THE CELL 'sum', in the pinned program and in every row, IS THE sha256 OF THE DUMP (.gsa) THAT YtolnacokdjognaaProg.lean LOADS. Nothing in Lean hashes anything: it is a label: what it is worth is what the hold of that sum in a sandbox is worth. -/
noncomputable def Try.pinned : Pinned := { name := "ytolnacokdjognaa", sum := "c56acab6322f7c2846131e81766877cd375e2d8a7523d005669e177c32388836", checked := Try.checked }
namespace Rows
def none {H : Type} : Left H := { results := [], args := [] }

/-- 'jackstaylaw19.SenderAll': WHATEVER THE INPUT: true; the input reads as it did. -/
def senderAllSpec : ChangeSpec := { name := "senderAll", fn := fun _ => fun
  | [d1, d2] => { results := [.lit (.bool true)], args := [d1, d2] }
  | _ => none }
def senderAllRow : OpenClaim := { program := "ytolnacokdjognaa", sum := "c56acab6322f7c2846131e81766877cd375e2d8a7523d005669e177c32388836", func := "jackstay/jackstaylaw19.SenderAll", spec := "senderAll", unfollowed := true, recurses := true, apart := false }
def SenderAllSaid : Prop := senderAllRow.holds Try.pinned (OpenSpec.ofChange senderAllSpec)

/-- ITS FALSE NEIGHBOUR: 'it returns false'. Refute it at one input. -/
def senderAllWrong : ChangeSpec := { name := "senderAll", fn := fun _ => fun
  | [d1, d2] => { results := [.lit (.bool false)], args := [d1, d2] }
  | _ => none }
def SenderAllWrongFalsely : Prop := senderAllRow.holds Try.pinned (OpenSpec.ofChange senderAllWrong)

/-- 'jackstaylaw19.SenderTurned': WHATEVER THE INPUT: true; the input reads as it did. -/
def senderTurnedSpec : ChangeSpec := { name := "senderTurned", fn := fun _ => fun
  | [d1, d2, d3] => { results := [.lit (.bool true)], args := [d1, d2, d3] }
  | _ => none }
def senderTurnedRow : OpenClaim := { program := "ytolnacokdjognaa", sum := "c56acab6322f7c2846131e81766877cd375e2d8a7523d005669e177c32388836", func := "jackstay/jackstaylaw19.SenderTurned", spec := "senderTurned", unfollowed := true, recurses := true, apart := false }
def SenderTurnedSaid : Prop := senderTurnedRow.holds Try.pinned (OpenSpec.ofChange senderTurnedSpec)

/-- ITS FALSE NEIGHBOUR: 'it returns false'. Refute it at one input. -/
def senderTurnedWrong : ChangeSpec := { name := "senderTurned", fn := fun _ => fun
  | [d1, d2, d3] => { results := [.lit (.bool false)], args := [d1, d2, d3] }
  | _ => none }
def SenderTurnedWrongFalsely : Prop := senderTurnedRow.holds Try.pinned (OpenSpec.ofChange senderTurnedWrong)

/-- 'jackstaylaw19.SenderNobody': WHATEVER THE INPUT: true; the input reads as it did. -/
def senderNobodySpec : ChangeSpec := { name := "senderNobody", fn := fun _ => fun
  | [d] => { results := [.lit (.bool true)], args := [d] }
  | _ => none }
def senderNobodyRow : OpenClaim := { program := "ytolnacokdjognaa", sum := "c56acab6322f7c2846131e81766877cd375e2d8a7523d005669e177c32388836", func := "jackstay/jackstaylaw19.SenderNobody", spec := "senderNobody", unfollowed := true, recurses := true, apart := false }
def SenderNobodySaid : Prop := senderNobodyRow.holds Try.pinned (OpenSpec.ofChange senderNobodySpec)

/-- ITS FALSE NEIGHBOUR: 'it returns false'. Refute it at one input. -/
def senderNobodyWrong : ChangeSpec := { name := "senderNobody", fn := fun _ => fun
  | [d] => { results := [.lit (.bool false)], args := [d] }
  | _ => none }
def SenderNobodyWrongFalsely : Prop := senderNobodyRow.holds Try.pinned (OpenSpec.ofChange senderNobodyWrong)

/-- 'jackstaylaw19.SenderFrom': WHATEVER THE INPUT: true; the input reads as it did. -/
def senderFromSpec : ChangeSpec := { name := "senderFrom", fn := fun _ => fun
  | [d1, d2, d3] => { results := [.lit (.bool true)], args := [d1, d2, d3] }
  | _ => none }
def senderFromRow : OpenClaim := { program := "ytolnacokdjognaa", sum := "c56acab6322f7c2846131e81766877cd375e2d8a7523d005669e177c32388836", func := "jackstay/jackstaylaw19.SenderFrom", spec := "senderFrom", unfollowed := true, recurses := true, apart := false }
def SenderFromSaid : Prop := senderFromRow.holds Try.pinned (OpenSpec.ofChange senderFromSpec)

/-- ITS FALSE NEIGHBOUR: 'it returns false'. Refute it at one input. -/
def senderFromWrong : ChangeSpec := { name := "senderFrom", fn := fun _ => fun
  | [d1, d2, d3] => { results := [.lit (.bool false)], args := [d1, d2, d3] }
  | _ => none }
def SenderFromWrongFalsely : Prop := senderFromRow.holds Try.pinned (OpenSpec.ofChange senderFromWrong)

/- THE SECOND FORM. 'bulk': how many values and letters a reading holds, each counted each time it is reached (what is shared counts as often as it is met; a slice's spare places count too). A statement '..UptoSaid' is the law's where the arguments, and the package variables that the reading takes, are together of bulk at most 1048576: NARROWER than '..Said'. Prove '..Said' where nothing that the law and all that it calls make is longer than what came in: it says more and counts as full. Else prove '..UptoSaid'. A law counts once. -/
mutual
def uptoBulk {H : Type} : DataW H → Nat
  | .lit (.string bytes) => bytes.length + 1
  | .lit _ => 1
  | .nil => 1
  | .ptr d => uptoBulk d + 1
  | .slice elems spare => uptoBulkAll elems + uptoBulkAll spare + 1
  | .agg parts => uptoBulkAll parts + 1
  | .iface _ d => uptoBulk d + 1
  | .map entries => uptoBulkEntries entries + 1
  | .held _ => 1
def uptoBulkAll {H : Type} : List (DataW H) → Nat
  | [] => 0
  | d :: r => uptoBulk d + uptoBulkAll r
def uptoBulkEntries {H : Type} : List (Lit × DataW H) → Nat
  | [] => 0
  | x :: r => uptoBulkEntry x + uptoBulkEntries r
def uptoBulkEntry {H : Type} : Lit × DataW H → Nat
  | (.string bytes, d) => bytes.length + uptoBulk d + 1
  | (_, d) => uptoBulk d + 1
 end
def uptoSmall : (H : Type) → List (DataW H) → Bool := fun _ ds => decide (uptoBulkAll ds ≤ 1048576)
def OpenSpec.upto (s : _root_.Go.ChangeSpec) : _root_.Go.OpenSpec := { _root_.Go.OpenSpec.ofChange s with cond := some uptoSmall }

/-- 'jackstaylaw19.SenderAll', WHERE WHAT IT READS IS OF BULK AT MOST 1048576: true; the input reads as it did. -/
def senderAllUptoRow : OpenClaim := { program := "ytolnacokdjognaa", sum := "c56acab6322f7c2846131e81766877cd375e2d8a7523d005669e177c32388836", func := "jackstay/jackstaylaw19.SenderAll", spec := "senderAll", unfollowed := true, recurses := true, apart := false, narrowed := true }
def SenderAllUptoSaid : Prop := senderAllUptoRow.holds Try.pinned (OpenSpec.upto senderAllSpec)

/-- 'jackstaylaw19.SenderTurned', WHERE WHAT IT READS IS OF BULK AT MOST 1048576: true; the input reads as it did. -/
def senderTurnedUptoRow : OpenClaim := { program := "ytolnacokdjognaa", sum := "c56acab6322f7c2846131e81766877cd375e2d8a7523d005669e177c32388836", func := "jackstay/jackstaylaw19.SenderTurned", spec := "senderTurned", unfollowed := true, recurses := true, apart := false, narrowed := true }
def SenderTurnedUptoSaid : Prop := senderTurnedUptoRow.holds Try.pinned (OpenSpec.upto senderTurnedSpec)

/-- 'jackstaylaw19.SenderNobody', WHERE WHAT IT READS IS OF BULK AT MOST 1048576: true; the input reads as it did. -/
def senderNobodyUptoRow : OpenClaim := { program := "ytolnacokdjognaa", sum := "c56acab6322f7c2846131e81766877cd375e2d8a7523d005669e177c32388836", func := "jackstay/jackstaylaw19.SenderNobody", spec := "senderNobody", unfollowed := true, recurses := true, apart := false, narrowed := true }
def SenderNobodyUptoSaid : Prop := senderNobodyUptoRow.holds Try.pinned (OpenSpec.upto senderNobodySpec)

/-- 'jackstaylaw19.SenderFrom', WHERE WHAT IT READS IS OF BULK AT MOST 1048576: true; the input reads as it did. -/
def senderFromUptoRow : OpenClaim := { program := "ytolnacokdjognaa", sum := "c56acab6322f7c2846131e81766877cd375e2d8a7523d005669e177c32388836", func := "jackstay/jackstaylaw19.SenderFrom", spec := "senderFrom", unfollowed := true, recurses := true, apart := false, narrowed := true }
def SenderFromUptoSaid : Prop := senderFromUptoRow.holds Try.pinned (OpenSpec.upto senderFromSpec)

end Rows
end Go.Proofs.Ytolnacokdjognaa
