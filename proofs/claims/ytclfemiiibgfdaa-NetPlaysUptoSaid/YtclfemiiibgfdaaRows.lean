/-
  No cell of these rows narrows 'for every input' (looked for: loops, veiled, ifaces, maps, wideKeys, modest, calm, conditions, laid).
  DERIVED. THE GIVEN ROWS OF THIS SEAT. 6 by the template 'for every input the law returns true; each argument reads behind the call as it read before'; 0 by the template 'total and deterministic' (their statements: YtclfemiiibgfdaaTotals.lean).
  GIVEN WITH THE SEED: the statements are not yours to turn. If you find one false, say at which input.
  Laid BY PROGRAM, IN A SANDBOX (cutbox-rows.mjs): the forced cells as the released guide's own fill.sh prints them over the translation 28fc21d5e690165a… (all of the seat's roots in one cut). By AI agents, Wed Nov 11 2026. No macro, syntax, notation, axiom, sorry.
-/
import Derived.Test.YtclfemiiibgfdaaChecked
import GoSem.Claim
import GoSem.ClaimJoined
import GoSem.ClaimMapViews
import Derived.JoinedTies
import Derived.KernelRfl
namespace Go.Proofs.Ytclfemiiibgfdaa
/- THE CELL 'sum', in the pinned program and in every row, IS THE sha256 OF THE DUMP (.gsa) THAT YtclfemiiibgfdaaProg.lean LOADS. Nothing in Lean hashes anything: it is a label: what it is worth is what the hold of that sum in a sandbox is worth. -/
noncomputable def Try.pinned : Pinned := { name := "ytclfemiiibgfdaa", sum := "28fc21d5e690165aed121b5a0491391a4fb66acd97f9ff9e355f98ad3e20c7ab", checked := Try.checked }
namespace Rows
def none {H : Type} : Left H := { results := [], args := [] }

/-- 'jackstaylaw15.NetBack': WHATEVER THE INPUT: true; the input reads as it did. -/
def netBackSpec : ChangeSpec := { name := "netBack", fn := fun _ => fun
  | [d] => { results := [.lit (.bool true)], args := [d] }
  | _ => none }
def netBackRow : OpenClaim := { program := "ytclfemiiibgfdaa", sum := "28fc21d5e690165aed121b5a0491391a4fb66acd97f9ff9e355f98ad3e20c7ab", func := "jackstay/jackstaylaw15.NetBack", spec := "netBack", apart := false }
def NetBackSaid : Prop := netBackRow.holds Try.pinned (OpenSpec.ofChange netBackSpec)

/-- ITS FALSE NEIGHBOUR: 'it returns false'. Refute it at one input. -/
def netBackWrong : ChangeSpec := { name := "netBack", fn := fun _ => fun
  | [d] => { results := [.lit (.bool false)], args := [d] }
  | _ => none }
def NetBackWrongFalsely : Prop := netBackRow.holds Try.pinned (OpenSpec.ofChange netBackWrong)

/-- 'jackstaylaw15.NetOne': WHATEVER THE INPUT: true; the input reads as it did. -/
def netOneSpec : ChangeSpec := { name := "netOne", fn := fun _ => fun
  | [d] => { results := [.lit (.bool true)], args := [d] }
  | _ => none }
def netOneRow : OpenClaim := { program := "ytclfemiiibgfdaa", sum := "28fc21d5e690165aed121b5a0491391a4fb66acd97f9ff9e355f98ad3e20c7ab", func := "jackstay/jackstaylaw15.NetOne", spec := "netOne", apart := false }
def NetOneSaid : Prop := netOneRow.holds Try.pinned (OpenSpec.ofChange netOneSpec)

/-- ITS FALSE NEIGHBOUR: 'it returns false'. Refute it at one input. -/
def netOneWrong : ChangeSpec := { name := "netOne", fn := fun _ => fun
  | [d] => { results := [.lit (.bool false)], args := [d] }
  | _ => none }
def NetOneWrongFalsely : Prop := netOneRow.holds Try.pinned (OpenSpec.ofChange netOneWrong)

/-- 'jackstaylaw15.NetTaken': WHATEVER THE INPUT: true; the input reads as it did. -/
def netTakenSpec : ChangeSpec := { name := "netTaken", fn := fun _ => fun
  | [d1, d2] => { results := [.lit (.bool true)], args := [d1, d2] }
  | _ => none }
def netTakenRow : OpenClaim := { program := "ytclfemiiibgfdaa", sum := "28fc21d5e690165aed121b5a0491391a4fb66acd97f9ff9e355f98ad3e20c7ab", func := "jackstay/jackstaylaw15.NetTaken", spec := "netTaken", apart := false }
def NetTakenSaid : Prop := netTakenRow.holds Try.pinned (OpenSpec.ofChange netTakenSpec)

/-- ITS FALSE NEIGHBOUR: 'it returns false'. Refute it at one input. -/
def netTakenWrong : ChangeSpec := { name := "netTaken", fn := fun _ => fun
  | [d1, d2] => { results := [.lit (.bool false)], args := [d1, d2] }
  | _ => none }
def NetTakenWrongFalsely : Prop := netTakenRow.holds Try.pinned (OpenSpec.ofChange netTakenWrong)

/-- 'jackstaylaw15.NetPlays': WHATEVER THE INPUT: true; the input reads as it did. -/
def netPlaysSpec : ChangeSpec := { name := "netPlays", fn := fun _ => fun
  | [d] => { results := [.lit (.bool true)], args := [d] }
  | _ => none }
def netPlaysRow : OpenClaim := { program := "ytclfemiiibgfdaa", sum := "28fc21d5e690165aed121b5a0491391a4fb66acd97f9ff9e355f98ad3e20c7ab", func := "jackstay/jackstaylaw15.NetPlays", spec := "netPlays", apart := false }
def NetPlaysSaid : Prop := netPlaysRow.holds Try.pinned (OpenSpec.ofChange netPlaysSpec)

/-- ITS FALSE NEIGHBOUR: 'it returns false'. Refute it at one input. -/
def netPlaysWrong : ChangeSpec := { name := "netPlays", fn := fun _ => fun
  | [d] => { results := [.lit (.bool false)], args := [d] }
  | _ => none }
def NetPlaysWrongFalsely : Prop := netPlaysRow.holds Try.pinned (OpenSpec.ofChange netPlaysWrong)

/-- 'jackstaylaw15.NetNobody': WHATEVER THE INPUT: true; the input reads as it did. -/
def netNobodySpec : ChangeSpec := { name := "netNobody", fn := fun _ => fun
  | [d1, d2] => { results := [.lit (.bool true)], args := [d1, d2] }
  | _ => none }
def netNobodyRow : OpenClaim := { program := "ytclfemiiibgfdaa", sum := "28fc21d5e690165aed121b5a0491391a4fb66acd97f9ff9e355f98ad3e20c7ab", func := "jackstay/jackstaylaw15.NetNobody", spec := "netNobody", apart := false }
def NetNobodySaid : Prop := netNobodyRow.holds Try.pinned (OpenSpec.ofChange netNobodySpec)

/-- ITS FALSE NEIGHBOUR: 'it returns false'. Refute it at one input. -/
def netNobodyWrong : ChangeSpec := { name := "netNobody", fn := fun _ => fun
  | [d1, d2] => { results := [.lit (.bool false)], args := [d1, d2] }
  | _ => none }
def NetNobodyWrongFalsely : Prop := netNobodyRow.holds Try.pinned (OpenSpec.ofChange netNobodyWrong)

/-- 'jackstaylaw15.NetPacks': WHATEVER THE INPUT: true; the input reads as it did. -/
def netPacksSpec : ChangeSpec := { name := "netPacks", fn := fun _ => fun
  | [d1, d2] => { results := [.lit (.bool true)], args := [d1, d2] }
  | _ => none }
def netPacksRow : OpenClaim := { program := "ytclfemiiibgfdaa", sum := "28fc21d5e690165aed121b5a0491391a4fb66acd97f9ff9e355f98ad3e20c7ab", func := "jackstay/jackstaylaw15.NetPacks", spec := "netPacks", apart := false }
def NetPacksSaid : Prop := netPacksRow.holds Try.pinned (OpenSpec.ofChange netPacksSpec)

/-- ITS FALSE NEIGHBOUR: 'it returns false'. Refute it at one input. -/
def netPacksWrong : ChangeSpec := { name := "netPacks", fn := fun _ => fun
  | [d1, d2] => { results := [.lit (.bool false)], args := [d1, d2] }
  | _ => none }
def NetPacksWrongFalsely : Prop := netPacksRow.holds Try.pinned (OpenSpec.ofChange netPacksWrong)

/- THE SECOND FORM. 'bulk': how many values and letters a reading holds, each counted each time it is reached (what is shared counts as often as it is met; a slice's spare places count too). A statement '..UptoSaid' is the law's where the arguments, and the package variables that the reading takes, are together of bulk at most 1048576: NARROWER than '..Said'. Prove '..Said' where nothing that the law and all that it calls make is longer than what came in: it says more and counts as full. Else prove '..UptoSaid'. A law counts once. -/
mutual
def uptoBulk {H : Type} : DataW H → Nat
  | .lit (.string bytes) => bytes.length + 1
  | .lit _ => 1
  | .nil => 1
  | .ptr d => uptoBulk d + 1
  | .slice elems spare => uptoBulkAll elems + uptoBulkAll spare + 1
  | .agg parts => uptoBulkAll parts + 1
  | .iface _ d => uptoBulk d + 1
  | .map entries => uptoBulkEntries entries + 1
  | .held _ => 1
def uptoBulkAll {H : Type} : List (DataW H) → Nat
  | [] => 0
  | d :: r => uptoBulk d + uptoBulkAll r
def uptoBulkEntries {H : Type} : List (Lit × DataW H) → Nat
  | [] => 0
  | x :: r => uptoBulkEntry x + uptoBulkEntries r
def uptoBulkEntry {H : Type} : Lit × DataW H → Nat
  | (.string bytes, d) => bytes.length + uptoBulk d + 1
  | (_, d) => uptoBulk d + 1
 end
def uptoSmall : (H : Type) → List (DataW H) → Bool := fun _ ds => decide (uptoBulkAll ds ≤ 1048576)
def OpenSpec.upto (s : _root_.Go.ChangeSpec) : _root_.Go.OpenSpec := { _root_.Go.OpenSpec.ofChange s with cond := some uptoSmall }

/-- 'jackstaylaw15.NetBack', WHERE WHAT IT READS IS OF BULK AT MOST 1048576: true; the input reads as it did. -/
def netBackUptoRow : OpenClaim := { program := "ytclfemiiibgfdaa", sum := "28fc21d5e690165aed121b5a0491391a4fb66acd97f9ff9e355f98ad3e20c7ab", func := "jackstay/jackstaylaw15.NetBack", spec := "netBack", apart := false, narrowed := true }
def NetBackUptoSaid : Prop := netBackUptoRow.holds Try.pinned (OpenSpec.upto netBackSpec)

/-- 'jackstaylaw15.NetOne', WHERE WHAT IT READS IS OF BULK AT MOST 1048576: true; the input reads as it did. -/
def netOneUptoRow : OpenClaim := { program := "ytclfemiiibgfdaa", sum := "28fc21d5e690165aed121b5a0491391a4fb66acd97f9ff9e355f98ad3e20c7ab", func := "jackstay/jackstaylaw15.NetOne", spec := "netOne", apart := false, narrowed := true }
def NetOneUptoSaid : Prop := netOneUptoRow.holds Try.pinned (OpenSpec.upto netOneSpec)

/-- 'jackstaylaw15.NetTaken', WHERE WHAT IT READS IS OF BULK AT MOST 1048576: true; the input reads as it did. -/
def netTakenUptoRow : OpenClaim := { program := "ytclfemiiibgfdaa", sum := "28fc21d5e690165aed121b5a0491391a4fb66acd97f9ff9e355f98ad3e20c7ab", func := "jackstay/jackstaylaw15.NetTaken", spec := "netTaken", apart := false, narrowed := true }
def NetTakenUptoSaid : Prop := netTakenUptoRow.holds Try.pinned (OpenSpec.upto netTakenSpec)

/-- 'jackstaylaw15.NetPlays', WHERE WHAT IT READS IS OF BULK AT MOST 1048576: true; the input reads as it did. -/
def netPlaysUptoRow : OpenClaim := { program := "ytclfemiiibgfdaa", sum := "28fc21d5e690165aed121b5a0491391a4fb66acd97f9ff9e355f98ad3e20c7ab", func := "jackstay/jackstaylaw15.NetPlays", spec := "netPlays", apart := false, narrowed := true }
def NetPlaysUptoSaid : Prop := netPlaysUptoRow.holds Try.pinned (OpenSpec.upto netPlaysSpec)

/-- 'jackstaylaw15.NetNobody', WHERE WHAT IT READS IS OF BULK AT MOST 1048576: true; the input reads as it did. -/
def netNobodyUptoRow : OpenClaim := { program := "ytclfemiiibgfdaa", sum := "28fc21d5e690165aed121b5a0491391a4fb66acd97f9ff9e355f98ad3e20c7ab", func := "jackstay/jackstaylaw15.NetNobody", spec := "netNobody", apart := false, narrowed := true }
def NetNobodyUptoSaid : Prop := netNobodyUptoRow.holds Try.pinned (OpenSpec.upto netNobodySpec)

/-- 'jackstaylaw15.NetPacks', WHERE WHAT IT READS IS OF BULK AT MOST 1048576: true; the input reads as it did. -/
def netPacksUptoRow : OpenClaim := { program := "ytclfemiiibgfdaa", sum := "28fc21d5e690165aed121b5a0491391a4fb66acd97f9ff9e355f98ad3e20c7ab", func := "jackstay/jackstaylaw15.NetPacks", spec := "netPacks", apart := false, narrowed := true }
def NetPacksUptoSaid : Prop := netPacksUptoRow.holds Try.pinned (OpenSpec.upto netPacksSpec)

end Rows
end Go.Proofs.Ytclfemiiibgfdaa
