/-
  No cell of these rows narrows 'for every input' (looked for: loops, veiled, ifaces, maps, wideKeys, modest, calm, conditions, laid).
  DERIVED. THE GIVEN ROWS OF THIS SEAT. 5 by the template 'for every input the law returns true; each argument reads behind the call as it read before'; 0 by the template 'total and deterministic' (their statements: YtjkganmkfhciiaaTotals.lean).
  GIVEN WITH THE SEED: the statements are not yours to turn. If you find one false, say at which input.
  Laid BY PROGRAM, IN A SANDBOX (cutbox-rows.mjs): the forced cells as the released guide's own fill.sh prints them over the translation 91afe69750274d33… (all of the seat's roots in one cut). By AI agents, Wed Nov 11 2026. No macro, syntax, notation, axiom, sorry.
-/
import Derived.Test.YtjkganmkfhciiaaChecked
import GoSem.Claim
import GoSem.ClaimJoined
import GoSem.ClaimMapViews
import Derived.JoinedTies
import Derived.KernelRfl
namespace Go.Proofs.Ytjkganmkfhciiaa
/- THE CELL 'sum', in the pinned program and in every row, IS THE sha256 OF THE DUMP (.gsa) THAT YtjkganmkfhciiaaProg.lean LOADS. Nothing in Lean hashes anything: it is a label: what it is worth is what the hold of that sum in a sandbox is worth. -/
noncomputable def Try.pinned : Pinned := { name := "ytjkganmkfhciiaa", sum := "91afe69750274d330e9dbe0cf5b7ed06e743f33d002682fd8af8c8e707fc66ec", checked := Try.checked }
namespace Rows
def none {H : Type} : Left H := { results := [], args := [] }

/-- 'jackstaylaw12.ShardFrozen': WHATEVER THE INPUT: true; the input reads as it did. -/
def shardFrozenSpec : ChangeSpec := { name := "shardFrozen", fn := fun _ => fun
  | [d1, d2, d3] => { results := [.lit (.bool true)], args := [d1, d2, d3] }
  | _ => none }
def shardFrozenRow : OpenClaim := { program := "ytjkganmkfhciiaa", sum := "91afe69750274d330e9dbe0cf5b7ed06e743f33d002682fd8af8c8e707fc66ec", func := "jackstay/jackstaylaw12.ShardFrozen", spec := "shardFrozen", unfollowed := true, recurses := true, apart := false }
def ShardFrozenSaid : Prop := shardFrozenRow.holds Try.pinned (OpenSpec.ofChange shardFrozenSpec)

/-- ITS FALSE NEIGHBOUR: 'it returns false'. Refute it at one input. -/
def shardFrozenWrong : ChangeSpec := { name := "shardFrozen", fn := fun _ => fun
  | [d1, d2, d3] => { results := [.lit (.bool false)], args := [d1, d2, d3] }
  | _ => none }
def ShardFrozenWrongFalsely : Prop := shardFrozenRow.holds Try.pinned (OpenSpec.ofChange shardFrozenWrong)

/-- 'jackstaylaw12.ShardStays': WHATEVER THE INPUT: true; the input reads as it did. -/
def shardStaysSpec : ChangeSpec := { name := "shardStays", fn := fun _ => fun
  | [d1, d2] => { results := [.lit (.bool true)], args := [d1, d2] }
  | _ => none }
def shardStaysRow : OpenClaim := { program := "ytjkganmkfhciiaa", sum := "91afe69750274d330e9dbe0cf5b7ed06e743f33d002682fd8af8c8e707fc66ec", func := "jackstay/jackstaylaw12.ShardStays", spec := "shardStays", unfollowed := true, recurses := true, apart := false }
def ShardStaysSaid : Prop := shardStaysRow.holds Try.pinned (OpenSpec.ofChange shardStaysSpec)

/-- ITS FALSE NEIGHBOUR: 'it returns false'. Refute it at one input. -/
def shardStaysWrong : ChangeSpec := { name := "shardStays", fn := fun _ => fun
  | [d1, d2] => { results := [.lit (.bool false)], args := [d1, d2] }
  | _ => none }
def ShardStaysWrongFalsely : Prop := shardStaysRow.holds Try.pinned (OpenSpec.ofChange shardStaysWrong)

/-- 'jackstaylaw12.ShardSince': WHATEVER THE INPUT: true; the input reads as it did. -/
def shardSinceSpec : ChangeSpec := { name := "shardSince", fn := fun _ => fun
  | [d1, d2] => { results := [.lit (.bool true)], args := [d1, d2] }
  | _ => none }
def shardSinceRow : OpenClaim := { program := "ytjkganmkfhciiaa", sum := "91afe69750274d330e9dbe0cf5b7ed06e743f33d002682fd8af8c8e707fc66ec", func := "jackstay/jackstaylaw12.ShardSince", spec := "shardSince", unfollowed := true, recurses := true, apart := false }
def ShardSinceSaid : Prop := shardSinceRow.holds Try.pinned (OpenSpec.ofChange shardSinceSpec)

/-- ITS FALSE NEIGHBOUR: 'it returns false'. Refute it at one input. -/
def shardSinceWrong : ChangeSpec := { name := "shardSince", fn := fun _ => fun
  | [d1, d2] => { results := [.lit (.bool false)], args := [d1, d2] }
  | _ => none }
def ShardSinceWrongFalsely : Prop := shardSinceRow.holds Try.pinned (OpenSpec.ofChange shardSinceWrong)

/-- 'jackstaylaw12.ShardDurable': WHATEVER THE INPUT: true; the input reads as it did. -/
def shardDurableSpec : ChangeSpec := { name := "shardDurable", fn := fun _ => fun
  | [d1, d2, d3] => { results := [.lit (.bool true)], args := [d1, d2, d3] }
  | _ => none }
def shardDurableRow : OpenClaim := { program := "ytjkganmkfhciiaa", sum := "91afe69750274d330e9dbe0cf5b7ed06e743f33d002682fd8af8c8e707fc66ec", func := "jackstay/jackstaylaw12.ShardDurable", spec := "shardDurable", unfollowed := true, recurses := true, apart := false }
def ShardDurableSaid : Prop := shardDurableRow.holds Try.pinned (OpenSpec.ofChange shardDurableSpec)

/-- ITS FALSE NEIGHBOUR: 'it returns false'. Refute it at one input. -/
def shardDurableWrong : ChangeSpec := { name := "shardDurable", fn := fun _ => fun
  | [d1, d2, d3] => { results := [.lit (.bool false)], args := [d1, d2, d3] }
  | _ => none }
def ShardDurableWrongFalsely : Prop := shardDurableRow.holds Try.pinned (OpenSpec.ofChange shardDurableWrong)

/-- 'jackstaylaw12.ShardNobody': WHATEVER THE INPUT: true; the input reads as it did. -/
def shardNobodySpec : ChangeSpec := { name := "shardNobody", fn := fun _ => fun
  | [d] => { results := [.lit (.bool true)], args := [d] }
  | _ => none }
def shardNobodyRow : OpenClaim := { program := "ytjkganmkfhciiaa", sum := "91afe69750274d330e9dbe0cf5b7ed06e743f33d002682fd8af8c8e707fc66ec", func := "jackstay/jackstaylaw12.ShardNobody", spec := "shardNobody", unfollowed := true, recurses := true, apart := false }
def ShardNobodySaid : Prop := shardNobodyRow.holds Try.pinned (OpenSpec.ofChange shardNobodySpec)

/-- ITS FALSE NEIGHBOUR: 'it returns false'. Refute it at one input. -/
def shardNobodyWrong : ChangeSpec := { name := "shardNobody", fn := fun _ => fun
  | [d] => { results := [.lit (.bool false)], args := [d] }
  | _ => none }
def ShardNobodyWrongFalsely : Prop := shardNobodyRow.holds Try.pinned (OpenSpec.ofChange shardNobodyWrong)

/- THE SECOND FORM. 'bulk': how many values and letters a reading holds, each counted each time it is reached (what is shared counts as often as it is met; a slice's spare places count too). A statement '..UptoSaid' is the law's where the arguments, and the package variables that the reading takes, are together of bulk at most 1048576: NARROWER than '..Said'. Prove '..Said' where nothing that the law and all that it calls make is longer than what came in: it says more and counts as full. Else prove '..UptoSaid'. A law counts once. -/
mutual
def uptoBulk {H : Type} : DataW H → Nat
  | .lit (.string bytes) => bytes.length + 1
  | .lit _ => 1
  | .nil => 1
  | .ptr d => uptoBulk d + 1
  | .slice elems spare => uptoBulkAll elems + uptoBulkAll spare + 1
  | .agg parts => uptoBulkAll parts + 1
  | .iface _ d => uptoBulk d + 1
  | .map entries => uptoBulkEntries entries + 1
  | .held _ => 1
def uptoBulkAll {H : Type} : List (DataW H) → Nat
  | [] => 0
  | d :: r => uptoBulk d + uptoBulkAll r
def uptoBulkEntries {H : Type} : List (Lit × DataW H) → Nat
  | [] => 0
  | x :: r => uptoBulkEntry x + uptoBulkEntries r
def uptoBulkEntry {H : Type} : Lit × DataW H → Nat
  | (.string bytes, d) => bytes.length + uptoBulk d + 1
  | (_, d) => uptoBulk d + 1
 end
def uptoSmall : (H : Type) → List (DataW H) → Bool := fun _ ds => decide (uptoBulkAll ds ≤ 1048576)
def OpenSpec.upto (s : _root_.Go.ChangeSpec) : _root_.Go.OpenSpec := { _root_.Go.OpenSpec.ofChange s with cond := some uptoSmall }

/-- 'jackstaylaw12.ShardFrozen', WHERE WHAT IT READS IS OF BULK AT MOST 1048576: true; the input reads as it did. -/
def shardFrozenUptoRow : OpenClaim := { program := "ytjkganmkfhciiaa", sum := "91afe69750274d330e9dbe0cf5b7ed06e743f33d002682fd8af8c8e707fc66ec", func := "jackstay/jackstaylaw12.ShardFrozen", spec := "shardFrozen", unfollowed := true, recurses := true, apart := false, narrowed := true }
def ShardFrozenUptoSaid : Prop := shardFrozenUptoRow.holds Try.pinned (OpenSpec.upto shardFrozenSpec)

/-- 'jackstaylaw12.ShardStays', WHERE WHAT IT READS IS OF BULK AT MOST 1048576: true; the input reads as it did. -/
def shardStaysUptoRow : OpenClaim := { program := "ytjkganmkfhciiaa", sum := "91afe69750274d330e9dbe0cf5b7ed06e743f33d002682fd8af8c8e707fc66ec", func := "jackstay/jackstaylaw12.ShardStays", spec := "shardStays", unfollowed := true, recurses := true, apart := false, narrowed := true }
def ShardStaysUptoSaid : Prop := shardStaysUptoRow.holds Try.pinned (OpenSpec.upto shardStaysSpec)

/-- 'jackstaylaw12.ShardSince', WHERE WHAT IT READS IS OF BULK AT MOST 1048576: true; the input reads as it did. -/
def shardSinceUptoRow : OpenClaim := { program := "ytjkganmkfhciiaa", sum := "91afe69750274d330e9dbe0cf5b7ed06e743f33d002682fd8af8c8e707fc66ec", func := "jackstay/jackstaylaw12.ShardSince", spec := "shardSince", unfollowed := true, recurses := true, apart := false, narrowed := true }
def ShardSinceUptoSaid : Prop := shardSinceUptoRow.holds Try.pinned (OpenSpec.upto shardSinceSpec)

/-- 'jackstaylaw12.ShardDurable', WHERE WHAT IT READS IS OF BULK AT MOST 1048576: true; the input reads as it did. -/
def shardDurableUptoRow : OpenClaim := { program := "ytjkganmkfhciiaa", sum := "91afe69750274d330e9dbe0cf5b7ed06e743f33d002682fd8af8c8e707fc66ec", func := "jackstay/jackstaylaw12.ShardDurable", spec := "shardDurable", unfollowed := true, recurses := true, apart := false, narrowed := true }
def ShardDurableUptoSaid : Prop := shardDurableUptoRow.holds Try.pinned (OpenSpec.upto shardDurableSpec)

/-- 'jackstaylaw12.ShardNobody', WHERE WHAT IT READS IS OF BULK AT MOST 1048576: true; the input reads as it did. -/
def shardNobodyUptoRow : OpenClaim := { program := "ytjkganmkfhciiaa", sum := "91afe69750274d330e9dbe0cf5b7ed06e743f33d002682fd8af8c8e707fc66ec", func := "jackstay/jackstaylaw12.ShardNobody", spec := "shardNobody", unfollowed := true, recurses := true, apart := false, narrowed := true }
def ShardNobodyUptoSaid : Prop := shardNobodyUptoRow.holds Try.pinned (OpenSpec.upto shardNobodySpec)

end Rows
end Go.Proofs.Ytjkganmkfhciiaa
