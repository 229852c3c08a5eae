/-
  No cell of these rows narrows 'for every input' (looked for: loops, veiled, ifaces, maps, wideKeys, modest, calm, conditions, laid).
  DERIVED. THE GIVEN ROWS OF THIS SEAT. 6 by the template 'for every input the law returns true; each argument reads behind the call as it read before'; 0 by the template 'total and deterministic' (their statements: YtfdbadpiklmbaaaTotals.lean).
  GIVEN WITH THE SEED: the statements are not yours to turn. If you find one false, say at which input.
  Laid BY PROGRAM, IN A SANDBOX (cutbox-rows.mjs): the forced cells as the released guide's own fill.sh prints them over the translation d1335ae3e4dc448f… (all of the seat's roots in one cut). By AI agents, Wed Nov 11 2026. No macro, syntax, notation, axiom, sorry.
-/
import Derived.Test.YtfdbadpiklmbaaaChecked
import GoSem.Claim
import GoSem.ClaimJoined
import GoSem.ClaimMapViews
import Derived.JoinedTies
import Derived.KernelRfl
namespace Go.Proofs.Ytfdbadpiklmbaaa
/- THE CELL 'sum', in the pinned program and in every row, IS THE sha256 OF THE DUMP (.gsa) THAT YtfdbadpiklmbaaaProg.lean LOADS. Nothing in Lean hashes anything: it is a label: what it is worth is what the hold of that sum in a sandbox is worth. -/
noncomputable def Try.pinned : Pinned := { name := "ytfdbadpiklmbaaa", sum := "d1335ae3e4dc448ffef8304e5507b7e3f9c04a3982d7160ae731fc6dc836e4d6", checked := Try.checked }
namespace Rows
def none {H : Type} : Left H := { results := [], args := [] }

/-- 'jackstaylaw07.CowMany': WHATEVER THE INPUT: true; the input reads as it did. -/
def cowManySpec : ChangeSpec := { name := "cowMany", fn := fun _ => fun
  | [d] => { results := [.lit (.bool true)], args := [d] }
  | _ => none }
def cowManyRow : OpenClaim := { program := "ytfdbadpiklmbaaa", sum := "d1335ae3e4dc448ffef8304e5507b7e3f9c04a3982d7160ae731fc6dc836e4d6", func := "jackstay/jackstaylaw07.CowMany", spec := "cowMany", unfollowed := true, recurses := true, apart := false }
def CowManySaid : Prop := cowManyRow.holds Try.pinned (OpenSpec.ofChange cowManySpec)

/-- ITS FALSE NEIGHBOUR: 'it returns false'. Refute it at one input. -/
def cowManyWrong : ChangeSpec := { name := "cowMany", fn := fun _ => fun
  | [d] => { results := [.lit (.bool false)], args := [d] }
  | _ => none }
def CowManyWrongFalsely : Prop := cowManyRow.holds Try.pinned (OpenSpec.ofChange cowManyWrong)

/-- 'jackstaylaw07.CowStays': WHATEVER THE INPUT: true; the input reads as it did. -/
def cowStaysSpec : ChangeSpec := { name := "cowStays", fn := fun _ => fun
  | [d] => { results := [.lit (.bool true)], args := [d] }
  | _ => none }
def cowStaysRow : OpenClaim := { program := "ytfdbadpiklmbaaa", sum := "d1335ae3e4dc448ffef8304e5507b7e3f9c04a3982d7160ae731fc6dc836e4d6", func := "jackstay/jackstaylaw07.CowStays", spec := "cowStays", unfollowed := true, recurses := true, apart := false }
def CowStaysSaid : Prop := cowStaysRow.holds Try.pinned (OpenSpec.ofChange cowStaysSpec)

/-- ITS FALSE NEIGHBOUR: 'it returns false'. Refute it at one input. -/
def cowStaysWrong : ChangeSpec := { name := "cowStays", fn := fun _ => fun
  | [d] => { results := [.lit (.bool false)], args := [d] }
  | _ => none }
def CowStaysWrongFalsely : Prop := cowStaysRow.holds Try.pinned (OpenSpec.ofChange cowStaysWrong)

/-- 'jackstaylaw07.CowDeep': WHATEVER THE INPUT: true; the input reads as it did. -/
def cowDeepSpec : ChangeSpec := { name := "cowDeep", fn := fun _ => fun
  | [d] => { results := [.lit (.bool true)], args := [d] }
  | _ => none }
def cowDeepRow : OpenClaim := { program := "ytfdbadpiklmbaaa", sum := "d1335ae3e4dc448ffef8304e5507b7e3f9c04a3982d7160ae731fc6dc836e4d6", func := "jackstay/jackstaylaw07.CowDeep", spec := "cowDeep", unfollowed := true, recurses := true, apart := false }
def CowDeepSaid : Prop := cowDeepRow.holds Try.pinned (OpenSpec.ofChange cowDeepSpec)

/-- ITS FALSE NEIGHBOUR: 'it returns false'. Refute it at one input. -/
def cowDeepWrong : ChangeSpec := { name := "cowDeep", fn := fun _ => fun
  | [d] => { results := [.lit (.bool false)], args := [d] }
  | _ => none }
def CowDeepWrongFalsely : Prop := cowDeepRow.holds Try.pinned (OpenSpec.ofChange cowDeepWrong)

/-- 'jackstaylaw07.CowPlays': WHATEVER THE INPUT: true; the input reads as it did. -/
def cowPlaysSpec : ChangeSpec := { name := "cowPlays", fn := fun _ => fun
  | [d1, d2] => { results := [.lit (.bool true)], args := [d1, d2] }
  | _ => none }
def cowPlaysRow : OpenClaim := { program := "ytfdbadpiklmbaaa", sum := "d1335ae3e4dc448ffef8304e5507b7e3f9c04a3982d7160ae731fc6dc836e4d6", func := "jackstay/jackstaylaw07.CowPlays", spec := "cowPlays", unfollowed := true, recurses := true, apart := false }
def CowPlaysSaid : Prop := cowPlaysRow.holds Try.pinned (OpenSpec.ofChange cowPlaysSpec)

/-- ITS FALSE NEIGHBOUR: 'it returns false'. Refute it at one input. -/
def cowPlaysWrong : ChangeSpec := { name := "cowPlays", fn := fun _ => fun
  | [d1, d2] => { results := [.lit (.bool false)], args := [d1, d2] }
  | _ => none }
def CowPlaysWrongFalsely : Prop := cowPlaysRow.holds Try.pinned (OpenSpec.ofChange cowPlaysWrong)

/-- 'jackstaylaw07.CowFresh': WHATEVER THE INPUT: true; the input reads as it did. -/
def cowFreshSpec : ChangeSpec := { name := "cowFresh", fn := fun _ => fun
  | [d] => { results := [.lit (.bool true)], args := [d] }
  | _ => none }
def cowFreshRow : OpenClaim := { program := "ytfdbadpiklmbaaa", sum := "d1335ae3e4dc448ffef8304e5507b7e3f9c04a3982d7160ae731fc6dc836e4d6", func := "jackstay/jackstaylaw07.CowFresh", spec := "cowFresh", unfollowed := true, recurses := true, apart := false }
def CowFreshSaid : Prop := cowFreshRow.holds Try.pinned (OpenSpec.ofChange cowFreshSpec)

/-- ITS FALSE NEIGHBOUR: 'it returns false'. Refute it at one input. -/
def cowFreshWrong : ChangeSpec := { name := "cowFresh", fn := fun _ => fun
  | [d] => { results := [.lit (.bool false)], args := [d] }
  | _ => none }
def CowFreshWrongFalsely : Prop := cowFreshRow.holds Try.pinned (OpenSpec.ofChange cowFreshWrong)

/-- 'jackstaylaw07.CowNobody': WHATEVER THE INPUT: true; the input reads as it did. -/
def cowNobodySpec : ChangeSpec := { name := "cowNobody", fn := fun _ => fun
  | [d] => { results := [.lit (.bool true)], args := [d] }
  | _ => none }
def cowNobodyRow : OpenClaim := { program := "ytfdbadpiklmbaaa", sum := "d1335ae3e4dc448ffef8304e5507b7e3f9c04a3982d7160ae731fc6dc836e4d6", func := "jackstay/jackstaylaw07.CowNobody", spec := "cowNobody", unfollowed := true, recurses := true, apart := false }
def CowNobodySaid : Prop := cowNobodyRow.holds Try.pinned (OpenSpec.ofChange cowNobodySpec)

/-- ITS FALSE NEIGHBOUR: 'it returns false'. Refute it at one input. -/
def cowNobodyWrong : ChangeSpec := { name := "cowNobody", fn := fun _ => fun
  | [d] => { results := [.lit (.bool false)], args := [d] }
  | _ => none }
def CowNobodyWrongFalsely : Prop := cowNobodyRow.holds Try.pinned (OpenSpec.ofChange cowNobodyWrong)

/- THE SECOND FORM. 'bulk': how many values and letters a reading holds, each counted each time it is reached (what is shared counts as often as it is met; a slice's spare places count too). A statement '..UptoSaid' is the law's where the arguments, and the package variables that the reading takes, are together of bulk at most 1048576: NARROWER than '..Said'. Prove '..Said' where nothing that the law and all that it calls make is longer than what came in: it says more and counts as full. Else prove '..UptoSaid'. A law counts once. -/
mutual
def uptoBulk {H : Type} : DataW H → Nat
  | .lit (.string bytes) => bytes.length + 1
  | .lit _ => 1
  | .nil => 1
  | .ptr d => uptoBulk d + 1
  | .slice elems spare => uptoBulkAll elems + uptoBulkAll spare + 1
  | .agg parts => uptoBulkAll parts + 1
  | .iface _ d => uptoBulk d + 1
  | .map entries => uptoBulkEntries entries + 1
  | .held _ => 1
def uptoBulkAll {H : Type} : List (DataW H) → Nat
  | [] => 0
  | d :: r => uptoBulk d + uptoBulkAll r
def uptoBulkEntries {H : Type} : List (Lit × DataW H) → Nat
  | [] => 0
  | x :: r => uptoBulkEntry x + uptoBulkEntries r
def uptoBulkEntry {H : Type} : Lit × DataW H → Nat
  | (.string bytes, d) => bytes.length + uptoBulk d + 1
  | (_, d) => uptoBulk d + 1
 end
def uptoSmall : (H : Type) → List (DataW H) → Bool := fun _ ds => decide (uptoBulkAll ds ≤ 1048576)
def OpenSpec.upto (s : _root_.Go.ChangeSpec) : _root_.Go.OpenSpec := { _root_.Go.OpenSpec.ofChange s with cond := some uptoSmall }

/-- 'jackstaylaw07.CowMany', WHERE WHAT IT READS IS OF BULK AT MOST 1048576: true; the input reads as it did. -/
def cowManyUptoRow : OpenClaim := { program := "ytfdbadpiklmbaaa", sum := "d1335ae3e4dc448ffef8304e5507b7e3f9c04a3982d7160ae731fc6dc836e4d6", func := "jackstay/jackstaylaw07.CowMany", spec := "cowMany", unfollowed := true, recurses := true, apart := false, narrowed := true }
def CowManyUptoSaid : Prop := cowManyUptoRow.holds Try.pinned (OpenSpec.upto cowManySpec)

/-- 'jackstaylaw07.CowStays', WHERE WHAT IT READS IS OF BULK AT MOST 1048576: true; the input reads as it did. -/
def cowStaysUptoRow : OpenClaim := { program := "ytfdbadpiklmbaaa", sum := "d1335ae3e4dc448ffef8304e5507b7e3f9c04a3982d7160ae731fc6dc836e4d6", func := "jackstay/jackstaylaw07.CowStays", spec := "cowStays", unfollowed := true, recurses := true, apart := false, narrowed := true }
def CowStaysUptoSaid : Prop := cowStaysUptoRow.holds Try.pinned (OpenSpec.upto cowStaysSpec)

/-- 'jackstaylaw07.CowDeep', WHERE WHAT IT READS IS OF BULK AT MOST 1048576: true; the input reads as it did. -/
def cowDeepUptoRow : OpenClaim := { program := "ytfdbadpiklmbaaa", sum := "d1335ae3e4dc448ffef8304e5507b7e3f9c04a3982d7160ae731fc6dc836e4d6", func := "jackstay/jackstaylaw07.CowDeep", spec := "cowDeep", unfollowed := true, recurses := true, apart := false, narrowed := true }
def CowDeepUptoSaid : Prop := cowDeepUptoRow.holds Try.pinned (OpenSpec.upto cowDeepSpec)

/-- 'jackstaylaw07.CowPlays', WHERE WHAT IT READS IS OF BULK AT MOST 1048576: true; the input reads as it did. -/
def cowPlaysUptoRow : OpenClaim := { program := "ytfdbadpiklmbaaa", sum := "d1335ae3e4dc448ffef8304e5507b7e3f9c04a3982d7160ae731fc6dc836e4d6", func := "jackstay/jackstaylaw07.CowPlays", spec := "cowPlays", unfollowed := true, recurses := true, apart := false, narrowed := true }
def CowPlaysUptoSaid : Prop := cowPlaysUptoRow.holds Try.pinned (OpenSpec.upto cowPlaysSpec)

/-- 'jackstaylaw07.CowFresh', WHERE WHAT IT READS IS OF BULK AT MOST 1048576: true; the input reads as it did. -/
def cowFreshUptoRow : OpenClaim := { program := "ytfdbadpiklmbaaa", sum := "d1335ae3e4dc448ffef8304e5507b7e3f9c04a3982d7160ae731fc6dc836e4d6", func := "jackstay/jackstaylaw07.CowFresh", spec := "cowFresh", unfollowed := true, recurses := true, apart := false, narrowed := true }
def CowFreshUptoSaid : Prop := cowFreshUptoRow.holds Try.pinned (OpenSpec.upto cowFreshSpec)

/-- 'jackstaylaw07.CowNobody', WHERE WHAT IT READS IS OF BULK AT MOST 1048576: true; the input reads as it did. -/
def cowNobodyUptoRow : OpenClaim := { program := "ytfdbadpiklmbaaa", sum := "d1335ae3e4dc448ffef8304e5507b7e3f9c04a3982d7160ae731fc6dc836e4d6", func := "jackstay/jackstaylaw07.CowNobody", spec := "cowNobody", unfollowed := true, recurses := true, apart := false, narrowed := true }
def CowNobodyUptoSaid : Prop := cowNobodyUptoRow.holds Try.pinned (OpenSpec.upto cowNobodySpec)

end Rows
end Go.Proofs.Ytfdbadpiklmbaaa
