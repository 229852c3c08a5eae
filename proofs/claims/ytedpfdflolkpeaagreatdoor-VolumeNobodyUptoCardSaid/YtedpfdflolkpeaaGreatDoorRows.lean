/-
  NARROWER THAN 'FOR EVERY INPUT', by the rows' own cells (each row's printed sentence says how): VolumeMaps: laid · VolumeLate: laid · VolumeCrash: laid · VolumeOnce: laid · VolumeFlush: laid · VolumePlays: laid · VolumeNobody: laid.
  DERIVED. THE GIVEN ROWS OF THIS SEAT. 7 by the template 'for every input the law returns true; each argument reads behind the call as it read before'; 0 by the template 'total and deterministic' (their statements: YtedpfdflolkpeaaGreatDoorTotals.lean).
  GIVEN WITH THE SEED: the statements are not yours to turn. If you find one false, say at which input.
  Laid BY PROGRAM, IN A SANDBOX (cutbox-rows.mjs): the forced cells as the released guide's own fill.sh prints them over the translation a52069ada23928c4… (all of the seat's roots in one cut). By AI agents, Wed Nov 11 2026. No macro, syntax, notation, axiom, sorry.
-/
import Derived.Test.YtedpfdflolkpeaaGreatDoorChecked
import GoSem.Claim
import GoSem.ClaimJoined
import GoSem.ClaimMapViews
import Derived.JoinedTies
import Derived.KernelRfl
namespace Go.Proofs.YtedpfdflolkpeaaGreatDoor
/- THE CELL 'sum', in the pinned program and in every row, IS THE sha256 OF THE DUMP (.gsa) THAT YtedpfdflolkpeaaGreatDoorProg.lean LOADS. Nothing in Lean hashes anything: it is a label: what it is worth is what the hold of that sum in a sandbox is worth. -/
noncomputable def Tryz.pinned : Pinned := { name := "ytedpfdflolkpeaagreatdoor", sum := "a52069ada23928c4e96f8bfccb1a9efbdfad80667e26129bf321a72c8f24d384", checked := Tryz.checked }
namespace Rows
def none {H : Type} : Left H := { results := [], args := [] }

/- WHAT THE LISTED PACKAGE-LEVEL VARIABLES READ AS WHEN THE CALL BEGINS. Each datum BY PROGRAM (the guide's laid-datum.mjs) off the statement by which the dump's own 'gosem.cut.vars' lays the variable. In a bare row this is a premise. The card (YtedpfdflolkpeaaGreatDoorCards.lean) ties it to the program's text. -/
def laid_errors_errorType {H : Type} : DataW H := .iface "internal/reflectlite.rtype" (.agg [.ptr (.lit (.string [101, 114, 114, 111, 114]))])

/-- 'jackstaylaw18.VolumeMaps': WHATEVER THE INPUT: true; the input reads as it did. -/
def volumeMapsSpec : ChangeSpec := { name := "volumeMaps", fn := fun _ => fun
  | [d1, d2] => { results := [.lit (.bool true)], args := [d1, d2] }
  | _ => none }
def volumeMapsRow : OpenClaim := { program := "ytedpfdflolkpeaagreatdoor", sum := "a52069ada23928c4e96f8bfccb1a9efbdfad80667e26129bf321a72c8f24d384", func := "jackstay/jackstaylaw18.VolumeMaps", spec := "volumeMaps", inPlace := ["internal/reflectlite.ValueOf", "(internal/reflectlite.Value).Type", "(internal/reflectlite.Value).IsNil", "internal/reflectlite.TypeOf", "(internal/reflectlite.Value).Elem", "(internal/reflectlite.Value).Set"], unfollowed := true, recurses := true, named := ["errors.errorType"], apart := false, laid := [("errors.errorType", laid_errors_errorType)] }
def VolumeMapsSaid : Prop := volumeMapsRow.holds Tryz.pinned (OpenSpec.ofChange volumeMapsSpec)

/-- ITS FALSE NEIGHBOUR: 'it returns false'. Refute it at one input. -/
def volumeMapsWrong : ChangeSpec := { name := "volumeMaps", fn := fun _ => fun
  | [d1, d2] => { results := [.lit (.bool false)], args := [d1, d2] }
  | _ => none }
def VolumeMapsWrongFalsely : Prop := volumeMapsRow.holds Tryz.pinned (OpenSpec.ofChange volumeMapsWrong)

/-- 'jackstaylaw18.VolumeLate': WHATEVER THE INPUT: true; the input reads as it did. -/
def volumeLateSpec : ChangeSpec := { name := "volumeLate", fn := fun _ => fun
  | [d1, d2] => { results := [.lit (.bool true)], args := [d1, d2] }
  | _ => none }
def volumeLateRow : OpenClaim := { program := "ytedpfdflolkpeaagreatdoor", sum := "a52069ada23928c4e96f8bfccb1a9efbdfad80667e26129bf321a72c8f24d384", func := "jackstay/jackstaylaw18.VolumeLate", spec := "volumeLate", inPlace := ["internal/reflectlite.ValueOf", "(internal/reflectlite.Value).Type", "(internal/reflectlite.Value).IsNil", "internal/reflectlite.TypeOf", "(internal/reflectlite.Value).Elem", "(internal/reflectlite.Value).Set"], unfollowed := true, recurses := true, named := ["errors.errorType"], apart := false, laid := [("errors.errorType", laid_errors_errorType)] }
def VolumeLateSaid : Prop := volumeLateRow.holds Tryz.pinned (OpenSpec.ofChange volumeLateSpec)

/-- ITS FALSE NEIGHBOUR: 'it returns false'. Refute it at one input. -/
def volumeLateWrong : ChangeSpec := { name := "volumeLate", fn := fun _ => fun
  | [d1, d2] => { results := [.lit (.bool false)], args := [d1, d2] }
  | _ => none }
def VolumeLateWrongFalsely : Prop := volumeLateRow.holds Tryz.pinned (OpenSpec.ofChange volumeLateWrong)

/-- 'jackstaylaw18.VolumeCrash': WHATEVER THE INPUT: true; the input reads as it did. -/
def volumeCrashSpec : ChangeSpec := { name := "volumeCrash", fn := fun _ => fun
  | [d1, d2, d3] => { results := [.lit (.bool true)], args := [d1, d2, d3] }
  | _ => none }
def volumeCrashRow : OpenClaim := { program := "ytedpfdflolkpeaagreatdoor", sum := "a52069ada23928c4e96f8bfccb1a9efbdfad80667e26129bf321a72c8f24d384", func := "jackstay/jackstaylaw18.VolumeCrash", spec := "volumeCrash", inPlace := ["internal/reflectlite.ValueOf", "(internal/reflectlite.Value).Type", "(internal/reflectlite.Value).IsNil", "internal/reflectlite.TypeOf", "(internal/reflectlite.Value).Elem", "(internal/reflectlite.Value).Set"], unfollowed := true, recurses := true, named := ["errors.errorType"], apart := false, laid := [("errors.errorType", laid_errors_errorType)] }
def VolumeCrashSaid : Prop := volumeCrashRow.holds Tryz.pinned (OpenSpec.ofChange volumeCrashSpec)

/-- ITS FALSE NEIGHBOUR: 'it returns false'. Refute it at one input. -/
def volumeCrashWrong : ChangeSpec := { name := "volumeCrash", fn := fun _ => fun
  | [d1, d2, d3] => { results := [.lit (.bool false)], args := [d1, d2, d3] }
  | _ => none }
def VolumeCrashWrongFalsely : Prop := volumeCrashRow.holds Tryz.pinned (OpenSpec.ofChange volumeCrashWrong)

/-- 'jackstaylaw18.VolumeOnce': WHATEVER THE INPUT: true; the input reads as it did. -/
def volumeOnceSpec : ChangeSpec := { name := "volumeOnce", fn := fun _ => fun
  | [d1, d2, d3] => { results := [.lit (.bool true)], args := [d1, d2, d3] }
  | _ => none }
def volumeOnceRow : OpenClaim := { program := "ytedpfdflolkpeaagreatdoor", sum := "a52069ada23928c4e96f8bfccb1a9efbdfad80667e26129bf321a72c8f24d384", func := "jackstay/jackstaylaw18.VolumeOnce", spec := "volumeOnce", inPlace := ["internal/reflectlite.ValueOf", "(internal/reflectlite.Value).Type", "(internal/reflectlite.Value).IsNil", "internal/reflectlite.TypeOf", "(internal/reflectlite.Value).Elem", "(internal/reflectlite.Value).Set"], unfollowed := true, recurses := true, named := ["errors.errorType"], apart := false, laid := [("errors.errorType", laid_errors_errorType)] }
def VolumeOnceSaid : Prop := volumeOnceRow.holds Tryz.pinned (OpenSpec.ofChange volumeOnceSpec)

/-- ITS FALSE NEIGHBOUR: 'it returns false'. Refute it at one input. -/
def volumeOnceWrong : ChangeSpec := { name := "volumeOnce", fn := fun _ => fun
  | [d1, d2, d3] => { results := [.lit (.bool false)], args := [d1, d2, d3] }
  | _ => none }
def VolumeOnceWrongFalsely : Prop := volumeOnceRow.holds Tryz.pinned (OpenSpec.ofChange volumeOnceWrong)

/-- 'jackstaylaw18.VolumeFlush': WHATEVER THE INPUT: true; the input reads as it did. -/
def volumeFlushSpec : ChangeSpec := { name := "volumeFlush", fn := fun _ => fun
  | [d1, d2, d3] => { results := [.lit (.bool true)], args := [d1, d2, d3] }
  | _ => none }
def volumeFlushRow : OpenClaim := { program := "ytedpfdflolkpeaagreatdoor", sum := "a52069ada23928c4e96f8bfccb1a9efbdfad80667e26129bf321a72c8f24d384", func := "jackstay/jackstaylaw18.VolumeFlush", spec := "volumeFlush", inPlace := ["internal/reflectlite.ValueOf", "(internal/reflectlite.Value).Type", "(internal/reflectlite.Value).IsNil", "internal/reflectlite.TypeOf", "(internal/reflectlite.Value).Elem", "(internal/reflectlite.Value).Set"], unfollowed := true, recurses := true, named := ["errors.errorType"], apart := false, laid := [("errors.errorType", laid_errors_errorType)] }
def VolumeFlushSaid : Prop := volumeFlushRow.holds Tryz.pinned (OpenSpec.ofChange volumeFlushSpec)

/-- ITS FALSE NEIGHBOUR: 'it returns false'. Refute it at one input. -/
def volumeFlushWrong : ChangeSpec := { name := "volumeFlush", fn := fun _ => fun
  | [d1, d2, d3] => { results := [.lit (.bool false)], args := [d1, d2, d3] }
  | _ => none }
def VolumeFlushWrongFalsely : Prop := volumeFlushRow.holds Tryz.pinned (OpenSpec.ofChange volumeFlushWrong)

/-- 'jackstaylaw18.VolumePlays': WHATEVER THE INPUT: true; the input reads as it did. -/
def volumePlaysSpec : ChangeSpec := { name := "volumePlays", fn := fun _ => fun
  | [d1, d2, d3] => { results := [.lit (.bool true)], args := [d1, d2, d3] }
  | _ => none }
def volumePlaysRow : OpenClaim := { program := "ytedpfdflolkpeaagreatdoor", sum := "a52069ada23928c4e96f8bfccb1a9efbdfad80667e26129bf321a72c8f24d384", func := "jackstay/jackstaylaw18.VolumePlays", spec := "volumePlays", inPlace := ["internal/reflectlite.ValueOf", "(internal/reflectlite.Value).Type", "(internal/reflectlite.Value).IsNil", "internal/reflectlite.TypeOf", "(internal/reflectlite.Value).Elem", "(internal/reflectlite.Value).Set"], unfollowed := true, recurses := true, named := ["errors.errorType"], apart := false, laid := [("errors.errorType", laid_errors_errorType)] }
def VolumePlaysSaid : Prop := volumePlaysRow.holds Tryz.pinned (OpenSpec.ofChange volumePlaysSpec)

/-- ITS FALSE NEIGHBOUR: 'it returns false'. Refute it at one input. -/
def volumePlaysWrong : ChangeSpec := { name := "volumePlays", fn := fun _ => fun
  | [d1, d2, d3] => { results := [.lit (.bool false)], args := [d1, d2, d3] }
  | _ => none }
def VolumePlaysWrongFalsely : Prop := volumePlaysRow.holds Tryz.pinned (OpenSpec.ofChange volumePlaysWrong)

/-- 'jackstaylaw18.VolumeNobody': WHATEVER THE INPUT: true; the input reads as it did. -/
def volumeNobodySpec : ChangeSpec := { name := "volumeNobody", fn := fun _ => fun
  | [d] => { results := [.lit (.bool true)], args := [d] }
  | _ => none }
def volumeNobodyRow : OpenClaim := { program := "ytedpfdflolkpeaagreatdoor", sum := "a52069ada23928c4e96f8bfccb1a9efbdfad80667e26129bf321a72c8f24d384", func := "jackstay/jackstaylaw18.VolumeNobody", spec := "volumeNobody", inPlace := ["internal/reflectlite.ValueOf", "(internal/reflectlite.Value).Type", "(internal/reflectlite.Value).IsNil", "internal/reflectlite.TypeOf", "(internal/reflectlite.Value).Elem", "(internal/reflectlite.Value).Set"], unfollowed := true, recurses := true, named := ["errors.errorType"], apart := false, laid := [("errors.errorType", laid_errors_errorType)] }
def VolumeNobodySaid : Prop := volumeNobodyRow.holds Tryz.pinned (OpenSpec.ofChange volumeNobodySpec)

/-- ITS FALSE NEIGHBOUR: 'it returns false'. Refute it at one input. -/
def volumeNobodyWrong : ChangeSpec := { name := "volumeNobody", fn := fun _ => fun
  | [d] => { results := [.lit (.bool false)], args := [d] }
  | _ => none }
def VolumeNobodyWrongFalsely : Prop := volumeNobodyRow.holds Tryz.pinned (OpenSpec.ofChange volumeNobodyWrong)

/- THE SECOND FORM. 'bulk': how many values and letters a reading holds, each counted each time it is reached (what is shared counts as often as it is met; a slice's spare places count too). A statement '..UptoSaid' is the law's where the arguments, and the package variables that the reading takes, are together of bulk at most 1048576: NARROWER than '..Said'. Prove '..Said' where nothing that the law and all that it calls make is longer than what came in: it says more and counts as full. Else prove '..UptoSaid'. A law counts once. -/
mutual
def uptoBulk {H : Type} : DataW H → Nat
  | .lit (.string bytes) => bytes.length + 1
  | .lit _ => 1
  | .nil => 1
  | .ptr d => uptoBulk d + 1
  | .slice elems spare => uptoBulkAll elems + uptoBulkAll spare + 1
  | .agg parts => uptoBulkAll parts + 1
  | .iface _ d => uptoBulk d + 1
  | .map entries => uptoBulkEntries entries + 1
  | .held _ => 1
def uptoBulkAll {H : Type} : List (DataW H) → Nat
  | [] => 0
  | d :: r => uptoBulk d + uptoBulkAll r
def uptoBulkEntries {H : Type} : List (Lit × DataW H) → Nat
  | [] => 0
  | x :: r => uptoBulkEntry x + uptoBulkEntries r
def uptoBulkEntry {H : Type} : Lit × DataW H → Nat
  | (.string bytes, d) => bytes.length + uptoBulk d + 1
  | (_, d) => uptoBulk d + 1
 end
def uptoSmall : (H : Type) → List (DataW H) → Bool := fun _ ds => decide (uptoBulkAll ds ≤ 1048576)
def OpenSpec.upto (s : _root_.Go.ChangeSpec) : _root_.Go.OpenSpec := { _root_.Go.OpenSpec.ofChange s with cond := some uptoSmall }

/-- 'jackstaylaw18.VolumeMaps', WHERE WHAT IT READS IS OF BULK AT MOST 1048576: true; the input reads as it did. -/
def volumeMapsUptoRow : OpenClaim := { program := "ytedpfdflolkpeaagreatdoor", sum := "a52069ada23928c4e96f8bfccb1a9efbdfad80667e26129bf321a72c8f24d384", func := "jackstay/jackstaylaw18.VolumeMaps", spec := "volumeMaps", inPlace := ["internal/reflectlite.ValueOf", "(internal/reflectlite.Value).Type", "(internal/reflectlite.Value).IsNil", "internal/reflectlite.TypeOf", "(internal/reflectlite.Value).Elem", "(internal/reflectlite.Value).Set"], unfollowed := true, recurses := true, named := ["errors.errorType"], apart := false, laid := [("errors.errorType", laid_errors_errorType)], narrowed := true }
def VolumeMapsUptoSaid : Prop := volumeMapsUptoRow.holds Tryz.pinned (OpenSpec.upto volumeMapsSpec)

/-- 'jackstaylaw18.VolumeLate', WHERE WHAT IT READS IS OF BULK AT MOST 1048576: true; the input reads as it did. -/
def volumeLateUptoRow : OpenClaim := { program := "ytedpfdflolkpeaagreatdoor", sum := "a52069ada23928c4e96f8bfccb1a9efbdfad80667e26129bf321a72c8f24d384", func := "jackstay/jackstaylaw18.VolumeLate", spec := "volumeLate", inPlace := ["internal/reflectlite.ValueOf", "(internal/reflectlite.Value).Type", "(internal/reflectlite.Value).IsNil", "internal/reflectlite.TypeOf", "(internal/reflectlite.Value).Elem", "(internal/reflectlite.Value).Set"], unfollowed := true, recurses := true, named := ["errors.errorType"], apart := false, laid := [("errors.errorType", laid_errors_errorType)], narrowed := true }
def VolumeLateUptoSaid : Prop := volumeLateUptoRow.holds Tryz.pinned (OpenSpec.upto volumeLateSpec)

/-- 'jackstaylaw18.VolumeCrash', WHERE WHAT IT READS IS OF BULK AT MOST 1048576: true; the input reads as it did. -/
def volumeCrashUptoRow : OpenClaim := { program := "ytedpfdflolkpeaagreatdoor", sum := "a52069ada23928c4e96f8bfccb1a9efbdfad80667e26129bf321a72c8f24d384", func := "jackstay/jackstaylaw18.VolumeCrash", spec := "volumeCrash", inPlace := ["internal/reflectlite.ValueOf", "(internal/reflectlite.Value).Type", "(internal/reflectlite.Value).IsNil", "internal/reflectlite.TypeOf", "(internal/reflectlite.Value).Elem", "(internal/reflectlite.Value).Set"], unfollowed := true, recurses := true, named := ["errors.errorType"], apart := false, laid := [("errors.errorType", laid_errors_errorType)], narrowed := true }
def VolumeCrashUptoSaid : Prop := volumeCrashUptoRow.holds Tryz.pinned (OpenSpec.upto volumeCrashSpec)

/-- 'jackstaylaw18.VolumeOnce', WHERE WHAT IT READS IS OF BULK AT MOST 1048576: true; the input reads as it did. -/
def volumeOnceUptoRow : OpenClaim := { program := "ytedpfdflolkpeaagreatdoor", sum := "a52069ada23928c4e96f8bfccb1a9efbdfad80667e26129bf321a72c8f24d384", func := "jackstay/jackstaylaw18.VolumeOnce", spec := "volumeOnce", inPlace := ["internal/reflectlite.ValueOf", "(internal/reflectlite.Value).Type", "(internal/reflectlite.Value).IsNil", "internal/reflectlite.TypeOf", "(internal/reflectlite.Value).Elem", "(internal/reflectlite.Value).Set"], unfollowed := true, recurses := true, named := ["errors.errorType"], apart := false, laid := [("errors.errorType", laid_errors_errorType)], narrowed := true }
def VolumeOnceUptoSaid : Prop := volumeOnceUptoRow.holds Tryz.pinned (OpenSpec.upto volumeOnceSpec)

/-- 'jackstaylaw18.VolumeFlush', WHERE WHAT IT READS IS OF BULK AT MOST 1048576: true; the input reads as it did. -/
def volumeFlushUptoRow : OpenClaim := { program := "ytedpfdflolkpeaagreatdoor", sum := "a52069ada23928c4e96f8bfccb1a9efbdfad80667e26129bf321a72c8f24d384", func := "jackstay/jackstaylaw18.VolumeFlush", spec := "volumeFlush", inPlace := ["internal/reflectlite.ValueOf", "(internal/reflectlite.Value).Type", "(internal/reflectlite.Value).IsNil", "internal/reflectlite.TypeOf", "(internal/reflectlite.Value).Elem", "(internal/reflectlite.Value).Set"], unfollowed := true, recurses := true, named := ["errors.errorType"], apart := false, laid := [("errors.errorType", laid_errors_errorType)], narrowed := true }
def VolumeFlushUptoSaid : Prop := volumeFlushUptoRow.holds Tryz.pinned (OpenSpec.upto volumeFlushSpec)

/-- 'jackstaylaw18.VolumePlays', WHERE WHAT IT READS IS OF BULK AT MOST 1048576: true; the input reads as it did. -/
def volumePlaysUptoRow : OpenClaim := { program := "ytedpfdflolkpeaagreatdoor", sum := "a52069ada23928c4e96f8bfccb1a9efbdfad80667e26129bf321a72c8f24d384", func := "jackstay/jackstaylaw18.VolumePlays", spec := "volumePlays", inPlace := ["internal/reflectlite.ValueOf", "(internal/reflectlite.Value).Type", "(internal/reflectlite.Value).IsNil", "internal/reflectlite.TypeOf", "(internal/reflectlite.Value).Elem", "(internal/reflectlite.Value).Set"], unfollowed := true, recurses := true, named := ["errors.errorType"], apart := false, laid := [("errors.errorType", laid_errors_errorType)], narrowed := true }
def VolumePlaysUptoSaid : Prop := volumePlaysUptoRow.holds Tryz.pinned (OpenSpec.upto volumePlaysSpec)

/-- 'jackstaylaw18.VolumeNobody', WHERE WHAT IT READS IS OF BULK AT MOST 1048576: true; the input reads as it did. -/
def volumeNobodyUptoRow : OpenClaim := { program := "ytedpfdflolkpeaagreatdoor", sum := "a52069ada23928c4e96f8bfccb1a9efbdfad80667e26129bf321a72c8f24d384", func := "jackstay/jackstaylaw18.VolumeNobody", spec := "volumeNobody", inPlace := ["internal/reflectlite.ValueOf", "(internal/reflectlite.Value).Type", "(internal/reflectlite.Value).IsNil", "internal/reflectlite.TypeOf", "(internal/reflectlite.Value).Elem", "(internal/reflectlite.Value).Set"], unfollowed := true, recurses := true, named := ["errors.errorType"], apart := false, laid := [("errors.errorType", laid_errors_errorType)], narrowed := true }
def VolumeNobodyUptoSaid : Prop := volumeNobodyUptoRow.holds Tryz.pinned (OpenSpec.upto volumeNobodySpec)

end Rows
end Go.Proofs.YtedpfdflolkpeaaGreatDoor
