/-
  DERIVED. GIVEN WITH THE SEED: THE CARDS: each row of YtedpfdflolkpeaaGreatDoorRows.lean that lists a variable, with what it lists TIED to the program's text (the seventh form; the later family's looks); each row that meets fmt, with fmt's text TOLD by the authors' own Lean function (tested against real Go, not proved from fmt's source: count such statements apart). THE CARD IS WHAT COUNTS. Prove the row's statement (the work); the ties are given (YtedpfdflolkpeaaGreatDoorTie.lean); close each card by the builder's one call (the guide's Derived/Test/ToyasCard.lean, 'card_holds'). Laid BY PROGRAM, IN A SANDBOX (cutbox-door.mjs). By AI agents, Wed Nov 11 2026. No macro, syntax, notation, axiom, sorry.
-/
import Derived.Test.YtedpfdflolkpeaaGreatDoorRows
import GoSem.ClaimSeven
namespace Go.Proofs.YtedpfdflolkpeaaGreatDoor
namespace Rows

/-- THE TIED CARD OF 'jackstaylaw18.VolumeMaps'. -/
def volumeMapsCard : Claim7 := { stood := { row := volumeMapsRow, standIns := [], harness := (true, "615c0543c95276a2418247d9a5cc049e59a347ca3faaf94e252972416da55f6b"), looks := true }, kinds := [], alts := [], laidByText := true, laidKinds := [.handle], laidTests := true, laidLooks := .later }
def VolumeMapsCardSaid : Prop := Claim7.holds Tryz.pinned (.plain (OpenSpec.ofChange volumeMapsSpec)) volumeMapsCard

/-- THE TIED CARD OF 'jackstaylaw18.VolumeLate'. -/
def volumeLateCard : Claim7 := { stood := { row := volumeLateRow, standIns := [], harness := (true, "615c0543c95276a2418247d9a5cc049e59a347ca3faaf94e252972416da55f6b"), looks := true }, kinds := [], alts := [], laidByText := true, laidKinds := [.handle], laidTests := true, laidLooks := .later }
def VolumeLateCardSaid : Prop := Claim7.holds Tryz.pinned (.plain (OpenSpec.ofChange volumeLateSpec)) volumeLateCard

/-- THE TIED CARD OF 'jackstaylaw18.VolumeCrash'. -/
def volumeCrashCard : Claim7 := { stood := { row := volumeCrashRow, standIns := [], harness := (true, "615c0543c95276a2418247d9a5cc049e59a347ca3faaf94e252972416da55f6b"), looks := true }, kinds := [], alts := [], laidByText := true, laidKinds := [.handle], laidTests := true, laidLooks := .later }
def VolumeCrashCardSaid : Prop := Claim7.holds Tryz.pinned (.plain (OpenSpec.ofChange volumeCrashSpec)) volumeCrashCard

/-- THE TIED CARD OF 'jackstaylaw18.VolumeOnce'. -/
def volumeOnceCard : Claim7 := { stood := { row := volumeOnceRow, standIns := [], harness := (true, "615c0543c95276a2418247d9a5cc049e59a347ca3faaf94e252972416da55f6b"), looks := true }, kinds := [], alts := [], laidByText := true, laidKinds := [.handle], laidTests := true, laidLooks := .later }
def VolumeOnceCardSaid : Prop := Claim7.holds Tryz.pinned (.plain (OpenSpec.ofChange volumeOnceSpec)) volumeOnceCard

/-- THE TIED CARD OF 'jackstaylaw18.VolumeFlush'. -/
def volumeFlushCard : Claim7 := { stood := { row := volumeFlushRow, standIns := [], harness := (true, "615c0543c95276a2418247d9a5cc049e59a347ca3faaf94e252972416da55f6b"), looks := true }, kinds := [], alts := [], laidByText := true, laidKinds := [.handle], laidTests := true, laidLooks := .later }
def VolumeFlushCardSaid : Prop := Claim7.holds Tryz.pinned (.plain (OpenSpec.ofChange volumeFlushSpec)) volumeFlushCard

/-- THE TIED CARD OF 'jackstaylaw18.VolumePlays'. -/
def volumePlaysCard : Claim7 := { stood := { row := volumePlaysRow, standIns := [], harness := (true, "615c0543c95276a2418247d9a5cc049e59a347ca3faaf94e252972416da55f6b"), looks := true }, kinds := [], alts := [], laidByText := true, laidKinds := [.handle], laidTests := true, laidLooks := .later }
def VolumePlaysCardSaid : Prop := Claim7.holds Tryz.pinned (.plain (OpenSpec.ofChange volumePlaysSpec)) volumePlaysCard

/-- THE TIED CARD OF 'jackstaylaw18.VolumeNobody'. -/
def volumeNobodyCard : Claim7 := { stood := { row := volumeNobodyRow, standIns := [], harness := (true, "615c0543c95276a2418247d9a5cc049e59a347ca3faaf94e252972416da55f6b"), looks := true }, kinds := [], alts := [], laidByText := true, laidKinds := [.handle], laidTests := true, laidLooks := .later }
def VolumeNobodyCardSaid : Prop := Claim7.holds Tryz.pinned (.plain (OpenSpec.ofChange volumeNobodySpec)) volumeNobodyCard

/-- THE SECOND FORM's CARD OF 'jackstaylaw18.VolumeMaps'. -/
def volumeMapsUptoCard : Claim7 := { stood := { row := volumeMapsUptoRow, standIns := [], harness := (true, "615c0543c95276a2418247d9a5cc049e59a347ca3faaf94e252972416da55f6b"), looks := true }, kinds := [], alts := [], laidByText := true, laidKinds := [.handle], laidTests := true, laidLooks := .later }
def VolumeMapsUptoCardSaid : Prop := Claim7.holds Tryz.pinned (.plain (OpenSpec.upto volumeMapsSpec)) volumeMapsUptoCard

/-- THE SECOND FORM's CARD OF 'jackstaylaw18.VolumeLate'. -/
def volumeLateUptoCard : Claim7 := { stood := { row := volumeLateUptoRow, standIns := [], harness := (true, "615c0543c95276a2418247d9a5cc049e59a347ca3faaf94e252972416da55f6b"), looks := true }, kinds := [], alts := [], laidByText := true, laidKinds := [.handle], laidTests := true, laidLooks := .later }
def VolumeLateUptoCardSaid : Prop := Claim7.holds Tryz.pinned (.plain (OpenSpec.upto volumeLateSpec)) volumeLateUptoCard

/-- THE SECOND FORM's CARD OF 'jackstaylaw18.VolumeCrash'. -/
def volumeCrashUptoCard : Claim7 := { stood := { row := volumeCrashUptoRow, standIns := [], harness := (true, "615c0543c95276a2418247d9a5cc049e59a347ca3faaf94e252972416da55f6b"), looks := true }, kinds := [], alts := [], laidByText := true, laidKinds := [.handle], laidTests := true, laidLooks := .later }
def VolumeCrashUptoCardSaid : Prop := Claim7.holds Tryz.pinned (.plain (OpenSpec.upto volumeCrashSpec)) volumeCrashUptoCard

/-- THE SECOND FORM's CARD OF 'jackstaylaw18.VolumeOnce'. -/
def volumeOnceUptoCard : Claim7 := { stood := { row := volumeOnceUptoRow, standIns := [], harness := (true, "615c0543c95276a2418247d9a5cc049e59a347ca3faaf94e252972416da55f6b"), looks := true }, kinds := [], alts := [], laidByText := true, laidKinds := [.handle], laidTests := true, laidLooks := .later }
def VolumeOnceUptoCardSaid : Prop := Claim7.holds Tryz.pinned (.plain (OpenSpec.upto volumeOnceSpec)) volumeOnceUptoCard

/-- THE SECOND FORM's CARD OF 'jackstaylaw18.VolumeFlush'. -/
def volumeFlushUptoCard : Claim7 := { stood := { row := volumeFlushUptoRow, standIns := [], harness := (true, "615c0543c95276a2418247d9a5cc049e59a347ca3faaf94e252972416da55f6b"), looks := true }, kinds := [], alts := [], laidByText := true, laidKinds := [.handle], laidTests := true, laidLooks := .later }
def VolumeFlushUptoCardSaid : Prop := Claim7.holds Tryz.pinned (.plain (OpenSpec.upto volumeFlushSpec)) volumeFlushUptoCard

/-- THE SECOND FORM's CARD OF 'jackstaylaw18.VolumePlays'. -/
def volumePlaysUptoCard : Claim7 := { stood := { row := volumePlaysUptoRow, standIns := [], harness := (true, "615c0543c95276a2418247d9a5cc049e59a347ca3faaf94e252972416da55f6b"), looks := true }, kinds := [], alts := [], laidByText := true, laidKinds := [.handle], laidTests := true, laidLooks := .later }
def VolumePlaysUptoCardSaid : Prop := Claim7.holds Tryz.pinned (.plain (OpenSpec.upto volumePlaysSpec)) volumePlaysUptoCard

/-- THE SECOND FORM's CARD OF 'jackstaylaw18.VolumeNobody'. -/
def volumeNobodyUptoCard : Claim7 := { stood := { row := volumeNobodyUptoRow, standIns := [], harness := (true, "615c0543c95276a2418247d9a5cc049e59a347ca3faaf94e252972416da55f6b"), looks := true }, kinds := [], alts := [], laidByText := true, laidKinds := [.handle], laidTests := true, laidLooks := .later }
def VolumeNobodyUptoCardSaid : Prop := Claim7.holds Tryz.pinned (.plain (OpenSpec.upto volumeNobodySpec)) volumeNobodyUptoCard
end Rows
end Go.Proofs.YtedpfdflolkpeaaGreatDoor
