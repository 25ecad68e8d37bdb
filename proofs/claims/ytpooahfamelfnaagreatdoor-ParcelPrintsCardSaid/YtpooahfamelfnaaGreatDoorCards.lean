/-
  DERIVED. GIVEN WITH THE SEED: THE CARDS: each row of YtpooahfamelfnaaGreatDoorRows.lean that lists a variable, with what it lists TIED to the program's text (the seventh form; the later family's looks); each row that meets fmt, with fmt's text TOLD by the authors' own Lean function (tested against real Go, not proved from fmt's source: count such statements apart). THE CARD IS WHAT COUNTS. Prove the row's statement (the work); the ties are given (YtpooahfamelfnaaGreatDoorTie.lean); close each card by the builder's one call (the guide's Derived/Test/ToyasCard.lean, 'card_holds'). Laid BY PROGRAM, IN A SANDBOX (cutbox-door.mjs). By AI agents, Wed Nov 11 2026. No macro, syntax, notation, axiom, sorry.
-/
import Derived.Test.YtpooahfamelfnaaGreatDoorRows
import GoSem.ClaimSeven
namespace Go.Proofs.YtpooahfamelfnaaGreatDoor
namespace Rows

/-- THE TIED CARD OF 'ullagelaw06.ParcelParses'. -/
def parcelParsesCard : Claim7 := { stood := { row := parcelParsesRow, standIns := [], harness := (true, "7b498e789d6f11d4e22ede464f274d6a7ace32d15f459a1582b7c25788348322"), looks := true }, kinds := [], alts := [], laidByText := true, laidKinds := [.data, .data, .data, .data, .sentinel, .sentinel, .pinned], laidTests := true, laidLooks := .later }
def ParcelParsesCardSaid : Prop := Claim7.holds Tryz.pinned (.plain (OpenSpec.ofChange parcelParsesSpec)) parcelParsesCard

/-- THE TIED CARD OF 'ullagelaw06.ParcelPrints'. -/
def parcelPrintsCard : Claim7 := { stood := { row := parcelPrintsRow, standIns := [], harness := (true, "7b498e789d6f11d4e22ede464f274d6a7ace32d15f459a1582b7c25788348322"), looks := true }, kinds := [], alts := [], laidByText := true, laidKinds := [.data, .data, .data, .data, .sentinel, .sentinel, .pinned], laidTests := true, laidLooks := .later }
def ParcelPrintsCardSaid : Prop := Claim7.holds Tryz.pinned (.plain (OpenSpec.ofChange parcelPrintsSpec)) parcelPrintsCard

/-- THE SECOND FORM's CARD OF 'ullagelaw06.ParcelParses'. -/
def parcelParsesUptoCard : Claim7 := { stood := { row := parcelParsesUptoRow, standIns := [], harness := (true, "7b498e789d6f11d4e22ede464f274d6a7ace32d15f459a1582b7c25788348322"), looks := true }, kinds := [], alts := [], laidByText := true, laidKinds := [.data, .data, .data, .data, .sentinel, .sentinel, .pinned], laidTests := true, laidLooks := .later }
def ParcelParsesUptoCardSaid : Prop := Claim7.holds Tryz.pinned (.plain (OpenSpec.upto parcelParsesSpec)) parcelParsesUptoCard

/-- THE SECOND FORM's CARD OF 'ullagelaw06.ParcelPrints'. -/
def parcelPrintsUptoCard : Claim7 := { stood := { row := parcelPrintsUptoRow, standIns := [], harness := (true, "7b498e789d6f11d4e22ede464f274d6a7ace32d15f459a1582b7c25788348322"), looks := true }, kinds := [], alts := [], laidByText := true, laidKinds := [.data, .data, .data, .data, .sentinel, .sentinel, .pinned], laidTests := true, laidLooks := .later }
def ParcelPrintsUptoCardSaid : Prop := Claim7.holds Tryz.pinned (.plain (OpenSpec.upto parcelPrintsSpec)) parcelPrintsUptoCard
end Rows
end Go.Proofs.YtpooahfamelfnaaGreatDoor
