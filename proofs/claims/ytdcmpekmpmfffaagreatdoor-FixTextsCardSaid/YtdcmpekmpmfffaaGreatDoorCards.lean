/-
  DERIVED. GIVEN WITH THE SEED: THE CARDS: each row of YtdcmpekmpmfffaaGreatDoorRows.lean that lists a variable, with what it lists TIED to the program's text (the seventh form; the later family's looks); each row that meets fmt, with fmt's text TOLD by the authors' own Lean function (tested against real Go, not proved from fmt's source: count such statements apart). THE CARD IS WHAT COUNTS. Prove the row's statement (the work); the ties are given (YtdcmpekmpmfffaaGreatDoorTie.lean); close each card by the builder's one call (the guide's Derived/Test/ToyasCard.lean, 'card_holds'). Laid BY PROGRAM, IN A SANDBOX (cutbox-door.mjs). By AI agents, Wed Nov 11 2026. No macro, syntax, notation, axiom, sorry.
-/
import Derived.Test.YtdcmpekmpmfffaaGreatDoorRows
import GoSem.ClaimSeven
namespace Go.Proofs.YtdcmpekmpmfffaaGreatDoor
namespace Rows

/-- THE TIED CARD OF 'ullagelaw01.FixTexts'. -/
def fixTextsCard : Claim7 := { stood := { row := fixTextsRow, standIns := [], harness := (true, "fa84059e5f2f60b16b44fc2a9c97ad5afde2eaccc21faefee199c98d2263834b"), looks := true }, kinds := [], alts := [], laidByText := true, laidKinds := [.data, .data, .data, .data, .sentinel, .sentinel, .pinned], laidTests := true, laidLooks := .later }
def FixTextsCardSaid : Prop := Claim7.holds Tryz.pinned (.plain (OpenSpec.ofChange fixTextsSpec)) fixTextsCard

/-- THE SECOND FORM's CARD OF 'ullagelaw01.FixTexts'. -/
def fixTextsUptoCard : Claim7 := { stood := { row := fixTextsUptoRow, standIns := [], harness := (true, "fa84059e5f2f60b16b44fc2a9c97ad5afde2eaccc21faefee199c98d2263834b"), looks := true }, kinds := [], alts := [], laidByText := true, laidKinds := [.data, .data, .data, .data, .sentinel, .sentinel, .pinned], laidTests := true, laidLooks := .later }
def FixTextsUptoCardSaid : Prop := Claim7.holds Tryz.pinned (.plain (OpenSpec.upto fixTextsSpec)) fixTextsUptoCard
end Rows
end Go.Proofs.YtdcmpekmpmfffaaGreatDoor
