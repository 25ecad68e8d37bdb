/-
  DERIVED. GIVEN WITH THE SEED: THE CARDS: each row of YtlkffcddfpghkaaGreatDoorRows.lean that lists a variable, with what it lists TIED to the program's text (the seventh form; the later family's looks); each row that meets fmt, with fmt's text TOLD by the authors' own Lean function (tested against real Go, not proved from fmt's source: count such statements apart). THE CARD IS WHAT COUNTS. Prove the row's statement (the work); the ties are given (YtlkffcddfpghkaaGreatDoorTie.lean); close each card by the builder's one call (the guide's Derived/Test/ToyasCard.lean, 'card_holds'). Laid BY PROGRAM, IN A SANDBOX (cutbox-door.mjs). By AI agents, Wed Nov 11 2026. No macro, syntax, notation, axiom, sorry.
-/
import Derived.Test.YtlkffcddfpghkaaGreatDoorRows
import GoSem.ClaimSeven
namespace Go.Proofs.YtlkffcddfpghkaaGreatDoor
namespace Rows

/-- THE TIED CARD OF 'ullagelaw04.RuleConds'. -/
def ruleCondsCard : Claim7 := { stood := { row := ruleCondsRow, standIns := [], harness := (true, "998248dde1d338c0992a2e89ccae146aa88736c49a9185abe4d1927c8a172670"), looks := true }, kinds := [], alts := [], laidByText := true, laidKinds := [.data, .data, .data, .data, .sentinel, .sentinel, .pinned], laidTests := true, laidLooks := .later }
def RuleCondsCardSaid : Prop := Claim7.holds Tryz.pinned (.plain (OpenSpec.ofChange ruleCondsSpec)) ruleCondsCard

/-- THE TIED CARD OF 'ullagelaw04.RuleShown'. -/
def ruleShownCard : Claim7 := { stood := { row := ruleShownRow, standIns := [], harness := (true, "998248dde1d338c0992a2e89ccae146aa88736c49a9185abe4d1927c8a172670"), looks := true }, kinds := [], alts := [], laidByText := true, laidKinds := [.data, .data, .data, .data, .sentinel, .sentinel, .pinned], laidTests := true, laidLooks := .later }
def RuleShownCardSaid : Prop := Claim7.holds Tryz.pinned (.plain (OpenSpec.ofChange ruleShownSpec)) ruleShownCard

/-- THE TIED CARD OF 'ullagelaw04.RuleChecks'. -/
def ruleChecksCard : Claim7 := { stood := { row := ruleChecksRow, standIns := [], harness := (true, "998248dde1d338c0992a2e89ccae146aa88736c49a9185abe4d1927c8a172670"), looks := true }, kinds := [], alts := [], laidByText := true, laidKinds := [.data, .data, .data, .data, .sentinel, .sentinel, .pinned], laidTests := true, laidLooks := .later }
def RuleChecksCardSaid : Prop := Claim7.holds Tryz.pinned (.plain (OpenSpec.ofChange ruleChecksSpec)) ruleChecksCard

/-- THE TIED CARD OF 'ullagelaw04.RuleExact'. -/
def ruleExactCard : Claim7 := { stood := { row := ruleExactRow, standIns := [], harness := (true, "998248dde1d338c0992a2e89ccae146aa88736c49a9185abe4d1927c8a172670"), looks := true }, kinds := [], alts := [], laidByText := true, laidKinds := [.data, .data, .data, .data, .sentinel, .sentinel, .pinned], laidTests := true, laidLooks := .later }
def RuleExactCardSaid : Prop := Claim7.holds Tryz.pinned (.plain (OpenSpec.ofChange ruleExactSpec)) ruleExactCard

/-- THE TIED CARD OF 'ullagelaw04.RuleClashes'. -/
def ruleClashesCard : Claim7 := { stood := { row := ruleClashesRow, standIns := [], harness := (true, "998248dde1d338c0992a2e89ccae146aa88736c49a9185abe4d1927c8a172670"), looks := true }, kinds := [], alts := [], laidByText := true, laidKinds := [.data, .data, .data, .data, .sentinel, .sentinel, .pinned], laidTests := true, laidLooks := .later }
def RuleClashesCardSaid : Prop := Claim7.holds Tryz.pinned (.plain (OpenSpec.ofChange ruleClashesSpec)) ruleClashesCard

/-- THE TIED CARD OF 'ullagelaw04.RuleNarrows'. -/
def ruleNarrowsCard : Claim7 := { stood := { row := ruleNarrowsRow, standIns := [], harness := (true, "998248dde1d338c0992a2e89ccae146aa88736c49a9185abe4d1927c8a172670"), looks := true }, kinds := [], alts := [], laidByText := true, laidKinds := [.data, .data, .data, .data, .sentinel, .sentinel, .pinned], laidTests := true, laidLooks := .later }
def RuleNarrowsCardSaid : Prop := Claim7.holds Tryz.pinned (.plain (OpenSpec.ofChange ruleNarrowsSpec)) ruleNarrowsCard

/-- THE TIED CARD OF 'ullagelaw04.RuleIdles'. -/
def ruleIdlesCard : Claim7 := { stood := { row := ruleIdlesRow, standIns := [], harness := (true, "998248dde1d338c0992a2e89ccae146aa88736c49a9185abe4d1927c8a172670"), looks := true }, kinds := [], alts := [], laidByText := true, laidKinds := [.data, .data, .data, .data, .sentinel, .sentinel, .pinned], laidTests := true, laidLooks := .later }
def RuleIdlesCardSaid : Prop := Claim7.holds Tryz.pinned (.plain (OpenSpec.ofChange ruleIdlesSpec)) ruleIdlesCard

/-- THE TIED CARD OF 'ullagelaw04.RuleTexts'. -/
def ruleTextsCard : Claim7 := { stood := { row := ruleTextsRow, standIns := [], harness := (true, "998248dde1d338c0992a2e89ccae146aa88736c49a9185abe4d1927c8a172670"), looks := true }, kinds := [], alts := [], laidByText := true, laidKinds := [.data, .data, .data, .data, .sentinel, .sentinel, .pinned], laidTests := true, laidLooks := .later }
def RuleTextsCardSaid : Prop := Claim7.holds Tryz.pinned (.plain (OpenSpec.ofChange ruleTextsSpec)) ruleTextsCard

/-- THE TIED CARD OF 'ullagelaw04.RuleBack'. -/
def ruleBackCard : Claim7 := { stood := { row := ruleBackRow, standIns := [], harness := (true, "998248dde1d338c0992a2e89ccae146aa88736c49a9185abe4d1927c8a172670"), looks := true }, kinds := [], alts := [], laidByText := true, laidKinds := [.data, .data, .data, .data, .sentinel, .sentinel, .pinned], laidTests := true, laidLooks := .later }
def RuleBackCardSaid : Prop := Claim7.holds Tryz.pinned (.plain (OpenSpec.ofChange ruleBackSpec)) ruleBackCard

/-- THE TIED CARD OF 'ullagelaw04.RuleAnalyses'. -/
def ruleAnalysesCard : Claim7 := { stood := { row := ruleAnalysesRow, standIns := [], harness := (true, "998248dde1d338c0992a2e89ccae146aa88736c49a9185abe4d1927c8a172670"), looks := true }, kinds := [], alts := [], laidByText := true, laidKinds := [.data, .data, .data, .data, .sentinel, .sentinel, .pinned], laidTests := true, laidLooks := .later }
def RuleAnalysesCardSaid : Prop := Claim7.holds Tryz.pinned (.plain (OpenSpec.ofChange ruleAnalysesSpec)) ruleAnalysesCard

/-- THE TIED CARD OF 'ullagelaw04.RuleJudges'. -/
def ruleJudgesCard : Claim7 := { stood := { row := ruleJudgesRow, standIns := [], harness := (true, "998248dde1d338c0992a2e89ccae146aa88736c49a9185abe4d1927c8a172670"), looks := true }, kinds := [], alts := [], laidByText := true, laidKinds := [.data, .data, .data, .data, .sentinel, .sentinel, .pinned], laidTests := true, laidLooks := .later }
def RuleJudgesCardSaid : Prop := Claim7.holds Tryz.pinned (.plain (OpenSpec.ofChange ruleJudgesSpec)) ruleJudgesCard

/-- THE TIED CARD OF 'ullagelaw04.RuleDays'. -/
def ruleDaysCard : Claim7 := { stood := { row := ruleDaysRow, standIns := [], harness := (true, "998248dde1d338c0992a2e89ccae146aa88736c49a9185abe4d1927c8a172670"), looks := true }, kinds := [], alts := [], laidByText := true, laidKinds := [.data, .data, .data, .data, .sentinel, .sentinel, .pinned], laidTests := true, laidLooks := .later }
def RuleDaysCardSaid : Prop := Claim7.holds Tryz.pinned (.plain (OpenSpec.ofChange ruleDaysSpec)) ruleDaysCard

/-- THE TIED CARD OF 'ullagelaw04.RuleTells'. -/
def ruleTellsCard : Claim7 := { stood := { row := ruleTellsRow, standIns := [], harness := (true, "998248dde1d338c0992a2e89ccae146aa88736c49a9185abe4d1927c8a172670"), looks := true }, kinds := [], alts := [], laidByText := true, laidKinds := [.data, .data, .data, .data, .sentinel, .sentinel, .pinned], laidTests := true, laidLooks := .later }
def RuleTellsCardSaid : Prop := Claim7.holds Tryz.pinned (.plain (OpenSpec.ofChange ruleTellsSpec)) ruleTellsCard

/-- THE TIED CARD OF 'ullagelaw04.RuleRests'. -/
def ruleRestsCard : Claim7 := { stood := { row := ruleRestsRow, standIns := [], harness := (true, "998248dde1d338c0992a2e89ccae146aa88736c49a9185abe4d1927c8a172670"), looks := true }, kinds := [], alts := [], laidByText := true, laidKinds := [.data, .data, .data, .data, .sentinel, .sentinel, .pinned], laidTests := true, laidLooks := .later }
def RuleRestsCardSaid : Prop := Claim7.holds Tryz.pinned (.plain (OpenSpec.ofChange ruleRestsSpec)) ruleRestsCard

/-- THE SECOND FORM's CARD OF 'ullagelaw04.RuleConds'. -/
def ruleCondsUptoCard : Claim7 := { stood := { row := ruleCondsUptoRow, standIns := [], harness := (true, "998248dde1d338c0992a2e89ccae146aa88736c49a9185abe4d1927c8a172670"), looks := true }, kinds := [], alts := [], laidByText := true, laidKinds := [.data, .data, .data, .data, .sentinel, .sentinel, .pinned], laidTests := true, laidLooks := .later }
def RuleCondsUptoCardSaid : Prop := Claim7.holds Tryz.pinned (.plain (OpenSpec.upto ruleCondsSpec)) ruleCondsUptoCard

/-- THE SECOND FORM's CARD OF 'ullagelaw04.RuleShown'. -/
def ruleShownUptoCard : Claim7 := { stood := { row := ruleShownUptoRow, standIns := [], harness := (true, "998248dde1d338c0992a2e89ccae146aa88736c49a9185abe4d1927c8a172670"), looks := true }, kinds := [], alts := [], laidByText := true, laidKinds := [.data, .data, .data, .data, .sentinel, .sentinel, .pinned], laidTests := true, laidLooks := .later }
def RuleShownUptoCardSaid : Prop := Claim7.holds Tryz.pinned (.plain (OpenSpec.upto ruleShownSpec)) ruleShownUptoCard

/-- THE SECOND FORM's CARD OF 'ullagelaw04.RuleChecks'. -/
def ruleChecksUptoCard : Claim7 := { stood := { row := ruleChecksUptoRow, standIns := [], harness := (true, "998248dde1d338c0992a2e89ccae146aa88736c49a9185abe4d1927c8a172670"), looks := true }, kinds := [], alts := [], laidByText := true, laidKinds := [.data, .data, .data, .data, .sentinel, .sentinel, .pinned], laidTests := true, laidLooks := .later }
def RuleChecksUptoCardSaid : Prop := Claim7.holds Tryz.pinned (.plain (OpenSpec.upto ruleChecksSpec)) ruleChecksUptoCard

/-- THE SECOND FORM's CARD OF 'ullagelaw04.RuleExact'. -/
def ruleExactUptoCard : Claim7 := { stood := { row := ruleExactUptoRow, standIns := [], harness := (true, "998248dde1d338c0992a2e89ccae146aa88736c49a9185abe4d1927c8a172670"), looks := true }, kinds := [], alts := [], laidByText := true, laidKinds := [.data, .data, .data, .data, .sentinel, .sentinel, .pinned], laidTests := true, laidLooks := .later }
def RuleExactUptoCardSaid : Prop := Claim7.holds Tryz.pinned (.plain (OpenSpec.upto ruleExactSpec)) ruleExactUptoCard

/-- THE SECOND FORM's CARD OF 'ullagelaw04.RuleClashes'. -/
def ruleClashesUptoCard : Claim7 := { stood := { row := ruleClashesUptoRow, standIns := [], harness := (true, "998248dde1d338c0992a2e89ccae146aa88736c49a9185abe4d1927c8a172670"), looks := true }, kinds := [], alts := [], laidByText := true, laidKinds := [.data, .data, .data, .data, .sentinel, .sentinel, .pinned], laidTests := true, laidLooks := .later }
def RuleClashesUptoCardSaid : Prop := Claim7.holds Tryz.pinned (.plain (OpenSpec.upto ruleClashesSpec)) ruleClashesUptoCard

/-- THE SECOND FORM's CARD OF 'ullagelaw04.RuleNarrows'. -/
def ruleNarrowsUptoCard : Claim7 := { stood := { row := ruleNarrowsUptoRow, standIns := [], harness := (true, "998248dde1d338c0992a2e89ccae146aa88736c49a9185abe4d1927c8a172670"), looks := true }, kinds := [], alts := [], laidByText := true, laidKinds := [.data, .data, .data, .data, .sentinel, .sentinel, .pinned], laidTests := true, laidLooks := .later }
def RuleNarrowsUptoCardSaid : Prop := Claim7.holds Tryz.pinned (.plain (OpenSpec.upto ruleNarrowsSpec)) ruleNarrowsUptoCard

/-- THE SECOND FORM's CARD OF 'ullagelaw04.RuleIdles'. -/
def ruleIdlesUptoCard : Claim7 := { stood := { row := ruleIdlesUptoRow, standIns := [], harness := (true, "998248dde1d338c0992a2e89ccae146aa88736c49a9185abe4d1927c8a172670"), looks := true }, kinds := [], alts := [], laidByText := true, laidKinds := [.data, .data, .data, .data, .sentinel, .sentinel, .pinned], laidTests := true, laidLooks := .later }
def RuleIdlesUptoCardSaid : Prop := Claim7.holds Tryz.pinned (.plain (OpenSpec.upto ruleIdlesSpec)) ruleIdlesUptoCard

/-- THE SECOND FORM's CARD OF 'ullagelaw04.RuleTexts'. -/
def ruleTextsUptoCard : Claim7 := { stood := { row := ruleTextsUptoRow, standIns := [], harness := (true, "998248dde1d338c0992a2e89ccae146aa88736c49a9185abe4d1927c8a172670"), looks := true }, kinds := [], alts := [], laidByText := true, laidKinds := [.data, .data, .data, .data, .sentinel, .sentinel, .pinned], laidTests := true, laidLooks := .later }
def RuleTextsUptoCardSaid : Prop := Claim7.holds Tryz.pinned (.plain (OpenSpec.upto ruleTextsSpec)) ruleTextsUptoCard

/-- THE SECOND FORM's CARD OF 'ullagelaw04.RuleBack'. -/
def ruleBackUptoCard : Claim7 := { stood := { row := ruleBackUptoRow, standIns := [], harness := (true, "998248dde1d338c0992a2e89ccae146aa88736c49a9185abe4d1927c8a172670"), looks := true }, kinds := [], alts := [], laidByText := true, laidKinds := [.data, .data, .data, .data, .sentinel, .sentinel, .pinned], laidTests := true, laidLooks := .later }
def RuleBackUptoCardSaid : Prop := Claim7.holds Tryz.pinned (.plain (OpenSpec.upto ruleBackSpec)) ruleBackUptoCard

/-- THE SECOND FORM's CARD OF 'ullagelaw04.RuleAnalyses'. -/
def ruleAnalysesUptoCard : Claim7 := { stood := { row := ruleAnalysesUptoRow, standIns := [], harness := (true, "998248dde1d338c0992a2e89ccae146aa88736c49a9185abe4d1927c8a172670"), looks := true }, kinds := [], alts := [], laidByText := true, laidKinds := [.data, .data, .data, .data, .sentinel, .sentinel, .pinned], laidTests := true, laidLooks := .later }
def RuleAnalysesUptoCardSaid : Prop := Claim7.holds Tryz.pinned (.plain (OpenSpec.upto ruleAnalysesSpec)) ruleAnalysesUptoCard

/-- THE SECOND FORM's CARD OF 'ullagelaw04.RuleJudges'. -/
def ruleJudgesUptoCard : Claim7 := { stood := { row := ruleJudgesUptoRow, standIns := [], harness := (true, "998248dde1d338c0992a2e89ccae146aa88736c49a9185abe4d1927c8a172670"), looks := true }, kinds := [], alts := [], laidByText := true, laidKinds := [.data, .data, .data, .data, .sentinel, .sentinel, .pinned], laidTests := true, laidLooks := .later }
def RuleJudgesUptoCardSaid : Prop := Claim7.holds Tryz.pinned (.plain (OpenSpec.upto ruleJudgesSpec)) ruleJudgesUptoCard

/-- THE SECOND FORM's CARD OF 'ullagelaw04.RuleDays'. -/
def ruleDaysUptoCard : Claim7 := { stood := { row := ruleDaysUptoRow, standIns := [], harness := (true, "998248dde1d338c0992a2e89ccae146aa88736c49a9185abe4d1927c8a172670"), looks := true }, kinds := [], alts := [], laidByText := true, laidKinds := [.data, .data, .data, .data, .sentinel, .sentinel, .pinned], laidTests := true, laidLooks := .later }
def RuleDaysUptoCardSaid : Prop := Claim7.holds Tryz.pinned (.plain (OpenSpec.upto ruleDaysSpec)) ruleDaysUptoCard

/-- THE SECOND FORM's CARD OF 'ullagelaw04.RuleTells'. -/
def ruleTellsUptoCard : Claim7 := { stood := { row := ruleTellsUptoRow, standIns := [], harness := (true, "998248dde1d338c0992a2e89ccae146aa88736c49a9185abe4d1927c8a172670"), looks := true }, kinds := [], alts := [], laidByText := true, laidKinds := [.data, .data, .data, .data, .sentinel, .sentinel, .pinned], laidTests := true, laidLooks := .later }
def RuleTellsUptoCardSaid : Prop := Claim7.holds Tryz.pinned (.plain (OpenSpec.upto ruleTellsSpec)) ruleTellsUptoCard

/-- THE SECOND FORM's CARD OF 'ullagelaw04.RuleRests'. -/
def ruleRestsUptoCard : Claim7 := { stood := { row := ruleRestsUptoRow, standIns := [], harness := (true, "998248dde1d338c0992a2e89ccae146aa88736c49a9185abe4d1927c8a172670"), looks := true }, kinds := [], alts := [], laidByText := true, laidKinds := [.data, .data, .data, .data, .sentinel, .sentinel, .pinned], laidTests := true, laidLooks := .later }
def RuleRestsUptoCardSaid : Prop := Claim7.holds Tryz.pinned (.plain (OpenSpec.upto ruleRestsSpec)) ruleRestsUptoCard
end Rows
end Go.Proofs.YtlkffcddfpghkaaGreatDoor
