/-
  DERIVED. GIVEN WITH THE SEED: THE CARDS: each row of YtfghojbbofobeaaGreatDoorRows.lean that lists a variable, with what it lists TIED to the program's text (the seventh form; the later family's looks); each row that meets fmt, with fmt's text TOLD by the authors' own Lean function (tested against real Go, not proved from fmt's source: count such statements apart). THE CARD IS WHAT COUNTS. Prove the row's statement (the work); the ties are given (YtfghojbbofobeaaGreatDoorTie.lean); close each card by the builder's one call (the guide's Derived/Test/ToyasCard.lean, 'card_holds'). Laid BY PROGRAM, IN A SANDBOX (cutbox-door.mjs). By AI agents, Wed Nov 11 2026. No macro, syntax, notation, axiom, sorry.
-/
import Derived.Test.YtfghojbbofobeaaGreatDoorRows
import GoSem.ClaimSeven
namespace Go.Proofs.YtfghojbbofobeaaGreatDoor
namespace Rows

/-- THE TIED CARD OF 'laws.FnExactOneTapeTexts'. -/
def fnExactOneTapeTextsCard : Claim7 := { stood := { row := fnExactOneTapeTextsRow, standIns := [], harness := (true, "c3c2c9f561fd8566ba3008333208b4ee88dd83c1a1aae5e949053f7d3f26f611"), looks := false }, kinds := [], alts := [], laidByText := true, laidKinds := [.data, .data, .data], laidTests := true, laidLooks := .later }
def FnExactOneTapeTextsCardSaid : Prop := Claim7.holds Tryz.pinned (.plain (OpenSpec.ofChange fnExactOneTapeTextsSpec)) fnExactOneTapeTextsCard

/-- THE SECOND FORM's CARD OF 'laws.FnExactOneTapeTexts'. -/
def fnExactOneTapeTextsUptoCard : Claim7 := { stood := { row := fnExactOneTapeTextsUptoRow, standIns := [], harness := (true, "c3c2c9f561fd8566ba3008333208b4ee88dd83c1a1aae5e949053f7d3f26f611"), looks := false }, kinds := [], alts := [], laidByText := true, laidKinds := [.data, .data, .data], laidTests := true, laidLooks := .later }
def FnExactOneTapeTextsUptoCardSaid : Prop := Claim7.holds Tryz.pinned (.plain (OpenSpec.upto fnExactOneTapeTextsSpec)) fnExactOneTapeTextsUptoCard
end Rows
end Go.Proofs.YtfghojbbofobeaaGreatDoor
