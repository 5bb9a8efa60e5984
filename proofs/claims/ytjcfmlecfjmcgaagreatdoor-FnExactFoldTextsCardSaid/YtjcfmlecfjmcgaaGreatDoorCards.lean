/-
  DERIVED. GIVEN WITH THE SEED: THE CARDS: each row of YtjcfmlecfjmcgaaGreatDoorRows.lean that lists a variable, with what it lists TIED to the program's text (the seventh form; the later family's looks); each row that meets fmt, with fmt's text TOLD by the authors' own Lean function (tested against real Go, not proved from fmt's source: count such statements apart). THE CARD IS WHAT COUNTS. Prove the row's statement (the work); the ties are given (YtjcfmlecfjmcgaaGreatDoorTie.lean); close each card by the builder's one call (the guide's Derived/Test/ToyasCard.lean, 'card_holds'). Laid BY PROGRAM, IN A SANDBOX (cutbox-door.mjs). By AI agents, Wed Nov 11 2026. No macro, syntax, notation, axiom, sorry.
-/
import Derived.Test.YtjcfmlecfjmcgaaGreatDoorRows
import GoSem.ClaimSeven
namespace Go.Proofs.YtjcfmlecfjmcgaaGreatDoor
namespace Rows

/-- THE TIED CARD OF 'laws.FnExactFoldTexts'. -/
def fnExactFoldTextsCard : Claim7 := { stood := { row := fnExactFoldTextsRow, standIns := [], harness := (true, "b3e462fddd887d615e20ebc50436cbb3df694f8ad5d140e84446dfc62229968b"), looks := false }, kinds := [], alts := [], laidByText := true, laidKinds := [.data, .data, .data], laidTests := true, laidLooks := .later }
def FnExactFoldTextsCardSaid : Prop := Claim7.holds Tryz.pinned (.plain (OpenSpec.ofChange fnExactFoldTextsSpec)) fnExactFoldTextsCard

/-- THE SECOND FORM's CARD OF 'laws.FnExactFoldTexts'. -/
def fnExactFoldTextsUptoCard : Claim7 := { stood := { row := fnExactFoldTextsUptoRow, standIns := [], harness := (true, "b3e462fddd887d615e20ebc50436cbb3df694f8ad5d140e84446dfc62229968b"), looks := false }, kinds := [], alts := [], laidByText := true, laidKinds := [.data, .data, .data], laidTests := true, laidLooks := .later }
def FnExactFoldTextsUptoCardSaid : Prop := Claim7.holds Tryz.pinned (.plain (OpenSpec.upto fnExactFoldTextsSpec)) fnExactFoldTextsUptoCard
end Rows
end Go.Proofs.YtjcfmlecfjmcgaaGreatDoor
