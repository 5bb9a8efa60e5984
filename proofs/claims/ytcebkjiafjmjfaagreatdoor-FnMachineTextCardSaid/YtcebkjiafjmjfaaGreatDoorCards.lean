/-
  DERIVED. GIVEN WITH THE SEED: THE CARDS: each row of YtcebkjiafjmjfaaGreatDoorRows.lean that lists a variable, with what it lists TIED to the program's text (the seventh form; the later family's looks); each row that meets fmt, with fmt's text TOLD by the authors' own Lean function (tested against real Go, not proved from fmt's source: count such statements apart). THE CARD IS WHAT COUNTS. Prove the row's statement (the work); the ties are given (YtcebkjiafjmjfaaGreatDoorTie.lean); close each card by the builder's one call (the guide's Derived/Test/ToyasCard.lean, 'card_holds'). Laid BY PROGRAM, IN A SANDBOX (cutbox-door.mjs). By AI agents, Wed Nov 11 2026. No macro, syntax, notation, axiom, sorry.
-/
import Derived.Test.YtcebkjiafjmjfaaGreatDoorRows
import GoSem.ClaimSeven
namespace Go.Proofs.YtcebkjiafjmjfaaGreatDoor
namespace Rows

/-- THE TIED CARD OF 'laws.FnMachineText'. -/
def fnMachineTextCard : Claim7 := { stood := { row := fnMachineTextRow, standIns := [], harness := (true, "7447ed71e72a5376c4cf49b37babb19faff0eb79c6c04ef5431555a5e761562c"), looks := true }, kinds := [], alts := [], laidByText := true, laidKinds := [.data, .data, .data, .data, .sentinel, .sentinel, .pinned], laidTests := true, laidLooks := .later }
def FnMachineTextCardSaid : Prop := Claim7.holds Tryz.pinned (.plain (OpenSpec.ofChange fnMachineTextSpec)) fnMachineTextCard

/-- THE SECOND FORM's CARD OF 'laws.FnMachineText'. -/
def fnMachineTextUptoCard : Claim7 := { stood := { row := fnMachineTextUptoRow, standIns := [], harness := (true, "7447ed71e72a5376c4cf49b37babb19faff0eb79c6c04ef5431555a5e761562c"), looks := true }, kinds := [], alts := [], laidByText := true, laidKinds := [.data, .data, .data, .data, .sentinel, .sentinel, .pinned], laidTests := true, laidLooks := .later }
def FnMachineTextUptoCardSaid : Prop := Claim7.holds Tryz.pinned (.plain (OpenSpec.upto fnMachineTextSpec)) fnMachineTextUptoCard
end Rows
end Go.Proofs.YtcebkjiafjmjfaaGreatDoor
