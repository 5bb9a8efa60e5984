/-
  DERIVED. GIVEN WITH THE SEED: THE CARDS: each row of YthhjbmlkncdigaaGreatDoorRows.lean that lists a variable, with what it lists TIED to the program's text (the seventh form; the later family's looks); each row that meets fmt, with fmt's text TOLD by the authors' own Lean function (tested against real Go, not proved from fmt's source: count such statements apart). THE CARD IS WHAT COUNTS. Prove the row's statement (the work); the ties are given (YthhjbmlkncdigaaGreatDoorTie.lean); close each card by the builder's one call (the guide's Derived/Test/ToyasCard.lean, 'card_holds'). Laid BY PROGRAM, IN A SANDBOX (cutbox-door.mjs). By AI agents, Wed Nov 11 2026. No macro, syntax, notation, axiom, sorry.
-/
import Derived.Test.YthhjbmlkncdigaaGreatDoorRows
import GoSem.ClaimSeven
namespace Go.Proofs.YthhjbmlkncdigaaGreatDoor
namespace Rows

/-- THE TIED CARD OF 'laws.FnExactBinaryTexts'. -/
def fnExactBinaryTextsCard : Claim7 := { stood := { row := fnExactBinaryTextsRow, standIns := [], harness := (true, "0759b0caeb1c20b35c230936e0abde192b8a35a260445119c45969f8722cb186"), looks := false }, kinds := [], alts := [], laidByText := true, laidKinds := [.data, .data, .data], laidTests := true, laidLooks := .later }
def FnExactBinaryTextsCardSaid : Prop := Claim7.holds Tryz.pinned (.plain (OpenSpec.ofChange fnExactBinaryTextsSpec)) fnExactBinaryTextsCard

/-- THE SECOND FORM's CARD OF 'laws.FnExactBinaryTexts'. -/
def fnExactBinaryTextsUptoCard : Claim7 := { stood := { row := fnExactBinaryTextsUptoRow, standIns := [], harness := (true, "0759b0caeb1c20b35c230936e0abde192b8a35a260445119c45969f8722cb186"), looks := false }, kinds := [], alts := [], laidByText := true, laidKinds := [.data, .data, .data], laidTests := true, laidLooks := .later }
def FnExactBinaryTextsUptoCardSaid : Prop := Claim7.holds Tryz.pinned (.plain (OpenSpec.upto fnExactBinaryTextsSpec)) fnExactBinaryTextsUptoCard
end Rows
end Go.Proofs.YthhjbmlkncdigaaGreatDoor
