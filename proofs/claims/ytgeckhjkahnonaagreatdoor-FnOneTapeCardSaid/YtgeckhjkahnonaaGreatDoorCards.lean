/-
  DERIVED. GIVEN WITH THE SEED: THE CARDS: each row of YtgeckhjkahnonaaGreatDoorRows.lean that lists a variable, with what it lists TIED to the program's text (the seventh form; the later family's looks); each row that meets fmt, with fmt's text TOLD by the authors' own Lean function (tested against real Go, not proved from fmt's source: count such statements apart). THE CARD IS WHAT COUNTS. Prove the row's statement (the work); the ties are given (YtgeckhjkahnonaaGreatDoorTie.lean); close each card by the builder's one call (the guide's Derived/Test/ToyasCard.lean, 'card_holds'). Laid BY PROGRAM, IN A SANDBOX (cutbox-door.mjs). By AI agents, Wed Nov 11 2026. No macro, syntax, notation, axiom, sorry.
-/
import Derived.Test.YtgeckhjkahnonaaGreatDoorRows
import GoSem.ClaimSeven
namespace Go.Proofs.YtgeckhjkahnonaaGreatDoor
namespace Rows

/-- THE TIED CARD OF 'laws.FnOneTape'. -/
def fnOneTapeCard : Claim7 := { stood := { row := fnOneTapeRow, standIns := [], harness := (true, "aec4528f3a573eefdb7aa087a44035f5998fa75e3c8e219cc7ade6ad3f004728"), looks := false }, kinds := [], alts := [], laidByText := true, laidKinds := [.data, .data, .data], laidTests := true, laidLooks := .later }
def FnOneTapeCardSaid : Prop := Claim7.holds Tryz.pinned (.plain (OpenSpec.ofChange fnOneTapeSpec)) fnOneTapeCard

/-- THE SECOND FORM's CARD OF 'laws.FnOneTape'. -/
def fnOneTapeUptoCard : Claim7 := { stood := { row := fnOneTapeUptoRow, standIns := [], harness := (true, "aec4528f3a573eefdb7aa087a44035f5998fa75e3c8e219cc7ade6ad3f004728"), looks := false }, kinds := [], alts := [], laidByText := true, laidKinds := [.data, .data, .data], laidTests := true, laidLooks := .later }
def FnOneTapeUptoCardSaid : Prop := Claim7.holds Tryz.pinned (.plain (OpenSpec.upto fnOneTapeSpec)) fnOneTapeUptoCard
end Rows
end Go.Proofs.YtgeckhjkahnonaaGreatDoor
