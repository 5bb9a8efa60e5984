/-
  DERIVED. GIVEN WITH THE SEED: THE CARDS: each row of YtkbpchdncljlbaaGreatDoorRows.lean that lists a variable, with what it lists TIED to the program's text (the seventh form; the later family's looks); each row that meets fmt, with fmt's text TOLD by the authors' own Lean function (tested against real Go, not proved from fmt's source: count such statements apart). THE CARD IS WHAT COUNTS. Prove the row's statement (the work); the ties are given (YtkbpchdncljlbaaGreatDoorTie.lean); close each card by the builder's one call (the guide's Derived/Test/ToyasCard.lean, 'card_holds'). Laid BY PROGRAM, IN A SANDBOX (cutbox-door.mjs). By AI agents, Wed Nov 11 2026. No macro, syntax, notation, axiom, sorry.
-/
import Derived.Test.YtkbpchdncljlbaaGreatDoorRows
import GoSem.ClaimSeven
namespace Go.Proofs.YtkbpchdncljlbaaGreatDoor
namespace Rows

/-- THE TIED CARD OF 'laws.FnMulti'. -/
def fnMultiCard : Claim7 := { stood := { row := fnMultiRow, standIns := [], harness := (true, "d2253f5f6c194409c63bf1e422026de5170bfc881d7fbe0fb53beeaede919942"), looks := true }, kinds := [], alts := [], laidByText := true, laidKinds := [.data, .data, .data, .data, .sentinel, .sentinel, .pinned], laidTests := true, laidLooks := .later }
def FnMultiCardSaid : Prop := Claim7.holds Tryz.pinned (.plain (OpenSpec.ofChange fnMultiSpec)) fnMultiCard

/-- THE SECOND FORM's CARD OF 'laws.FnMulti'. -/
def fnMultiUptoCard : Claim7 := { stood := { row := fnMultiUptoRow, standIns := [], harness := (true, "d2253f5f6c194409c63bf1e422026de5170bfc881d7fbe0fb53beeaede919942"), looks := true }, kinds := [], alts := [], laidByText := true, laidKinds := [.data, .data, .data, .data, .sentinel, .sentinel, .pinned], laidTests := true, laidLooks := .later }
def FnMultiUptoCardSaid : Prop := Claim7.holds Tryz.pinned (.plain (OpenSpec.upto fnMultiSpec)) fnMultiUptoCard
end Rows
end Go.Proofs.YtkbpchdncljlbaaGreatDoor
