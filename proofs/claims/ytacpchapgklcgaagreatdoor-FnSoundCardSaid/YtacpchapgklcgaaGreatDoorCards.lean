/-
  DERIVED. GIVEN WITH THE SEED: THE CARDS: each row of YtacpchapgklcgaaGreatDoorRows.lean that lists a variable, with what it lists TIED to the program's text (the seventh form; the later family's looks); each row that meets fmt, with fmt's text TOLD by the authors' own Lean function (tested against real Go, not proved from fmt's source: count such statements apart). THE CARD IS WHAT COUNTS. Prove the row's statement (the work); the ties are given (YtacpchapgklcgaaGreatDoorTie.lean); close each card by the builder's one call (the guide's Derived/Test/ToyasCard.lean, 'card_holds'). Laid BY PROGRAM, IN A SANDBOX (cutbox-door.mjs). By AI agents, Wed Nov 11 2026. No macro, syntax, notation, axiom, sorry.
-/
import Derived.Test.YtacpchapgklcgaaGreatDoorRows
import GoSem.ClaimSeven
namespace Go.Proofs.YtacpchapgklcgaaGreatDoor
namespace Rows

/-- THE TIED CARD OF 'laws.FnAccepted'. -/
def fnAcceptedCard : Claim7 := { stood := { row := fnAcceptedRow, standIns := [], harness := (true, "7b23c2773a10ec1cda31a99958150cb81c647862a586c6ba6250cab490049e69"), looks := false }, kinds := [], alts := [], laidByText := true, laidKinds := [.data, .data, .data], laidTests := true, laidLooks := .later }
def FnAcceptedCardSaid : Prop := Claim7.holds Tryz.pinned (.plain (OpenSpec.ofChange fnAcceptedSpec)) fnAcceptedCard

/-- THE TIED CARD OF 'laws.FnSound'. -/
def fnSoundCard : Claim7 := { stood := { row := fnSoundRow, standIns := [], harness := (true, "7b23c2773a10ec1cda31a99958150cb81c647862a586c6ba6250cab490049e69"), looks := false }, kinds := [], alts := [], laidByText := true, laidKinds := [.data, .data, .data], laidTests := true, laidLooks := .later }
def FnSoundCardSaid : Prop := Claim7.holds Tryz.pinned (.plain (OpenSpec.ofChange fnSoundSpec)) fnSoundCard

/-- THE SECOND FORM's CARD OF 'laws.FnAccepted'. -/
def fnAcceptedUptoCard : Claim7 := { stood := { row := fnAcceptedUptoRow, standIns := [], harness := (true, "7b23c2773a10ec1cda31a99958150cb81c647862a586c6ba6250cab490049e69"), looks := false }, kinds := [], alts := [], laidByText := true, laidKinds := [.data, .data, .data], laidTests := true, laidLooks := .later }
def FnAcceptedUptoCardSaid : Prop := Claim7.holds Tryz.pinned (.plain (OpenSpec.upto fnAcceptedSpec)) fnAcceptedUptoCard

/-- THE SECOND FORM's CARD OF 'laws.FnSound'. -/
def fnSoundUptoCard : Claim7 := { stood := { row := fnSoundUptoRow, standIns := [], harness := (true, "7b23c2773a10ec1cda31a99958150cb81c647862a586c6ba6250cab490049e69"), looks := false }, kinds := [], alts := [], laidByText := true, laidKinds := [.data, .data, .data], laidTests := true, laidLooks := .later }
def FnSoundUptoCardSaid : Prop := Claim7.holds Tryz.pinned (.plain (OpenSpec.upto fnSoundSpec)) fnSoundUptoCard
end Rows
end Go.Proofs.YtacpchapgklcgaaGreatDoor
