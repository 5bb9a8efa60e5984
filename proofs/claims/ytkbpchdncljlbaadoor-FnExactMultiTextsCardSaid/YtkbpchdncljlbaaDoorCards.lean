/-
  DERIVED. GIVEN WITH THE SEED: THE CARDS: each row of YtkbpchdncljlbaaDoorRows.lean that lists a variable, with what it lists TIED to the program's text (the seventh form; the later family's looks); each row that meets fmt, with fmt's text TOLD by the authors' own Lean function (tested against real Go, not proved from fmt's source: count such statements apart). THE CARD IS WHAT COUNTS. Prove the row's statement (the work); the ties are given (YtkbpchdncljlbaaDoorTie.lean); close each card by the builder's one call (the guide's Derived/Test/ToyasCard.lean, 'card_holds'). Laid BY PROGRAM, IN A SANDBOX (cutbox-door.mjs). By AI agents, Wed Nov 11 2026. No macro, syntax, notation, axiom, sorry.
-/
import Derived.Test.YtkbpchdncljlbaaDoorRows
import GoSem.ClaimSeven
namespace Go.Proofs.YtkbpchdncljlbaaDoor
namespace Rows

/-- THE TIED CARD OF 'laws.FnExactMultiTexts'. -/
def fnExactMultiTextsCard : Claim7 := { stood := { row := fnExactMultiTextsRow, standIns := [], harness := (true, "c5ef89c62d31870f841d1a5b691769b258e29e82a46ae86ef1fed45db13edac6"), looks := false }, kinds := [], alts := [], laidByText := true, laidKinds := [.data, .data, .data], laidTests := true, laidLooks := .later }
def FnExactMultiTextsCardSaid : Prop := Claim7.holds Tryd.pinned (.plain (OpenSpec.ofChange fnExactMultiTextsSpec)) fnExactMultiTextsCard

/-- THE SECOND FORM's CARD OF 'laws.FnExactMultiTexts'. -/
def fnExactMultiTextsUptoCard : Claim7 := { stood := { row := fnExactMultiTextsUptoRow, standIns := [], harness := (true, "c5ef89c62d31870f841d1a5b691769b258e29e82a46ae86ef1fed45db13edac6"), looks := false }, kinds := [], alts := [], laidByText := true, laidKinds := [.data, .data, .data], laidTests := true, laidLooks := .later }
def FnExactMultiTextsUptoCardSaid : Prop := Claim7.holds Tryd.pinned (.plain (OpenSpec.upto fnExactMultiTextsSpec)) fnExactMultiTextsUptoCard
end Rows
end Go.Proofs.YtkbpchdncljlbaaDoor
