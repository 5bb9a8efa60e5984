/-
  DERIVED. GIVEN WITH THE SEED: THE CARDS: each row of YtnflhpgkffiloaaDoorRows.lean that lists a variable, with what it lists TIED to the program's text (the seventh form; the later family's looks); each row that meets fmt, with fmt's text TOLD by the authors' own Lean function (tested against real Go, not proved from fmt's source: count such statements apart). THE CARD IS WHAT COUNTS. Prove the row's statement (the work); the ties are given (YtnflhpgkffiloaaDoorTie.lean); close each card by the builder's one call (the guide's Derived/Test/ToyasCard.lean, 'card_holds'). Laid BY PROGRAM, IN A SANDBOX (cutbox-door.mjs). By AI agents, Wed Nov 11 2026. No macro, syntax, notation, axiom, sorry.
-/
import Derived.Test.YtnflhpgkffiloaaDoorRows
import GoSem.ClaimSeven
namespace Go.Proofs.YtnflhpgkffiloaaDoor
namespace Rows

/-- THE TIED CARD OF 'laws.FnNormalForms'. -/
def fnNormalFormsCard : Claim7 := { stood := { row := fnNormalFormsRow, standIns := [], harness := (true, "b0a0df48e5fd98b399ab9031ef1907a527e6ee3a3f77348c95385c3c7ab09938"), looks := false }, kinds := [], alts := [], laidByText := true, laidKinds := [.data, .data, .data], laidTests := true, laidLooks := .later }
def FnNormalFormsCardSaid : Prop := Claim7.holds Tryd.pinned (.plain (OpenSpec.ofChange fnNormalFormsSpec)) fnNormalFormsCard

/-- THE SECOND FORM's CARD OF 'laws.FnNormalForms'. -/
def fnNormalFormsUptoCard : Claim7 := { stood := { row := fnNormalFormsUptoRow, standIns := [], harness := (true, "b0a0df48e5fd98b399ab9031ef1907a527e6ee3a3f77348c95385c3c7ab09938"), looks := false }, kinds := [], alts := [], laidByText := true, laidKinds := [.data, .data, .data], laidTests := true, laidLooks := .later }
def FnNormalFormsUptoCardSaid : Prop := Claim7.holds Tryd.pinned (.plain (OpenSpec.upto fnNormalFormsSpec)) fnNormalFormsUptoCard
end Rows
end Go.Proofs.YtnflhpgkffiloaaDoor
