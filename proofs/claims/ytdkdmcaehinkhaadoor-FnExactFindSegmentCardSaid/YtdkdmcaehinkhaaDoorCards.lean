/-
  DERIVED. GIVEN WITH THE SEED: THE CARDS: each row of YtdkdmcaehinkhaaDoorRows.lean that lists a variable, with what it lists TIED to the program's text (the seventh form; the later family's looks); each row that meets fmt, with fmt's text TOLD by the authors' own Lean function (tested against real Go, not proved from fmt's source: count such statements apart). THE CARD IS WHAT COUNTS. Prove the row's statement (the work); the ties are given (YtdkdmcaehinkhaaDoorTie.lean); close each card by the builder's one call (the guide's Derived/Test/ToyasCard.lean, 'card_holds'). Laid BY PROGRAM, IN A SANDBOX (cutbox-door.mjs). By AI agents, Wed Nov 11 2026. No macro, syntax, notation, axiom, sorry.
-/
import Derived.Test.YtdkdmcaehinkhaaDoorRows
import GoSem.ClaimSeven
namespace Go.Proofs.YtdkdmcaehinkhaaDoor
namespace Rows

/-- THE TIED CARD OF 'laws.FnExactSegmentNodes'. -/
def fnExactSegmentNodesCard : Claim7 := { stood := { row := fnExactSegmentNodesRow, standIns := [], harness := (true, "27cb81f30ab895660da4cccca75089fa01b7c2af71a9156943746c39fb4e670b"), looks := false }, kinds := [], alts := [], laidByText := true, laidKinds := [.data, .data, .data], laidTests := true, laidLooks := .later }
def FnExactSegmentNodesCardSaid : Prop := Claim7.holds Tryd.pinned (.plain (OpenSpec.ofChange fnExactSegmentNodesSpec)) fnExactSegmentNodesCard

/-- THE TIED CARD OF 'laws.FnExactCheckSegment'. -/
def fnExactCheckSegmentCard : Claim7 := { stood := { row := fnExactCheckSegmentRow, standIns := [], harness := (true, "27cb81f30ab895660da4cccca75089fa01b7c2af71a9156943746c39fb4e670b"), looks := false }, kinds := [], alts := [], laidByText := true, laidKinds := [.data, .data, .data], laidTests := true, laidLooks := .later }
def FnExactCheckSegmentCardSaid : Prop := Claim7.holds Tryd.pinned (.plain (OpenSpec.ofChange fnExactCheckSegmentSpec)) fnExactCheckSegmentCard

/-- THE TIED CARD OF 'laws.FnExactFindSegment'. -/
def fnExactFindSegmentCard : Claim7 := { stood := { row := fnExactFindSegmentRow, standIns := [], harness := (true, "27cb81f30ab895660da4cccca75089fa01b7c2af71a9156943746c39fb4e670b"), looks := false }, kinds := [], alts := [], laidByText := true, laidKinds := [.data, .data, .data], laidTests := true, laidLooks := .later }
def FnExactFindSegmentCardSaid : Prop := Claim7.holds Tryd.pinned (.plain (OpenSpec.ofChange fnExactFindSegmentSpec)) fnExactFindSegmentCard

/-- THE SECOND FORM's CARD OF 'laws.FnExactSegmentNodes'. -/
def fnExactSegmentNodesUptoCard : Claim7 := { stood := { row := fnExactSegmentNodesUptoRow, standIns := [], harness := (true, "27cb81f30ab895660da4cccca75089fa01b7c2af71a9156943746c39fb4e670b"), looks := false }, kinds := [], alts := [], laidByText := true, laidKinds := [.data, .data, .data], laidTests := true, laidLooks := .later }
def FnExactSegmentNodesUptoCardSaid : Prop := Claim7.holds Tryd.pinned (.plain (OpenSpec.upto fnExactSegmentNodesSpec)) fnExactSegmentNodesUptoCard

/-- THE SECOND FORM's CARD OF 'laws.FnExactCheckSegment'. -/
def fnExactCheckSegmentUptoCard : Claim7 := { stood := { row := fnExactCheckSegmentUptoRow, standIns := [], harness := (true, "27cb81f30ab895660da4cccca75089fa01b7c2af71a9156943746c39fb4e670b"), looks := false }, kinds := [], alts := [], laidByText := true, laidKinds := [.data, .data, .data], laidTests := true, laidLooks := .later }
def FnExactCheckSegmentUptoCardSaid : Prop := Claim7.holds Tryd.pinned (.plain (OpenSpec.upto fnExactCheckSegmentSpec)) fnExactCheckSegmentUptoCard

/-- THE SECOND FORM's CARD OF 'laws.FnExactFindSegment'. -/
def fnExactFindSegmentUptoCard : Claim7 := { stood := { row := fnExactFindSegmentUptoRow, standIns := [], harness := (true, "27cb81f30ab895660da4cccca75089fa01b7c2af71a9156943746c39fb4e670b"), looks := false }, kinds := [], alts := [], laidByText := true, laidKinds := [.data, .data, .data], laidTests := true, laidLooks := .later }
def FnExactFindSegmentUptoCardSaid : Prop := Claim7.holds Tryd.pinned (.plain (OpenSpec.upto fnExactFindSegmentSpec)) fnExactFindSegmentUptoCard
end Rows
end Go.Proofs.YtdkdmcaehinkhaaDoor
