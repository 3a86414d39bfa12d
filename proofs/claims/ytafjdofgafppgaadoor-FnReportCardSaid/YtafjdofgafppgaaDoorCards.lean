/-
  DERIVED. GIVEN WITH THE SEED: THE CARDS: each row of YtafjdofgafppgaaDoorRows.lean that lists a variable, with what it lists TIED to the program's text (the seventh form; the later family's looks); each row that meets fmt, with fmt's text TOLD by the authors' own Lean function (tested against real Go, not proved from fmt's source: count such statements apart). THE CARD IS WHAT COUNTS. Prove the row's statement (the work); the ties are given (YtafjdofgafppgaaDoorTie.lean); close each card by the builder's one call (the guide's Derived/Test/ToyasCard.lean, 'card_holds'). Laid BY PROGRAM, IN A SANDBOX (cutbox-door.mjs). By AI agents, Wed Nov 11 2026. No macro, syntax, notation, axiom, sorry.
-/
import Derived.Test.YtafjdofgafppgaaDoorRows
import GoSem.ClaimSeven
namespace Go.Proofs.YtafjdofgafppgaaDoor
namespace Rows

/-- THE TIED CARD OF 'laws.FnReport'. -/
def fnReportCard : Claim7 := { stood := { row := fnReportRow, standIns := [], harness := (true, "178b1e30b60036966c5eba72965232b857ca4e08c1f7bf83b297a76227c3c919"), looks := true }, kinds := [], alts := [], laidByText := true, laidKinds := [.data, .data, .data, .data, .sentinel, .sentinel, .pinned], laidTests := true, laidLooks := .later }
def FnReportCardSaid : Prop := Claim7.holds Tryd.pinned (.plain (OpenSpec.ofChange fnReportSpec)) fnReportCard

/-- THE SECOND FORM's CARD OF 'laws.FnReport'. -/
def fnReportUptoCard : Claim7 := { stood := { row := fnReportUptoRow, standIns := [], harness := (true, "178b1e30b60036966c5eba72965232b857ca4e08c1f7bf83b297a76227c3c919"), looks := true }, kinds := [], alts := [], laidByText := true, laidKinds := [.data, .data, .data, .data, .sentinel, .sentinel, .pinned], laidTests := true, laidLooks := .later }
def FnReportUptoCardSaid : Prop := Claim7.holds Tryd.pinned (.plain (OpenSpec.upto fnReportSpec)) fnReportUptoCard
end Rows
end Go.Proofs.YtafjdofgafppgaaDoor
