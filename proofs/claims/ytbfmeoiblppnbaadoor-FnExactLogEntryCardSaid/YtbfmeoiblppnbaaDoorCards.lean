/-
  DERIVED. GIVEN WITH THE SEED: THE CARDS: each row of YtbfmeoiblppnbaaDoorRows.lean that lists a variable, with what it lists TIED to the program's text (the seventh form; the later family's looks); each row that meets fmt, with fmt's text TOLD by the authors' own Lean function (tested against real Go, not proved from fmt's source: count such statements apart). THE CARD IS WHAT COUNTS. Prove the row's statement (the work); the ties are given (YtbfmeoiblppnbaaDoorTie.lean); close each card by the builder's one call (the guide's Derived/Test/ToyasCard.lean, 'card_holds'). Laid BY PROGRAM, IN A SANDBOX (cutbox-door.mjs). By AI agents, Wed Nov 11 2026. No macro, syntax, notation, axiom, sorry.
-/
import Derived.Test.YtbfmeoiblppnbaaDoorRows
import GoSem.ClaimSeven
namespace Go.Proofs.YtbfmeoiblppnbaaDoor
namespace Rows

/-- THE TIED CARD OF 'laws.FnExactArrayText'. -/
def fnExactArrayTextCard : Claim7 := { stood := { row := fnExactArrayTextRow, standIns := [], harness := (true, "ae01010f8402dd2bf8a4ad6ade76d652849333361bed6195acfb8c6e11c7be77"), looks := false }, kinds := [], alts := [], laidByText := true, laidKinds := [.data, .data, .data], laidTests := true, laidLooks := .later }
def FnExactArrayTextCardSaid : Prop := Claim7.holds Tryd.pinned (.plain (OpenSpec.ofChange fnExactArrayTextSpec)) fnExactArrayTextCard

/-- THE TIED CARD OF 'laws.FnExactReport'. -/
def fnExactReportCard : Claim7 := { stood := { row := fnExactReportRow, standIns := [], harness := (true, "ae01010f8402dd2bf8a4ad6ade76d652849333361bed6195acfb8c6e11c7be77"), looks := false }, kinds := [], alts := [], laidByText := true, laidKinds := [.data, .data, .data], laidTests := true, laidLooks := .later }
def FnExactReportCardSaid : Prop := Claim7.holds Tryd.pinned (.plain (OpenSpec.ofChange fnExactReportSpec)) fnExactReportCard

/-- THE TIED CARD OF 'laws.FnExactLogEntry'. -/
def fnExactLogEntryCard : Claim7 := { stood := { row := fnExactLogEntryRow, standIns := [], harness := (true, "ae01010f8402dd2bf8a4ad6ade76d652849333361bed6195acfb8c6e11c7be77"), looks := false }, kinds := [], alts := [], laidByText := true, laidKinds := [.data, .data, .data], laidTests := true, laidLooks := .later }
def FnExactLogEntryCardSaid : Prop := Claim7.holds Tryd.pinned (.plain (OpenSpec.ofChange fnExactLogEntrySpec)) fnExactLogEntryCard

/-- THE SECOND FORM's CARD OF 'laws.FnExactArrayText'. -/
def fnExactArrayTextUptoCard : Claim7 := { stood := { row := fnExactArrayTextUptoRow, standIns := [], harness := (true, "ae01010f8402dd2bf8a4ad6ade76d652849333361bed6195acfb8c6e11c7be77"), looks := false }, kinds := [], alts := [], laidByText := true, laidKinds := [.data, .data, .data], laidTests := true, laidLooks := .later }
def FnExactArrayTextUptoCardSaid : Prop := Claim7.holds Tryd.pinned (.plain (OpenSpec.upto fnExactArrayTextSpec)) fnExactArrayTextUptoCard

/-- THE SECOND FORM's CARD OF 'laws.FnExactReport'. -/
def fnExactReportUptoCard : Claim7 := { stood := { row := fnExactReportUptoRow, standIns := [], harness := (true, "ae01010f8402dd2bf8a4ad6ade76d652849333361bed6195acfb8c6e11c7be77"), looks := false }, kinds := [], alts := [], laidByText := true, laidKinds := [.data, .data, .data], laidTests := true, laidLooks := .later }
def FnExactReportUptoCardSaid : Prop := Claim7.holds Tryd.pinned (.plain (OpenSpec.upto fnExactReportSpec)) fnExactReportUptoCard

/-- THE SECOND FORM's CARD OF 'laws.FnExactLogEntry'. -/
def fnExactLogEntryUptoCard : Claim7 := { stood := { row := fnExactLogEntryUptoRow, standIns := [], harness := (true, "ae01010f8402dd2bf8a4ad6ade76d652849333361bed6195acfb8c6e11c7be77"), looks := false }, kinds := [], alts := [], laidByText := true, laidKinds := [.data, .data, .data], laidTests := true, laidLooks := .later }
def FnExactLogEntryUptoCardSaid : Prop := Claim7.holds Tryd.pinned (.plain (OpenSpec.upto fnExactLogEntrySpec)) fnExactLogEntryUptoCard
end Rows
end Go.Proofs.YtbfmeoiblppnbaaDoor
