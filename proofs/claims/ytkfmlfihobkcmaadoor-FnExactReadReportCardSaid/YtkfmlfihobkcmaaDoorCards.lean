/-
  DERIVED. GIVEN WITH THE SEED: THE CARDS: each row of YtkfmlfihobkcmaaDoorRows.lean that lists a variable, with what it lists TIED to the program's text (the seventh form; the later family's looks); each row that meets fmt, with fmt's text TOLD by the authors' own Lean function (tested against real Go, not proved from fmt's source: count such statements apart). THE CARD IS WHAT COUNTS. Prove the row's statement (the work); the ties are given (YtkfmlfihobkcmaaDoorTie.lean); close each card by the builder's one call (the guide's Derived/Test/ToyasCard.lean, 'card_holds'). Laid BY PROGRAM, IN A SANDBOX (cutbox-door.mjs). By AI agents, Wed Nov 11 2026. No macro, syntax, notation, axiom, sorry.
-/
import Derived.Test.YtkfmlfihobkcmaaDoorRows
import GoSem.ClaimSeven
namespace Go.Proofs.YtkfmlfihobkcmaaDoor
namespace Rows

/-- THE TIED CARD OF 'laws.FnExactParseArray'. -/
def fnExactParseArrayCard : Claim7 := { stood := { row := fnExactParseArrayRow, standIns := [], harness := (true, "b5833df8f1536489f716d11d0cde9bab1c36c08ebc84570d4e7ef9d7a783a69b"), looks := true }, kinds := [], alts := [], laidByText := true, laidKinds := [.data, .data, .data, .data, .sentinel, .sentinel, .pinned], laidTests := true, laidLooks := .later }
def FnExactParseArrayCardSaid : Prop := Claim7.holds Tryd.pinned (.plain (OpenSpec.ofChange fnExactParseArraySpec)) fnExactParseArrayCard

/-- THE TIED CARD OF 'laws.FnExactReadReport'. -/
def fnExactReadReportCard : Claim7 := { stood := { row := fnExactReadReportRow, standIns := [], harness := (true, "b5833df8f1536489f716d11d0cde9bab1c36c08ebc84570d4e7ef9d7a783a69b"), looks := true }, kinds := [], alts := [], laidByText := true, laidKinds := [.data, .data, .data, .data, .sentinel, .sentinel, .pinned], laidTests := true, laidLooks := .later }
def FnExactReadReportCardSaid : Prop := Claim7.holds Tryd.pinned (.plain (OpenSpec.ofChange fnExactReadReportSpec)) fnExactReadReportCard

/-- THE TIED CARD OF 'laws.FnExactParseTests'. -/
def fnExactParseTestsCard : Claim7 := { stood := { row := fnExactParseTestsRow, standIns := [], harness := (true, "b5833df8f1536489f716d11d0cde9bab1c36c08ebc84570d4e7ef9d7a783a69b"), looks := true }, kinds := [], alts := [], laidByText := true, laidKinds := [.data, .data, .data, .data, .sentinel, .sentinel, .pinned], laidTests := true, laidLooks := .later }
def FnExactParseTestsCardSaid : Prop := Claim7.holds Tryd.pinned (.plain (OpenSpec.ofChange fnExactParseTestsSpec)) fnExactParseTestsCard

/-- THE SECOND FORM's CARD OF 'laws.FnExactParseArray'. -/
def fnExactParseArrayUptoCard : Claim7 := { stood := { row := fnExactParseArrayUptoRow, standIns := [], harness := (true, "b5833df8f1536489f716d11d0cde9bab1c36c08ebc84570d4e7ef9d7a783a69b"), looks := true }, kinds := [], alts := [], laidByText := true, laidKinds := [.data, .data, .data, .data, .sentinel, .sentinel, .pinned], laidTests := true, laidLooks := .later }
def FnExactParseArrayUptoCardSaid : Prop := Claim7.holds Tryd.pinned (.plain (OpenSpec.upto fnExactParseArraySpec)) fnExactParseArrayUptoCard

/-- THE SECOND FORM's CARD OF 'laws.FnExactReadReport'. -/
def fnExactReadReportUptoCard : Claim7 := { stood := { row := fnExactReadReportUptoRow, standIns := [], harness := (true, "b5833df8f1536489f716d11d0cde9bab1c36c08ebc84570d4e7ef9d7a783a69b"), looks := true }, kinds := [], alts := [], laidByText := true, laidKinds := [.data, .data, .data, .data, .sentinel, .sentinel, .pinned], laidTests := true, laidLooks := .later }
def FnExactReadReportUptoCardSaid : Prop := Claim7.holds Tryd.pinned (.plain (OpenSpec.upto fnExactReadReportSpec)) fnExactReadReportUptoCard

/-- THE SECOND FORM's CARD OF 'laws.FnExactParseTests'. -/
def fnExactParseTestsUptoCard : Claim7 := { stood := { row := fnExactParseTestsUptoRow, standIns := [], harness := (true, "b5833df8f1536489f716d11d0cde9bab1c36c08ebc84570d4e7ef9d7a783a69b"), looks := true }, kinds := [], alts := [], laidByText := true, laidKinds := [.data, .data, .data, .data, .sentinel, .sentinel, .pinned], laidTests := true, laidLooks := .later }
def FnExactParseTestsUptoCardSaid : Prop := Claim7.holds Tryd.pinned (.plain (OpenSpec.upto fnExactParseTestsSpec)) fnExactParseTestsUptoCard
end Rows
end Go.Proofs.YtkfmlfihobkcmaaDoor
