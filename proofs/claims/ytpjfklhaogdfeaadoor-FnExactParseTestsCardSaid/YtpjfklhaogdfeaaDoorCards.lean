/-
  DERIVED. GIVEN WITH THE SEED: THE CARDS: each row of YtpjfklhaogdfeaaDoorRows.lean that lists a variable, with what it lists TIED to the program's text (the seventh form; the later family's looks); each row that meets fmt, with fmt's text TOLD by the authors' own Lean function (tested against real Go, not proved from fmt's source: count such statements apart). THE CARD IS WHAT COUNTS. Prove the row's statement (the work); the ties are given (YtpjfklhaogdfeaaDoorTie.lean); close each card by the builder's one call (the guide's Derived/Test/ToyasCard.lean, 'card_holds'). Laid BY PROGRAM, IN A SANDBOX (cutbox-door.mjs). By AI agents, Wed Nov 11 2026. No macro, syntax, notation, axiom, sorry.
-/
import Derived.Test.YtpjfklhaogdfeaaDoorRows
import GoSem.ClaimSeven
namespace Go.Proofs.YtpjfklhaogdfeaaDoor
namespace Rows

/-- THE TIED CARD OF 'laws.FnExactParseTests'. -/
def fnExactParseTestsCard : Claim7 := { stood := { row := fnExactParseTestsRow, standIns := [], harness := (true, "dd82453e77a9f1329ede3cd78f52a1898fe46d931f8e945a8293fabaf8303b14"), looks := true }, kinds := [], alts := [], laidByText := true, laidKinds := [.data, .data, .data, .data, .sentinel, .sentinel, .pinned], laidTests := true, laidLooks := .later }
def FnExactParseTestsCardSaid : Prop := Claim7.holds Tryd.pinned (.plain (OpenSpec.ofChange fnExactParseTestsSpec)) fnExactParseTestsCard

/-- THE SECOND FORM's CARD OF 'laws.FnExactParseTests'. -/
def fnExactParseTestsUptoCard : Claim7 := { stood := { row := fnExactParseTestsUptoRow, standIns := [], harness := (true, "dd82453e77a9f1329ede3cd78f52a1898fe46d931f8e945a8293fabaf8303b14"), looks := true }, kinds := [], alts := [], laidByText := true, laidKinds := [.data, .data, .data, .data, .sentinel, .sentinel, .pinned], laidTests := true, laidLooks := .later }
def FnExactParseTestsUptoCardSaid : Prop := Claim7.holds Tryd.pinned (.plain (OpenSpec.upto fnExactParseTestsSpec)) fnExactParseTestsUptoCard
end Rows
end Go.Proofs.YtpjfklhaogdfeaaDoor
