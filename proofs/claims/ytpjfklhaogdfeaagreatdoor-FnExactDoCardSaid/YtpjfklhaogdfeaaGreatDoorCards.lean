/-
  DERIVED. GIVEN WITH THE SEED: THE CARDS: each row of YtpjfklhaogdfeaaGreatDoorRows.lean that lists a variable, with what it lists TIED to the program's text (the seventh form; the later family's looks); each row that meets fmt, with fmt's text TOLD by the authors' own Lean function (tested against real Go, not proved from fmt's source: count such statements apart). THE CARD IS WHAT COUNTS. Prove the row's statement (the work); the ties are given (YtpjfklhaogdfeaaGreatDoorTie.lean); close each card by the builder's one call (the guide's Derived/Test/ToyasCard.lean, 'card_holds'). Laid BY PROGRAM, IN A SANDBOX (cutbox-door.mjs). By AI agents, Wed Nov 11 2026. No macro, syntax, notation, axiom, sorry.
-/
import Derived.Test.YtpjfklhaogdfeaaGreatDoorRows
import GoSem.ClaimSeven
namespace Go.Proofs.YtpjfklhaogdfeaaGreatDoor
namespace Rows

/-- THE TIED CARD OF 'laws.FnExactDo'. -/
def fnExactDoCard : Claim7 := { stood := { row := fnExactDoRow, standIns := [], harness := (true, "1240616af5be160e5a6aa2af6a3d1f5b892c556ab4d2a5f12f61f139c87f1585"), looks := true }, kinds := [], alts := [], laidByText := true, laidKinds := [.handle], laidTests := true, laidLooks := .later }
def FnExactDoCardSaid : Prop := Claim7.holds Tryz.pinned (.plain (OpenSpec.ofChange fnExactDoSpec)) fnExactDoCard

/-- THE SECOND FORM's CARD OF 'laws.FnExactDo'. -/
def fnExactDoUptoCard : Claim7 := { stood := { row := fnExactDoUptoRow, standIns := [], harness := (true, "1240616af5be160e5a6aa2af6a3d1f5b892c556ab4d2a5f12f61f139c87f1585"), looks := true }, kinds := [], alts := [], laidByText := true, laidKinds := [.handle], laidTests := true, laidLooks := .later }
def FnExactDoUptoCardSaid : Prop := Claim7.holds Tryz.pinned (.plain (OpenSpec.upto fnExactDoSpec)) fnExactDoUptoCard
end Rows
end Go.Proofs.YtpjfklhaogdfeaaGreatDoor
