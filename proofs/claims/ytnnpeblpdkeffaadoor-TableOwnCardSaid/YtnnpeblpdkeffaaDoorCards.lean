/-
  DERIVED. GIVEN WITH THE SEED: THE CARDS: each row of YtnnpeblpdkeffaaDoorRows.lean that lists a variable, with what it lists TIED to the program's text (the seventh form; the later family's looks); each row that meets fmt, with fmt's text TOLD by the authors' own Lean function (tested against real Go, not proved from fmt's source: count such statements apart). THE CARD IS WHAT COUNTS. Prove the row's statement (the work); the ties are given (YtnnpeblpdkeffaaDoorTie.lean); close each card by the builder's one call (the guide's Derived/Test/ToyasCard.lean, 'card_holds'). Laid BY PROGRAM, IN A SANDBOX (cutbox-door.mjs). By AI agents, Wed Nov 11 2026. No macro, syntax, notation, axiom, sorry.
-/
import Derived.Test.YtnnpeblpdkeffaaDoorRows
import GoSem.ClaimSeven
namespace Go.Proofs.YtnnpeblpdkeffaaDoor
namespace Rows

/-- THE TIED CARD OF 'wattleworklaw6.TableOwn'. -/
def tableOwnCard : Claim7 := { stood := { row := tableOwnRow, standIns := [], harness := (true, "47c4254def559472d6dd638e733005c555a8d64053b68b5a919515f41b73568d"), looks := true }, kinds := [], alts := [], laidByText := true, laidKinds := [.handle], laidTests := true, laidLooks := .later }
def TableOwnCardSaid : Prop := Claim7.holds Tryd.pinned (.plain (OpenSpec.ofChange tableOwnSpec)) tableOwnCard

/-- THE SECOND FORM's CARD OF 'wattleworklaw6.TableOwn'. -/
def tableOwnUptoCard : Claim7 := { stood := { row := tableOwnUptoRow, standIns := [], harness := (true, "47c4254def559472d6dd638e733005c555a8d64053b68b5a919515f41b73568d"), looks := true }, kinds := [], alts := [], laidByText := true, laidKinds := [.handle], laidTests := true, laidLooks := .later }
def TableOwnUptoCardSaid : Prop := Claim7.holds Tryd.pinned (.plain (OpenSpec.upto tableOwnSpec)) tableOwnUptoCard
end Rows
end Go.Proofs.YtnnpeblpdkeffaaDoor
