/-
  DERIVED. GIVEN WITH THE SEED: THE CARDS: each row of YtnigadnjppeckaaDoorRows.lean that lists a variable, with what it lists TIED to the program's text (the seventh form; the later family's looks); each row that meets fmt, with fmt's text TOLD by the authors' own Lean function (tested against real Go, not proved from fmt's source: count such statements apart). THE CARD IS WHAT COUNTS. Prove the row's statement (the work); the ties are given (YtnigadnjppeckaaDoorTie.lean); close each card by the builder's one call (the guide's Derived/Test/ToyasCard.lean, 'card_holds'). Laid BY PROGRAM, IN A SANDBOX (cutbox-door.mjs). By AI agents, Wed Nov 11 2026. No macro, syntax, notation, axiom, sorry.
-/
import Derived.Test.YtnigadnjppeckaaDoorRows
import GoSem.ClaimSeven
namespace Go.Proofs.YtnigadnjppeckaaDoor
namespace Rows

/-- THE TIED CARD OF 'wattleworklaw6.InvOwn'. -/
def invOwnCard : Claim7 := { stood := { row := invOwnRow, standIns := [], harness := (true, "3a474fe94e84819c9a5b6251b35d19bd7cf3bea8e44b1ad6c119567c016f09f3"), looks := true }, kinds := [], alts := [], laidByText := true, laidKinds := [.handle], laidTests := true, laidLooks := .later }
def InvOwnCardSaid : Prop := Claim7.holds Tryd.pinned (.plain (OpenSpec.ofChange invOwnSpec)) invOwnCard

/-- THE SECOND FORM's CARD OF 'wattleworklaw6.InvOwn'. -/
def invOwnUptoCard : Claim7 := { stood := { row := invOwnUptoRow, standIns := [], harness := (true, "3a474fe94e84819c9a5b6251b35d19bd7cf3bea8e44b1ad6c119567c016f09f3"), looks := true }, kinds := [], alts := [], laidByText := true, laidKinds := [.handle], laidTests := true, laidLooks := .later }
def InvOwnUptoCardSaid : Prop := Claim7.holds Tryd.pinned (.plain (OpenSpec.upto invOwnSpec)) invOwnUptoCard
end Rows
end Go.Proofs.YtnigadnjppeckaaDoor
