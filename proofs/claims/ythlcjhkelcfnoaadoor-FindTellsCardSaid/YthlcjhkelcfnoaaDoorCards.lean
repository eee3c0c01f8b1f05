/-
  DERIVED. GIVEN WITH THE SEED: THE CARDS: each row of YthlcjhkelcfnoaaDoorRows.lean that lists a variable, with what it lists TIED to the program's text (the seventh form; the later family's looks); each row that meets fmt, with fmt's text TOLD by the authors' own Lean function (tested against real Go, not proved from fmt's source: count such statements apart). THE CARD IS WHAT COUNTS. Prove the row's statement (the work); the ties are given (YthlcjhkelcfnoaaDoorTie.lean); close each card by the builder's one call (the guide's Derived/Test/ToyasCard.lean, 'card_holds'). Laid BY PROGRAM, IN A SANDBOX (cutbox-door.mjs). By AI agents, Wed Nov 11 2026. No macro, syntax, notation, axiom, sorry.
-/
import Derived.Test.YthlcjhkelcfnoaaDoorRows
import GoSem.ClaimSeven
namespace Go.Proofs.YthlcjhkelcfnoaaDoor
namespace Rows

/-- THE TIED CARD OF 'wattleworklaw4.VersTells'. -/
def versTellsCard : Claim7 := { stood := { row := versTellsRow, standIns := [], harness := (true, "675469b89a3783c25a6677f9119b853bd2291dcdbf1c5b693db27cc01011ce8e"), looks := true }, kinds := [], alts := [], laidByText := true, laidKinds := [.handle], laidTests := true, laidLooks := .later }
def VersTellsCardSaid : Prop := Claim7.holds Tryd.pinned (.plain (OpenSpec.ofChange versTellsSpec)) versTellsCard

/-- THE TIED CARD OF 'wattleworklaw4.FindTells'. -/
def findTellsCard : Claim7 := { stood := { row := findTellsRow, standIns := [], harness := (true, "675469b89a3783c25a6677f9119b853bd2291dcdbf1c5b693db27cc01011ce8e"), looks := true }, kinds := [], alts := [], laidByText := true, laidKinds := [.handle], laidTests := true, laidLooks := .later }
def FindTellsCardSaid : Prop := Claim7.holds Tryd.pinned (.plain (OpenSpec.ofChange findTellsSpec)) findTellsCard

/-- THE SECOND FORM's CARD OF 'wattleworklaw4.VersTells'. -/
def versTellsUptoCard : Claim7 := { stood := { row := versTellsUptoRow, standIns := [], harness := (true, "675469b89a3783c25a6677f9119b853bd2291dcdbf1c5b693db27cc01011ce8e"), looks := true }, kinds := [], alts := [], laidByText := true, laidKinds := [.handle], laidTests := true, laidLooks := .later }
def VersTellsUptoCardSaid : Prop := Claim7.holds Tryd.pinned (.plain (OpenSpec.upto versTellsSpec)) versTellsUptoCard

/-- THE SECOND FORM's CARD OF 'wattleworklaw4.FindTells'. -/
def findTellsUptoCard : Claim7 := { stood := { row := findTellsUptoRow, standIns := [], harness := (true, "675469b89a3783c25a6677f9119b853bd2291dcdbf1c5b693db27cc01011ce8e"), looks := true }, kinds := [], alts := [], laidByText := true, laidKinds := [.handle], laidTests := true, laidLooks := .later }
def FindTellsUptoCardSaid : Prop := Claim7.holds Tryd.pinned (.plain (OpenSpec.upto findTellsSpec)) findTellsUptoCard
end Rows
end Go.Proofs.YthlcjhkelcfnoaaDoor
