/-
  DERIVED. GIVEN WITH THE SEED: THE CARDS: each row of YtnebmncjohoekaaDoorRows.lean that lists a variable, with what it lists TIED to the program's text (the seventh form; the later family's looks); each row that meets fmt, with fmt's text TOLD by the authors' own Lean function (tested against real Go, not proved from fmt's source: count such statements apart). THE CARD IS WHAT COUNTS. Prove the row's statement (the work); the ties are given (YtnebmncjohoekaaDoorTie.lean); close each card by the builder's one call (the guide's Derived/Test/ToyasCard.lean, 'card_holds'). Laid BY PROGRAM, IN A SANDBOX (cutbox-door.mjs). By AI agents, Wed Nov 11 2026. No macro, syntax, notation, axiom, sorry.
-/
import Derived.Test.YtnebmncjohoekaaDoorRows
import GoSem.ClaimSeven
namespace Go.Proofs.YtnebmncjohoekaaDoor
namespace Rows

/-- THE TIED CARD OF 'wattleworklaw4.BagSums'. -/
def bagSumsCard : Claim7 := { stood := { row := bagSumsRow, standIns := [], harness := (true, "fc45dd32870e4a20a46aa8e821b26233609c3d0c9f5c42a3e1ecc5b662a841ca"), looks := true }, kinds := [], alts := [], laidByText := true, laidKinds := [.handle], laidTests := true, laidLooks := .later }
def BagSumsCardSaid : Prop := Claim7.holds Tryd.pinned (.plain (OpenSpec.ofChange bagSumsSpec)) bagSumsCard

/-- THE TIED CARD OF 'wattleworklaw4.BagLattice'. -/
def bagLatticeCard : Claim7 := { stood := { row := bagLatticeRow, standIns := [], harness := (true, "fc45dd32870e4a20a46aa8e821b26233609c3d0c9f5c42a3e1ecc5b662a841ca"), looks := true }, kinds := [], alts := [], laidByText := true, laidKinds := [.handle], laidTests := true, laidLooks := .later }
def BagLatticeCardSaid : Prop := Claim7.holds Tryd.pinned (.plain (OpenSpec.ofChange bagLatticeSpec)) bagLatticeCard

/-- THE TIED CARD OF 'wattleworklaw4.BagTells'. -/
def bagTellsCard : Claim7 := { stood := { row := bagTellsRow, standIns := [], harness := (true, "fc45dd32870e4a20a46aa8e821b26233609c3d0c9f5c42a3e1ecc5b662a841ca"), looks := true }, kinds := [], alts := [], laidByText := true, laidKinds := [.handle], laidTests := true, laidLooks := .later }
def BagTellsCardSaid : Prop := Claim7.holds Tryd.pinned (.plain (OpenSpec.ofChange bagTellsSpec)) bagTellsCard

/-- THE SECOND FORM's CARD OF 'wattleworklaw4.BagSums'. -/
def bagSumsUptoCard : Claim7 := { stood := { row := bagSumsUptoRow, standIns := [], harness := (true, "fc45dd32870e4a20a46aa8e821b26233609c3d0c9f5c42a3e1ecc5b662a841ca"), looks := true }, kinds := [], alts := [], laidByText := true, laidKinds := [.handle], laidTests := true, laidLooks := .later }
def BagSumsUptoCardSaid : Prop := Claim7.holds Tryd.pinned (.plain (OpenSpec.upto bagSumsSpec)) bagSumsUptoCard

/-- THE SECOND FORM's CARD OF 'wattleworklaw4.BagLattice'. -/
def bagLatticeUptoCard : Claim7 := { stood := { row := bagLatticeUptoRow, standIns := [], harness := (true, "fc45dd32870e4a20a46aa8e821b26233609c3d0c9f5c42a3e1ecc5b662a841ca"), looks := true }, kinds := [], alts := [], laidByText := true, laidKinds := [.handle], laidTests := true, laidLooks := .later }
def BagLatticeUptoCardSaid : Prop := Claim7.holds Tryd.pinned (.plain (OpenSpec.upto bagLatticeSpec)) bagLatticeUptoCard

/-- THE SECOND FORM's CARD OF 'wattleworklaw4.BagTells'. -/
def bagTellsUptoCard : Claim7 := { stood := { row := bagTellsUptoRow, standIns := [], harness := (true, "fc45dd32870e4a20a46aa8e821b26233609c3d0c9f5c42a3e1ecc5b662a841ca"), looks := true }, kinds := [], alts := [], laidByText := true, laidKinds := [.handle], laidTests := true, laidLooks := .later }
def BagTellsUptoCardSaid : Prop := Claim7.holds Tryd.pinned (.plain (OpenSpec.upto bagTellsSpec)) bagTellsUptoCard
end Rows
end Go.Proofs.YtnebmncjohoekaaDoor
