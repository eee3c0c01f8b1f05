/-
  No cell of these rows narrows 'for every input' (looked for: loops, veiled, ifaces, maps, wideKeys, modest, calm, conditions, laid).
  DERIVED. THE GIVEN ROWS OF THIS SEAT. 12 by the template 'for every input the law returns true; each argument reads behind the call as it read before'; 0 by the template 'total and deterministic' (their statements: YtcjhbpnmkahkeaaTotals.lean).
  GIVEN WITH THE SEED: the statements are not yours to turn. If you find one false, say at which input.
  Laid BY PROGRAM, IN A SANDBOX (cutbox-rows.mjs): the forced cells as the released guide's own fill.sh prints them over the translation 0fd3169175282640… (all of the seat's roots in one cut). By AI agents, Wed Nov 11 2026. No macro, syntax, notation, axiom, sorry.
-/
import Derived.Test.YtcjhbpnmkahkeaaChecked
import GoSem.Claim
import GoSem.ClaimJoined
import GoSem.ClaimMapViews
import Derived.JoinedTies
import Derived.KernelRfl
namespace Go.Proofs.Ytcjhbpnmkahkeaa
/- THE CELL 'sum', in the pinned program and in every row, IS THE sha256 OF THE DUMP (.gsa) THAT YtcjhbpnmkahkeaaProg.lean LOADS. Nothing in Lean hashes anything: it is a label: what it is worth is what the hold of that sum in a sandbox is worth. -/
noncomputable def Try.pinned : Pinned := { name := "ytcjhbpnmkahkeaa", sum := "0fd31691752826405ef53444da5282f26c2b2024314913e788cb3adff4ce5d0b", checked := Try.checked }
namespace Rows
def none {H : Type} : Left H := { results := [], args := [] }

/-- 'wattleworklaw6.ListOwn': WHATEVER THE INPUT: true; the input reads as it did. -/
def listOwnSpec : ChangeSpec := { name := "listOwn", fn := fun _ => fun
  | [d1, d2] => { results := [.lit (.bool true)], args := [d1, d2] }
  | _ => none }
def listOwnRow : OpenClaim := { program := "ytcjhbpnmkahkeaa", sum := "0fd31691752826405ef53444da5282f26c2b2024314913e788cb3adff4ce5d0b", func := "wattlework/wattleworklaw6.ListOwn", spec := "listOwn", unfollowed := true, recurses := true, apart := false }
def ListOwnSaid : Prop := listOwnRow.holds Try.pinned (OpenSpec.ofChange listOwnSpec)

/-- ITS FALSE NEIGHBOUR: 'it returns false'. Refute it at one input. -/
def listOwnWrong : ChangeSpec := { name := "listOwn", fn := fun _ => fun
  | [d1, d2] => { results := [.lit (.bool false)], args := [d1, d2] }
  | _ => none }
def ListOwnWrongFalsely : Prop := listOwnRow.holds Try.pinned (OpenSpec.ofChange listOwnWrong)

/-- 'wattleworklaw6.RalOwn': WHATEVER THE INPUT: true; the input reads as it did. -/
def ralOwnSpec : ChangeSpec := { name := "ralOwn", fn := fun _ => fun
  | [d1, d2] => { results := [.lit (.bool true)], args := [d1, d2] }
  | _ => none }
def ralOwnRow : OpenClaim := { program := "ytcjhbpnmkahkeaa", sum := "0fd31691752826405ef53444da5282f26c2b2024314913e788cb3adff4ce5d0b", func := "wattlework/wattleworklaw6.RalOwn", spec := "ralOwn", unfollowed := true, recurses := true, apart := false }
def RalOwnSaid : Prop := ralOwnRow.holds Try.pinned (OpenSpec.ofChange ralOwnSpec)

/-- ITS FALSE NEIGHBOUR: 'it returns false'. Refute it at one input. -/
def ralOwnWrong : ChangeSpec := { name := "ralOwn", fn := fun _ => fun
  | [d1, d2] => { results := [.lit (.bool false)], args := [d1, d2] }
  | _ => none }
def RalOwnWrongFalsely : Prop := ralOwnRow.holds Try.pinned (OpenSpec.ofChange ralOwnWrong)

/-- 'wattleworklaw6.PairOwn': WHATEVER THE INPUT: true; the input reads as it did. -/
def pairOwnSpec : ChangeSpec := { name := "pairOwn", fn := fun _ => fun
  | [d1, d2] => { results := [.lit (.bool true)], args := [d1, d2] }
  | _ => none }
def pairOwnRow : OpenClaim := { program := "ytcjhbpnmkahkeaa", sum := "0fd31691752826405ef53444da5282f26c2b2024314913e788cb3adff4ce5d0b", func := "wattlework/wattleworklaw6.PairOwn", spec := "pairOwn", apart := false }
def PairOwnSaid : Prop := pairOwnRow.holds Try.pinned (OpenSpec.ofChange pairOwnSpec)

/-- ITS FALSE NEIGHBOUR: 'it returns false'. Refute it at one input. -/
def pairOwnWrong : ChangeSpec := { name := "pairOwn", fn := fun _ => fun
  | [d1, d2] => { results := [.lit (.bool false)], args := [d1, d2] }
  | _ => none }
def PairOwnWrongFalsely : Prop := pairOwnRow.holds Try.pinned (OpenSpec.ofChange pairOwnWrong)

/-- 'wattleworklaw6.LeftOwn': WHATEVER THE INPUT: true; the input reads as it did. -/
def leftOwnSpec : ChangeSpec := { name := "leftOwn", fn := fun _ => fun
  | [d1, d2] => { results := [.lit (.bool true)], args := [d1, d2] }
  | _ => none }
def leftOwnRow : OpenClaim := { program := "ytcjhbpnmkahkeaa", sum := "0fd31691752826405ef53444da5282f26c2b2024314913e788cb3adff4ce5d0b", func := "wattlework/wattleworklaw6.LeftOwn", spec := "leftOwn", recurses := true, apart := false }
def LeftOwnSaid : Prop := leftOwnRow.holds Try.pinned (OpenSpec.ofChange leftOwnSpec)

/-- ITS FALSE NEIGHBOUR: 'it returns false'. Refute it at one input. -/
def leftOwnWrong : ChangeSpec := { name := "leftOwn", fn := fun _ => fun
  | [d1, d2] => { results := [.lit (.bool false)], args := [d1, d2] }
  | _ => none }
def LeftOwnWrongFalsely : Prop := leftOwnRow.holds Try.pinned (OpenSpec.ofChange leftOwnWrong)

/-- 'wattleworklaw6.AvlOwn': WHATEVER THE INPUT: true; the input reads as it did. -/
def avlOwnSpec : ChangeSpec := { name := "avlOwn", fn := fun _ => fun
  | [d1, d2] => { results := [.lit (.bool true)], args := [d1, d2] }
  | _ => none }
def avlOwnRow : OpenClaim := { program := "ytcjhbpnmkahkeaa", sum := "0fd31691752826405ef53444da5282f26c2b2024314913e788cb3adff4ce5d0b", func := "wattlework/wattleworklaw6.AvlOwn", spec := "avlOwn", unfollowed := true, recurses := true, apart := false }
def AvlOwnSaid : Prop := avlOwnRow.holds Try.pinned (OpenSpec.ofChange avlOwnSpec)

/-- ITS FALSE NEIGHBOUR: 'it returns false'. Refute it at one input. -/
def avlOwnWrong : ChangeSpec := { name := "avlOwn", fn := fun _ => fun
  | [d1, d2] => { results := [.lit (.bool false)], args := [d1, d2] }
  | _ => none }
def AvlOwnWrongFalsely : Prop := avlOwnRow.holds Try.pinned (OpenSpec.ofChange avlOwnWrong)

/-- 'wattleworklaw6.TreapOwn': WHATEVER THE INPUT: true; the input reads as it did. -/
def treapOwnSpec : ChangeSpec := { name := "treapOwn", fn := fun _ => fun
  | [d1, d2] => { results := [.lit (.bool true)], args := [d1, d2] }
  | _ => none }
def treapOwnRow : OpenClaim := { program := "ytcjhbpnmkahkeaa", sum := "0fd31691752826405ef53444da5282f26c2b2024314913e788cb3adff4ce5d0b", func := "wattlework/wattleworklaw6.TreapOwn", spec := "treapOwn", unfollowed := true, recurses := true, apart := false }
def TreapOwnSaid : Prop := treapOwnRow.holds Try.pinned (OpenSpec.ofChange treapOwnSpec)

/-- ITS FALSE NEIGHBOUR: 'it returns false'. Refute it at one input. -/
def treapOwnWrong : ChangeSpec := { name := "treapOwn", fn := fun _ => fun
  | [d1, d2] => { results := [.lit (.bool false)], args := [d1, d2] }
  | _ => none }
def TreapOwnWrongFalsely : Prop := treapOwnRow.holds Try.pinned (OpenSpec.ofChange treapOwnWrong)

/-- 'wattleworklaw6.ZipOwn': WHATEVER THE INPUT: true; the input reads as it did. -/
def zipOwnSpec : ChangeSpec := { name := "zipOwn", fn := fun _ => fun
  | [d1, d2] => { results := [.lit (.bool true)], args := [d1, d2] }
  | _ => none }
def zipOwnRow : OpenClaim := { program := "ytcjhbpnmkahkeaa", sum := "0fd31691752826405ef53444da5282f26c2b2024314913e788cb3adff4ce5d0b", func := "wattlework/wattleworklaw6.ZipOwn", spec := "zipOwn", unfollowed := true, recurses := true, apart := false }
def ZipOwnSaid : Prop := zipOwnRow.holds Try.pinned (OpenSpec.ofChange zipOwnSpec)

/-- ITS FALSE NEIGHBOUR: 'it returns false'. Refute it at one input. -/
def zipOwnWrong : ChangeSpec := { name := "zipOwn", fn := fun _ => fun
  | [d1, d2] => { results := [.lit (.bool false)], args := [d1, d2] }
  | _ => none }
def ZipOwnWrongFalsely : Prop := zipOwnRow.holds Try.pinned (OpenSpec.ofChange zipOwnWrong)

/-- 'wattleworklaw6.SplayOwn': WHATEVER THE INPUT: true; the input reads as it did. -/
def splayOwnSpec : ChangeSpec := { name := "splayOwn", fn := fun _ => fun
  | [d1, d2] => { results := [.lit (.bool true)], args := [d1, d2] }
  | _ => none }
def splayOwnRow : OpenClaim := { program := "ytcjhbpnmkahkeaa", sum := "0fd31691752826405ef53444da5282f26c2b2024314913e788cb3adff4ce5d0b", func := "wattlework/wattleworklaw6.SplayOwn", spec := "splayOwn", unfollowed := true, recurses := true, apart := false }
def SplayOwnSaid : Prop := splayOwnRow.holds Try.pinned (OpenSpec.ofChange splayOwnSpec)

/-- ITS FALSE NEIGHBOUR: 'it returns false'. Refute it at one input. -/
def splayOwnWrong : ChangeSpec := { name := "splayOwn", fn := fun _ => fun
  | [d1, d2] => { results := [.lit (.bool false)], args := [d1, d2] }
  | _ => none }
def SplayOwnWrongFalsely : Prop := splayOwnRow.holds Try.pinned (OpenSpec.ofChange splayOwnWrong)

/-- 'wattleworklaw6.RedOwn': WHATEVER THE INPUT: true; the input reads as it did. -/
def redOwnSpec : ChangeSpec := { name := "redOwn", fn := fun _ => fun
  | [d1, d2] => { results := [.lit (.bool true)], args := [d1, d2] }
  | _ => none }
def redOwnRow : OpenClaim := { program := "ytcjhbpnmkahkeaa", sum := "0fd31691752826405ef53444da5282f26c2b2024314913e788cb3adff4ce5d0b", func := "wattlework/wattleworklaw6.RedOwn", spec := "redOwn", unfollowed := true, recurses := true, apart := false }
def RedOwnSaid : Prop := redOwnRow.holds Try.pinned (OpenSpec.ofChange redOwnSpec)

/-- ITS FALSE NEIGHBOUR: 'it returns false'. Refute it at one input. -/
def redOwnWrong : ChangeSpec := { name := "redOwn", fn := fun _ => fun
  | [d1, d2] => { results := [.lit (.bool false)], args := [d1, d2] }
  | _ => none }
def RedOwnWrongFalsely : Prop := redOwnRow.holds Try.pinned (OpenSpec.ofChange redOwnWrong)

/-- 'wattleworklaw6.WbtOwn': WHATEVER THE INPUT: true; the input reads as it did. -/
def wbtOwnSpec : ChangeSpec := { name := "wbtOwn", fn := fun _ => fun
  | [d1, d2] => { results := [.lit (.bool true)], args := [d1, d2] }
  | _ => none }
def wbtOwnRow : OpenClaim := { program := "ytcjhbpnmkahkeaa", sum := "0fd31691752826405ef53444da5282f26c2b2024314913e788cb3adff4ce5d0b", func := "wattlework/wattleworklaw6.WbtOwn", spec := "wbtOwn", recurses := true, apart := false }
def WbtOwnSaid : Prop := wbtOwnRow.holds Try.pinned (OpenSpec.ofChange wbtOwnSpec)

/-- ITS FALSE NEIGHBOUR: 'it returns false'. Refute it at one input. -/
def wbtOwnWrong : ChangeSpec := { name := "wbtOwn", fn := fun _ => fun
  | [d1, d2] => { results := [.lit (.bool false)], args := [d1, d2] }
  | _ => none }
def WbtOwnWrongFalsely : Prop := wbtOwnRow.holds Try.pinned (OpenSpec.ofChange wbtOwnWrong)

/-- 'wattleworklaw6.BinoOwn': WHATEVER THE INPUT: true; the input reads as it did. -/
def binoOwnSpec : ChangeSpec := { name := "binoOwn", fn := fun _ => fun
  | [d1, d2] => { results := [.lit (.bool true)], args := [d1, d2] }
  | _ => none }
def binoOwnRow : OpenClaim := { program := "ytcjhbpnmkahkeaa", sum := "0fd31691752826405ef53444da5282f26c2b2024314913e788cb3adff4ce5d0b", func := "wattlework/wattleworklaw6.BinoOwn", spec := "binoOwn", recurses := true, apart := false }
def BinoOwnSaid : Prop := binoOwnRow.holds Try.pinned (OpenSpec.ofChange binoOwnSpec)

/-- ITS FALSE NEIGHBOUR: 'it returns false'. Refute it at one input. -/
def binoOwnWrong : ChangeSpec := { name := "binoOwn", fn := fun _ => fun
  | [d1, d2] => { results := [.lit (.bool false)], args := [d1, d2] }
  | _ => none }
def BinoOwnWrongFalsely : Prop := binoOwnRow.holds Try.pinned (OpenSpec.ofChange binoOwnWrong)

/-- 'wattleworklaw6.LisOwn': WHATEVER THE INPUT: true; the input reads as it did. -/
def lisOwnSpec : ChangeSpec := { name := "lisOwn", fn := fun _ => fun
  | [d1, d2] => { results := [.lit (.bool true)], args := [d1, d2] }
  | _ => none }
def lisOwnRow : OpenClaim := { program := "ytcjhbpnmkahkeaa", sum := "0fd31691752826405ef53444da5282f26c2b2024314913e788cb3adff4ce5d0b", func := "wattlework/wattleworklaw6.LisOwn", spec := "lisOwn", unfollowed := true, recurses := true, apart := false }
def LisOwnSaid : Prop := lisOwnRow.holds Try.pinned (OpenSpec.ofChange lisOwnSpec)

/-- ITS FALSE NEIGHBOUR: 'it returns false'. Refute it at one input. -/
def lisOwnWrong : ChangeSpec := { name := "lisOwn", fn := fun _ => fun
  | [d1, d2] => { results := [.lit (.bool false)], args := [d1, d2] }
  | _ => none }
def LisOwnWrongFalsely : Prop := lisOwnRow.holds Try.pinned (OpenSpec.ofChange lisOwnWrong)

/- THE SECOND FORM. 'bulk': how many values and letters a reading holds, each counted each time it is reached (what is shared counts as often as it is met; a slice's spare places count too). A statement '..UptoSaid' is the law's where the arguments, and the package variables that the reading takes, are together of bulk at most 1048576: NARROWER than '..Said'. Prove '..Said' where nothing that the law and all that it calls make is longer than what came in: it says more and counts as full. Else prove '..UptoSaid'. A law counts once. -/
mutual
def uptoBulk {H : Type} : DataW H → Nat
  | .lit (.string bytes) => bytes.length + 1
  | .lit _ => 1
  | .nil => 1
  | .ptr d => uptoBulk d + 1
  | .slice elems spare => uptoBulkAll elems + uptoBulkAll spare + 1
  | .agg parts => uptoBulkAll parts + 1
  | .iface _ d => uptoBulk d + 1
  | .map entries => uptoBulkEntries entries + 1
  | .held _ => 1
def uptoBulkAll {H : Type} : List (DataW H) → Nat
  | [] => 0
  | d :: r => uptoBulk d + uptoBulkAll r
def uptoBulkEntries {H : Type} : List (Lit × DataW H) → Nat
  | [] => 0
  | x :: r => uptoBulkEntry x + uptoBulkEntries r
def uptoBulkEntry {H : Type} : Lit × DataW H → Nat
  | (.string bytes, d) => bytes.length + uptoBulk d + 1
  | (_, d) => uptoBulk d + 1
 end
def uptoSmall : (H : Type) → List (DataW H) → Bool := fun _ ds => decide (uptoBulkAll ds ≤ 1048576)
def OpenSpec.upto (s : _root_.Go.ChangeSpec) : _root_.Go.OpenSpec := { _root_.Go.OpenSpec.ofChange s with cond := some uptoSmall }

/-- 'wattleworklaw6.ListOwn', WHERE WHAT IT READS IS OF BULK AT MOST 1048576: true; the input reads as it did. -/
def listOwnUptoRow : OpenClaim := { program := "ytcjhbpnmkahkeaa", sum := "0fd31691752826405ef53444da5282f26c2b2024314913e788cb3adff4ce5d0b", func := "wattlework/wattleworklaw6.ListOwn", spec := "listOwn", unfollowed := true, recurses := true, apart := false, narrowed := true }
def ListOwnUptoSaid : Prop := listOwnUptoRow.holds Try.pinned (OpenSpec.upto listOwnSpec)

/-- 'wattleworklaw6.RalOwn', WHERE WHAT IT READS IS OF BULK AT MOST 1048576: true; the input reads as it did. -/
def ralOwnUptoRow : OpenClaim := { program := "ytcjhbpnmkahkeaa", sum := "0fd31691752826405ef53444da5282f26c2b2024314913e788cb3adff4ce5d0b", func := "wattlework/wattleworklaw6.RalOwn", spec := "ralOwn", unfollowed := true, recurses := true, apart := false, narrowed := true }
def RalOwnUptoSaid : Prop := ralOwnUptoRow.holds Try.pinned (OpenSpec.upto ralOwnSpec)

/-- 'wattleworklaw6.PairOwn', WHERE WHAT IT READS IS OF BULK AT MOST 1048576: true; the input reads as it did. -/
def pairOwnUptoRow : OpenClaim := { program := "ytcjhbpnmkahkeaa", sum := "0fd31691752826405ef53444da5282f26c2b2024314913e788cb3adff4ce5d0b", func := "wattlework/wattleworklaw6.PairOwn", spec := "pairOwn", apart := false, narrowed := true }
def PairOwnUptoSaid : Prop := pairOwnUptoRow.holds Try.pinned (OpenSpec.upto pairOwnSpec)

/-- 'wattleworklaw6.LeftOwn', WHERE WHAT IT READS IS OF BULK AT MOST 1048576: true; the input reads as it did. -/
def leftOwnUptoRow : OpenClaim := { program := "ytcjhbpnmkahkeaa", sum := "0fd31691752826405ef53444da5282f26c2b2024314913e788cb3adff4ce5d0b", func := "wattlework/wattleworklaw6.LeftOwn", spec := "leftOwn", recurses := true, apart := false, narrowed := true }
def LeftOwnUptoSaid : Prop := leftOwnUptoRow.holds Try.pinned (OpenSpec.upto leftOwnSpec)

/-- 'wattleworklaw6.AvlOwn', WHERE WHAT IT READS IS OF BULK AT MOST 1048576: true; the input reads as it did. -/
def avlOwnUptoRow : OpenClaim := { program := "ytcjhbpnmkahkeaa", sum := "0fd31691752826405ef53444da5282f26c2b2024314913e788cb3adff4ce5d0b", func := "wattlework/wattleworklaw6.AvlOwn", spec := "avlOwn", unfollowed := true, recurses := true, apart := false, narrowed := true }
def AvlOwnUptoSaid : Prop := avlOwnUptoRow.holds Try.pinned (OpenSpec.upto avlOwnSpec)

/-- 'wattleworklaw6.TreapOwn', WHERE WHAT IT READS IS OF BULK AT MOST 1048576: true; the input reads as it did. -/
def treapOwnUptoRow : OpenClaim := { program := "ytcjhbpnmkahkeaa", sum := "0fd31691752826405ef53444da5282f26c2b2024314913e788cb3adff4ce5d0b", func := "wattlework/wattleworklaw6.TreapOwn", spec := "treapOwn", unfollowed := true, recurses := true, apart := false, narrowed := true }
def TreapOwnUptoSaid : Prop := treapOwnUptoRow.holds Try.pinned (OpenSpec.upto treapOwnSpec)

/-- 'wattleworklaw6.ZipOwn', WHERE WHAT IT READS IS OF BULK AT MOST 1048576: true; the input reads as it did. -/
def zipOwnUptoRow : OpenClaim := { program := "ytcjhbpnmkahkeaa", sum := "0fd31691752826405ef53444da5282f26c2b2024314913e788cb3adff4ce5d0b", func := "wattlework/wattleworklaw6.ZipOwn", spec := "zipOwn", unfollowed := true, recurses := true, apart := false, narrowed := true }
def ZipOwnUptoSaid : Prop := zipOwnUptoRow.holds Try.pinned (OpenSpec.upto zipOwnSpec)

/-- 'wattleworklaw6.SplayOwn', WHERE WHAT IT READS IS OF BULK AT MOST 1048576: true; the input reads as it did. -/
def splayOwnUptoRow : OpenClaim := { program := "ytcjhbpnmkahkeaa", sum := "0fd31691752826405ef53444da5282f26c2b2024314913e788cb3adff4ce5d0b", func := "wattlework/wattleworklaw6.SplayOwn", spec := "splayOwn", unfollowed := true, recurses := true, apart := false, narrowed := true }
def SplayOwnUptoSaid : Prop := splayOwnUptoRow.holds Try.pinned (OpenSpec.upto splayOwnSpec)

/-- 'wattleworklaw6.RedOwn', WHERE WHAT IT READS IS OF BULK AT MOST 1048576: true; the input reads as it did. -/
def redOwnUptoRow : OpenClaim := { program := "ytcjhbpnmkahkeaa", sum := "0fd31691752826405ef53444da5282f26c2b2024314913e788cb3adff4ce5d0b", func := "wattlework/wattleworklaw6.RedOwn", spec := "redOwn", unfollowed := true, recurses := true, apart := false, narrowed := true }
def RedOwnUptoSaid : Prop := redOwnUptoRow.holds Try.pinned (OpenSpec.upto redOwnSpec)

/-- 'wattleworklaw6.WbtOwn', WHERE WHAT IT READS IS OF BULK AT MOST 1048576: true; the input reads as it did. -/
def wbtOwnUptoRow : OpenClaim := { program := "ytcjhbpnmkahkeaa", sum := "0fd31691752826405ef53444da5282f26c2b2024314913e788cb3adff4ce5d0b", func := "wattlework/wattleworklaw6.WbtOwn", spec := "wbtOwn", recurses := true, apart := false, narrowed := true }
def WbtOwnUptoSaid : Prop := wbtOwnUptoRow.holds Try.pinned (OpenSpec.upto wbtOwnSpec)

/-- 'wattleworklaw6.BinoOwn', WHERE WHAT IT READS IS OF BULK AT MOST 1048576: true; the input reads as it did. -/
def binoOwnUptoRow : OpenClaim := { program := "ytcjhbpnmkahkeaa", sum := "0fd31691752826405ef53444da5282f26c2b2024314913e788cb3adff4ce5d0b", func := "wattlework/wattleworklaw6.BinoOwn", spec := "binoOwn", recurses := true, apart := false, narrowed := true }
def BinoOwnUptoSaid : Prop := binoOwnUptoRow.holds Try.pinned (OpenSpec.upto binoOwnSpec)

/-- 'wattleworklaw6.LisOwn', WHERE WHAT IT READS IS OF BULK AT MOST 1048576: true; the input reads as it did. -/
def lisOwnUptoRow : OpenClaim := { program := "ytcjhbpnmkahkeaa", sum := "0fd31691752826405ef53444da5282f26c2b2024314913e788cb3adff4ce5d0b", func := "wattlework/wattleworklaw6.LisOwn", spec := "lisOwn", unfollowed := true, recurses := true, apart := false, narrowed := true }
def LisOwnUptoSaid : Prop := lisOwnUptoRow.holds Try.pinned (OpenSpec.upto lisOwnSpec)

end Rows
end Go.Proofs.Ytcjhbpnmkahkeaa
