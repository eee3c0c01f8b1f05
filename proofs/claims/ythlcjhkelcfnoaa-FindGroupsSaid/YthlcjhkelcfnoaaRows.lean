/-
  No cell of these rows narrows 'for every input' (looked for: loops, veiled, ifaces, maps, wideKeys, modest, calm, conditions, laid).
  DERIVED. THE GIVEN ROWS OF THIS SEAT. 4 by the template 'for every input the law returns true; each argument reads behind the call as it read before'; 0 by the template 'total and deterministic' (their statements: YthlcjhkelcfnoaaTotals.lean).
  GIVEN WITH THE SEED: the statements are not yours to turn. If you find one false, say at which input.
  Laid BY PROGRAM, IN A SANDBOX (cutbox-rows.mjs): the forced cells as the released guide's own fill.sh prints them over the translation 43f3c361a9d50602… (all of the seat's roots in one cut). By AI agents, Wed Nov 11 2026. No macro, syntax, notation, axiom, sorry.
-/
import Derived.Test.YthlcjhkelcfnoaaChecked
import GoSem.Claim
import GoSem.ClaimJoined
import GoSem.ClaimMapViews
import Derived.JoinedTies
import Derived.KernelRfl
namespace Go.Proofs.Ythlcjhkelcfnoaa
/- THE CELL 'sum', in the pinned program and in every row, IS THE sha256 OF THE DUMP (.gsa) THAT YthlcjhkelcfnoaaProg.lean LOADS. Nothing in Lean hashes anything: it is a label: what it is worth is what the hold of that sum in a sandbox is worth. -/
noncomputable def Try.pinned : Pinned := { name := "ythlcjhkelcfnoaa", sum := "43f3c361a9d506021ab4dfd7ab331959faf9586054993ea28333b6634c3af275", checked := Try.checked }
namespace Rows
def none {H : Type} : Left H := { results := [], args := [] }

/-- 'wattleworklaw6.VersOwn': WHATEVER THE INPUT: true; the input reads as it did. -/
def versOwnSpec : ChangeSpec := { name := "versOwn", fn := fun _ => fun
  | [d1, d2, d3] => { results := [.lit (.bool true)], args := [d1, d2, d3] }
  | _ => none }
def versOwnRow : OpenClaim := { program := "ythlcjhkelcfnoaa", sum := "43f3c361a9d506021ab4dfd7ab331959faf9586054993ea28333b6634c3af275", func := "wattlework/wattleworklaw6.VersOwn", spec := "versOwn", unfollowed := true, recurses := true, apart := false }
def VersOwnSaid : Prop := versOwnRow.holds Try.pinned (OpenSpec.ofChange versOwnSpec)

/-- ITS FALSE NEIGHBOUR: 'it returns false'. Refute it at one input. -/
def versOwnWrong : ChangeSpec := { name := "versOwn", fn := fun _ => fun
  | [d1, d2, d3] => { results := [.lit (.bool false)], args := [d1, d2, d3] }
  | _ => none }
def VersOwnWrongFalsely : Prop := versOwnRow.holds Try.pinned (OpenSpec.ofChange versOwnWrong)

/-- 'wattleworklaw4.VersStays': WHATEVER THE INPUT: true; the input reads as it did. -/
def versStaysSpec : ChangeSpec := { name := "versStays", fn := fun _ => fun
  | [d1, d2, d3, d4, d5] => { results := [.lit (.bool true)], args := [d1, d2, d3, d4, d5] }
  | _ => none }
def versStaysRow : OpenClaim := { program := "ythlcjhkelcfnoaa", sum := "43f3c361a9d506021ab4dfd7ab331959faf9586054993ea28333b6634c3af275", func := "wattlework/wattleworklaw4.VersStays", spec := "versStays", unfollowed := true, recurses := true, apart := false }
def VersStaysSaid : Prop := versStaysRow.holds Try.pinned (OpenSpec.ofChange versStaysSpec)

/-- ITS FALSE NEIGHBOUR: 'it returns false'. Refute it at one input. -/
def versStaysWrong : ChangeSpec := { name := "versStays", fn := fun _ => fun
  | [d1, d2, d3, d4, d5] => { results := [.lit (.bool false)], args := [d1, d2, d3, d4, d5] }
  | _ => none }
def VersStaysWrongFalsely : Prop := versStaysRow.holds Try.pinned (OpenSpec.ofChange versStaysWrong)

/-- 'wattleworklaw4.FindStays': WHATEVER THE INPUT: true; the input reads as it did. -/
def findStaysSpec : ChangeSpec := { name := "findStays", fn := fun _ => fun
  | [d1, d2, d3, d4, d5, d6, d7] => { results := [.lit (.bool true)], args := [d1, d2, d3, d4, d5, d6, d7] }
  | _ => none }
def findStaysRow : OpenClaim := { program := "ythlcjhkelcfnoaa", sum := "43f3c361a9d506021ab4dfd7ab331959faf9586054993ea28333b6634c3af275", func := "wattlework/wattleworklaw4.FindStays", spec := "findStays", unfollowed := true, recurses := true, apart := false }
def FindStaysSaid : Prop := findStaysRow.holds Try.pinned (OpenSpec.ofChange findStaysSpec)

/-- ITS FALSE NEIGHBOUR: 'it returns false'. Refute it at one input. -/
def findStaysWrong : ChangeSpec := { name := "findStays", fn := fun _ => fun
  | [d1, d2, d3, d4, d5, d6, d7] => { results := [.lit (.bool false)], args := [d1, d2, d3, d4, d5, d6, d7] }
  | _ => none }
def FindStaysWrongFalsely : Prop := findStaysRow.holds Try.pinned (OpenSpec.ofChange findStaysWrong)

/-- 'wattleworklaw4.FindGroups': WHATEVER THE INPUT: true; the input reads as it did. -/
def findGroupsSpec : ChangeSpec := { name := "findGroups", fn := fun _ => fun
  | [d1, d2, d3, d4, d5, d6] => { results := [.lit (.bool true)], args := [d1, d2, d3, d4, d5, d6] }
  | _ => none }
def findGroupsRow : OpenClaim := { program := "ythlcjhkelcfnoaa", sum := "43f3c361a9d506021ab4dfd7ab331959faf9586054993ea28333b6634c3af275", func := "wattlework/wattleworklaw4.FindGroups", spec := "findGroups", unfollowed := true, recurses := true, apart := false }
def FindGroupsSaid : Prop := findGroupsRow.holds Try.pinned (OpenSpec.ofChange findGroupsSpec)

/-- ITS FALSE NEIGHBOUR: 'it returns false'. Refute it at one input. -/
def findGroupsWrong : ChangeSpec := { name := "findGroups", fn := fun _ => fun
  | [d1, d2, d3, d4, d5, d6] => { results := [.lit (.bool false)], args := [d1, d2, d3, d4, d5, d6] }
  | _ => none }
def FindGroupsWrongFalsely : Prop := findGroupsRow.holds Try.pinned (OpenSpec.ofChange findGroupsWrong)

/- THE SECOND FORM. 'bulk': how many values and letters a reading holds, each counted each time it is reached (what is shared counts as often as it is met; a slice's spare places count too). A statement '..UptoSaid' is the law's where the arguments, and the package variables that the reading takes, are together of bulk at most 1048576: NARROWER than '..Said'. Prove '..Said' where nothing that the law and all that it calls make is longer than what came in: it says more and counts as full. Else prove '..UptoSaid'. A law counts once. -/
mutual
def uptoBulk {H : Type} : DataW H → Nat
  | .lit (.string bytes) => bytes.length + 1
  | .lit _ => 1
  | .nil => 1
  | .ptr d => uptoBulk d + 1
  | .slice elems spare => uptoBulkAll elems + uptoBulkAll spare + 1
  | .agg parts => uptoBulkAll parts + 1
  | .iface _ d => uptoBulk d + 1
  | .map entries => uptoBulkEntries entries + 1
  | .held _ => 1
def uptoBulkAll {H : Type} : List (DataW H) → Nat
  | [] => 0
  | d :: r => uptoBulk d + uptoBulkAll r
def uptoBulkEntries {H : Type} : List (Lit × DataW H) → Nat
  | [] => 0
  | x :: r => uptoBulkEntry x + uptoBulkEntries r
def uptoBulkEntry {H : Type} : Lit × DataW H → Nat
  | (.string bytes, d) => bytes.length + uptoBulk d + 1
  | (_, d) => uptoBulk d + 1
 end
def uptoSmall : (H : Type) → List (DataW H) → Bool := fun _ ds => decide (uptoBulkAll ds ≤ 1048576)
def OpenSpec.upto (s : _root_.Go.ChangeSpec) : _root_.Go.OpenSpec := { _root_.Go.OpenSpec.ofChange s with cond := some uptoSmall }

/-- 'wattleworklaw6.VersOwn', WHERE WHAT IT READS IS OF BULK AT MOST 1048576: true; the input reads as it did. -/
def versOwnUptoRow : OpenClaim := { program := "ythlcjhkelcfnoaa", sum := "43f3c361a9d506021ab4dfd7ab331959faf9586054993ea28333b6634c3af275", func := "wattlework/wattleworklaw6.VersOwn", spec := "versOwn", unfollowed := true, recurses := true, apart := false, narrowed := true }
def VersOwnUptoSaid : Prop := versOwnUptoRow.holds Try.pinned (OpenSpec.upto versOwnSpec)

/-- 'wattleworklaw4.VersStays', WHERE WHAT IT READS IS OF BULK AT MOST 1048576: true; the input reads as it did. -/
def versStaysUptoRow : OpenClaim := { program := "ythlcjhkelcfnoaa", sum := "43f3c361a9d506021ab4dfd7ab331959faf9586054993ea28333b6634c3af275", func := "wattlework/wattleworklaw4.VersStays", spec := "versStays", unfollowed := true, recurses := true, apart := false, narrowed := true }
def VersStaysUptoSaid : Prop := versStaysUptoRow.holds Try.pinned (OpenSpec.upto versStaysSpec)

/-- 'wattleworklaw4.FindStays', WHERE WHAT IT READS IS OF BULK AT MOST 1048576: true; the input reads as it did. -/
def findStaysUptoRow : OpenClaim := { program := "ythlcjhkelcfnoaa", sum := "43f3c361a9d506021ab4dfd7ab331959faf9586054993ea28333b6634c3af275", func := "wattlework/wattleworklaw4.FindStays", spec := "findStays", unfollowed := true, recurses := true, apart := false, narrowed := true }
def FindStaysUptoSaid : Prop := findStaysUptoRow.holds Try.pinned (OpenSpec.upto findStaysSpec)

/-- 'wattleworklaw4.FindGroups', WHERE WHAT IT READS IS OF BULK AT MOST 1048576: true; the input reads as it did. -/
def findGroupsUptoRow : OpenClaim := { program := "ythlcjhkelcfnoaa", sum := "43f3c361a9d506021ab4dfd7ab331959faf9586054993ea28333b6634c3af275", func := "wattlework/wattleworklaw4.FindGroups", spec := "findGroups", unfollowed := true, recurses := true, apart := false, narrowed := true }
def FindGroupsUptoSaid : Prop := findGroupsUptoRow.holds Try.pinned (OpenSpec.upto findGroupsSpec)

end Rows
end Go.Proofs.Ythlcjhkelcfnoaa
