/-
  No cell of these rows narrows 'for every input' (looked for: loops, veiled, ifaces, maps, wideKeys, modest, calm, conditions, laid).
  DERIVED. THE GIVEN ROWS OF THIS SEAT. 6 by the template 'for every input the law returns true; each argument reads behind the call as it read before'; 0 by the template 'total and deterministic' (their statements: YtenaddjnaeebbaaTotals.lean).
  GIVEN WITH THE SEED: the statements are not yours to turn. If you find one false, say at which input.
  Laid BY PROGRAM, IN A SANDBOX (cutbox-rows.mjs): the forced cells as the released guide's own fill.sh prints them over the translation 7ddd76aae3e28354… (all of the seat's roots in one cut). By AI agents, Wed Nov 11 2026. No macro, syntax, notation, axiom, sorry.
-/
import Derived.Test.YtenaddjnaeebbaaChecked
import GoSem.Claim
import GoSem.ClaimJoined
import GoSem.ClaimMapViews
import Derived.JoinedTies
import Derived.KernelRfl
namespace Go.Proofs.Ytenaddjnaeebbaa
/- THE CELL 'sum', in the pinned program and in every row, IS THE sha256 OF THE DUMP (.gsa) THAT YtenaddjnaeebbaaProg.lean LOADS. Nothing in Lean hashes anything: it is a label: what it is worth is what the hold of that sum in a sandbox is worth. -/
noncomputable def Try.pinned : Pinned := { name := "ytenaddjnaeebbaa", sum := "7ddd76aae3e283544acdc5f479f04778252fd3125f1271b5d12840cc40a906fa", checked := Try.checked }
namespace Rows
def none {H : Type} : Left H := { results := [], args := [] }

/-- 'wattleworklaw6.HamtOwn': WHATEVER THE INPUT: true; the input reads as it did. -/
def hamtOwnSpec : ChangeSpec := { name := "hamtOwn", fn := fun _ => fun
  | [d1, d2] => { results := [.lit (.bool true)], args := [d1, d2] }
  | _ => none }
def hamtOwnRow : OpenClaim := { program := "ytenaddjnaeebbaa", sum := "7ddd76aae3e283544acdc5f479f04778252fd3125f1271b5d12840cc40a906fa", func := "wattlework/wattleworklaw6.HamtOwn", spec := "hamtOwn", inPlace := ["slices.overlaps[*wattlework/hamt.node]"], unfollowed := true, recurses := true, apart := false }
def HamtOwnSaid : Prop := hamtOwnRow.holds Try.pinned (OpenSpec.ofChange hamtOwnSpec)

/-- ITS FALSE NEIGHBOUR: 'it returns false'. Refute it at one input. -/
def hamtOwnWrong : ChangeSpec := { name := "hamtOwn", fn := fun _ => fun
  | [d1, d2] => { results := [.lit (.bool false)], args := [d1, d2] }
  | _ => none }
def HamtOwnWrongFalsely : Prop := hamtOwnRow.holds Try.pinned (OpenSpec.ofChange hamtOwnWrong)

/-- 'wattleworklaw4.HamtEach': WHATEVER THE INPUT: true; the input reads as it did. -/
def hamtEachSpec : ChangeSpec := { name := "hamtEach", fn := fun _ => fun
  | [d1, d2, d3, d4, d5] => { results := [.lit (.bool true)], args := [d1, d2, d3, d4, d5] }
  | _ => none }
def hamtEachRow : OpenClaim := { program := "ytenaddjnaeebbaa", sum := "7ddd76aae3e283544acdc5f479f04778252fd3125f1271b5d12840cc40a906fa", func := "wattlework/wattleworklaw4.HamtEach", spec := "hamtEach", inPlace := ["slices.overlaps[*wattlework/hamt.node]"], unfollowed := true, recurses := true, apart := false }
def HamtEachSaid : Prop := hamtEachRow.holds Try.pinned (OpenSpec.ofChange hamtEachSpec)

/-- ITS FALSE NEIGHBOUR: 'it returns false'. Refute it at one input. -/
def hamtEachWrong : ChangeSpec := { name := "hamtEach", fn := fun _ => fun
  | [d1, d2, d3, d4, d5] => { results := [.lit (.bool false)], args := [d1, d2, d3, d4, d5] }
  | _ => none }
def HamtEachWrongFalsely : Prop := hamtEachRow.holds Try.pinned (OpenSpec.ofChange hamtEachWrong)

/-- 'wattleworklaw4.HamtTells': WHATEVER THE INPUT: true; the input reads as it did. -/
def hamtTellsSpec : ChangeSpec := { name := "hamtTells", fn := fun _ => fun
  | [d1, d2] => { results := [.lit (.bool true)], args := [d1, d2] }
  | _ => none }
def hamtTellsRow : OpenClaim := { program := "ytenaddjnaeebbaa", sum := "7ddd76aae3e283544acdc5f479f04778252fd3125f1271b5d12840cc40a906fa", func := "wattlework/wattleworklaw4.HamtTells", spec := "hamtTells", inPlace := ["slices.overlaps[*wattlework/hamt.node]"], unfollowed := true, recurses := true, apart := false }
def HamtTellsSaid : Prop := hamtTellsRow.holds Try.pinned (OpenSpec.ofChange hamtTellsSpec)

/-- ITS FALSE NEIGHBOUR: 'it returns false'. Refute it at one input. -/
def hamtTellsWrong : ChangeSpec := { name := "hamtTells", fn := fun _ => fun
  | [d1, d2] => { results := [.lit (.bool false)], args := [d1, d2] }
  | _ => none }
def HamtTellsWrongFalsely : Prop := hamtTellsRow.holds Try.pinned (OpenSpec.ofChange hamtTellsWrong)

/-- 'wattleworklaw4.HamtActs': WHATEVER THE INPUT: true; the input reads as it did. -/
def hamtActsSpec : ChangeSpec := { name := "hamtActs", fn := fun _ => fun
  | [d1, d2, d3, d4, d5] => { results := [.lit (.bool true)], args := [d1, d2, d3, d4, d5] }
  | _ => none }
def hamtActsRow : OpenClaim := { program := "ytenaddjnaeebbaa", sum := "7ddd76aae3e283544acdc5f479f04778252fd3125f1271b5d12840cc40a906fa", func := "wattlework/wattleworklaw4.HamtActs", spec := "hamtActs", inPlace := ["slices.overlaps[*wattlework/hamt.node]"], unfollowed := true, recurses := true, apart := false }
def HamtActsSaid : Prop := hamtActsRow.holds Try.pinned (OpenSpec.ofChange hamtActsSpec)

/-- ITS FALSE NEIGHBOUR: 'it returns false'. Refute it at one input. -/
def hamtActsWrong : ChangeSpec := { name := "hamtActs", fn := fun _ => fun
  | [d1, d2, d3, d4, d5] => { results := [.lit (.bool false)], args := [d1, d2, d3, d4, d5] }
  | _ => none }
def HamtActsWrongFalsely : Prop := hamtActsRow.holds Try.pinned (OpenSpec.ofChange hamtActsWrong)

/-- 'wattleworklaw4.HamtOrder': WHATEVER THE INPUT: true; the input reads as it did. -/
def hamtOrderSpec : ChangeSpec := { name := "hamtOrder", fn := fun _ => fun
  | [d1, d2] => { results := [.lit (.bool true)], args := [d1, d2] }
  | _ => none }
def hamtOrderRow : OpenClaim := { program := "ytenaddjnaeebbaa", sum := "7ddd76aae3e283544acdc5f479f04778252fd3125f1271b5d12840cc40a906fa", func := "wattlework/wattleworklaw4.HamtOrder", spec := "hamtOrder", inPlace := ["slices.overlaps[*wattlework/hamt.node]"], unfollowed := true, recurses := true, apart := false }
def HamtOrderSaid : Prop := hamtOrderRow.holds Try.pinned (OpenSpec.ofChange hamtOrderSpec)

/-- ITS FALSE NEIGHBOUR: 'it returns false'. Refute it at one input. -/
def hamtOrderWrong : ChangeSpec := { name := "hamtOrder", fn := fun _ => fun
  | [d1, d2] => { results := [.lit (.bool false)], args := [d1, d2] }
  | _ => none }
def HamtOrderWrongFalsely : Prop := hamtOrderRow.holds Try.pinned (OpenSpec.ofChange hamtOrderWrong)

/-- 'wattleworktop.TopMaps': WHATEVER THE INPUT: true; the input reads as it did. -/
def topMapsSpec : ChangeSpec := { name := "topMaps", fn := fun _ => fun
  | [d1, d2] => { results := [.lit (.bool true)], args := [d1, d2] }
  | _ => none }
def topMapsRow : OpenClaim := { program := "ytenaddjnaeebbaa", sum := "7ddd76aae3e283544acdc5f479f04778252fd3125f1271b5d12840cc40a906fa", func := "wattlework/wattleworktop.TopMaps", spec := "topMaps", inPlace := ["slices.overlaps[*wattlework/hamt.node]"], unfollowed := true, recurses := true, apart := false }
def TopMapsSaid : Prop := topMapsRow.holds Try.pinned (OpenSpec.ofChange topMapsSpec)

/-- ITS FALSE NEIGHBOUR: 'it returns false'. Refute it at one input. -/
def topMapsWrong : ChangeSpec := { name := "topMaps", fn := fun _ => fun
  | [d1, d2] => { results := [.lit (.bool false)], args := [d1, d2] }
  | _ => none }
def TopMapsWrongFalsely : Prop := topMapsRow.holds Try.pinned (OpenSpec.ofChange topMapsWrong)

/- THE SECOND FORM. 'bulk': how many values and letters a reading holds, each counted each time it is reached (what is shared counts as often as it is met; a slice's spare places count too). A statement '..UptoSaid' is the law's where the arguments, and the package variables that the reading takes, are together of bulk at most 1048576: NARROWER than '..Said'. Prove '..Said' where nothing that the law and all that it calls make is longer than what came in: it says more and counts as full. Else prove '..UptoSaid'. A law counts once. -/
mutual
def uptoBulk {H : Type} : DataW H → Nat
  | .lit (.string bytes) => bytes.length + 1
  | .lit _ => 1
  | .nil => 1
  | .ptr d => uptoBulk d + 1
  | .slice elems spare => uptoBulkAll elems + uptoBulkAll spare + 1
  | .agg parts => uptoBulkAll parts + 1
  | .iface _ d => uptoBulk d + 1
  | .map entries => uptoBulkEntries entries + 1
  | .held _ => 1
def uptoBulkAll {H : Type} : List (DataW H) → Nat
  | [] => 0
  | d :: r => uptoBulk d + uptoBulkAll r
def uptoBulkEntries {H : Type} : List (Lit × DataW H) → Nat
  | [] => 0
  | x :: r => uptoBulkEntry x + uptoBulkEntries r
def uptoBulkEntry {H : Type} : Lit × DataW H → Nat
  | (.string bytes, d) => bytes.length + uptoBulk d + 1
  | (_, d) => uptoBulk d + 1
 end
def uptoSmall : (H : Type) → List (DataW H) → Bool := fun _ ds => decide (uptoBulkAll ds ≤ 1048576)
def OpenSpec.upto (s : _root_.Go.ChangeSpec) : _root_.Go.OpenSpec := { _root_.Go.OpenSpec.ofChange s with cond := some uptoSmall }

/-- 'wattleworklaw6.HamtOwn', WHERE WHAT IT READS IS OF BULK AT MOST 1048576: true; the input reads as it did. -/
def hamtOwnUptoRow : OpenClaim := { program := "ytenaddjnaeebbaa", sum := "7ddd76aae3e283544acdc5f479f04778252fd3125f1271b5d12840cc40a906fa", func := "wattlework/wattleworklaw6.HamtOwn", spec := "hamtOwn", inPlace := ["slices.overlaps[*wattlework/hamt.node]"], unfollowed := true, recurses := true, apart := false, narrowed := true }
def HamtOwnUptoSaid : Prop := hamtOwnUptoRow.holds Try.pinned (OpenSpec.upto hamtOwnSpec)

/-- 'wattleworklaw4.HamtEach', WHERE WHAT IT READS IS OF BULK AT MOST 1048576: true; the input reads as it did. -/
def hamtEachUptoRow : OpenClaim := { program := "ytenaddjnaeebbaa", sum := "7ddd76aae3e283544acdc5f479f04778252fd3125f1271b5d12840cc40a906fa", func := "wattlework/wattleworklaw4.HamtEach", spec := "hamtEach", inPlace := ["slices.overlaps[*wattlework/hamt.node]"], unfollowed := true, recurses := true, apart := false, narrowed := true }
def HamtEachUptoSaid : Prop := hamtEachUptoRow.holds Try.pinned (OpenSpec.upto hamtEachSpec)

/-- 'wattleworklaw4.HamtTells', WHERE WHAT IT READS IS OF BULK AT MOST 1048576: true; the input reads as it did. -/
def hamtTellsUptoRow : OpenClaim := { program := "ytenaddjnaeebbaa", sum := "7ddd76aae3e283544acdc5f479f04778252fd3125f1271b5d12840cc40a906fa", func := "wattlework/wattleworklaw4.HamtTells", spec := "hamtTells", inPlace := ["slices.overlaps[*wattlework/hamt.node]"], unfollowed := true, recurses := true, apart := false, narrowed := true }
def HamtTellsUptoSaid : Prop := hamtTellsUptoRow.holds Try.pinned (OpenSpec.upto hamtTellsSpec)

/-- 'wattleworklaw4.HamtActs', WHERE WHAT IT READS IS OF BULK AT MOST 1048576: true; the input reads as it did. -/
def hamtActsUptoRow : OpenClaim := { program := "ytenaddjnaeebbaa", sum := "7ddd76aae3e283544acdc5f479f04778252fd3125f1271b5d12840cc40a906fa", func := "wattlework/wattleworklaw4.HamtActs", spec := "hamtActs", inPlace := ["slices.overlaps[*wattlework/hamt.node]"], unfollowed := true, recurses := true, apart := false, narrowed := true }
def HamtActsUptoSaid : Prop := hamtActsUptoRow.holds Try.pinned (OpenSpec.upto hamtActsSpec)

/-- 'wattleworklaw4.HamtOrder', WHERE WHAT IT READS IS OF BULK AT MOST 1048576: true; the input reads as it did. -/
def hamtOrderUptoRow : OpenClaim := { program := "ytenaddjnaeebbaa", sum := "7ddd76aae3e283544acdc5f479f04778252fd3125f1271b5d12840cc40a906fa", func := "wattlework/wattleworklaw4.HamtOrder", spec := "hamtOrder", inPlace := ["slices.overlaps[*wattlework/hamt.node]"], unfollowed := true, recurses := true, apart := false, narrowed := true }
def HamtOrderUptoSaid : Prop := hamtOrderUptoRow.holds Try.pinned (OpenSpec.upto hamtOrderSpec)

/-- 'wattleworktop.TopMaps', WHERE WHAT IT READS IS OF BULK AT MOST 1048576: true; the input reads as it did. -/
def topMapsUptoRow : OpenClaim := { program := "ytenaddjnaeebbaa", sum := "7ddd76aae3e283544acdc5f479f04778252fd3125f1271b5d12840cc40a906fa", func := "wattlework/wattleworktop.TopMaps", spec := "topMaps", inPlace := ["slices.overlaps[*wattlework/hamt.node]"], unfollowed := true, recurses := true, apart := false, narrowed := true }
def TopMapsUptoSaid : Prop := topMapsUptoRow.holds Try.pinned (OpenSpec.upto topMapsSpec)

end Rows
end Go.Proofs.Ytenaddjnaeebbaa
