/-
  No cell of these rows narrows 'for every input' (looked for: loops, veiled, ifaces, maps, wideKeys, modest, calm, conditions, laid).
  DERIVED. THE GIVEN ROWS OF THIS SEAT. 6 by the template 'for every input the law returns true; each argument reads behind the call as it read before'; 0 by the template 'total and deterministic' (their statements: YtnigadnjppeckaaTotals.lean).
  GIVEN WITH THE SEED: the statements are not yours to turn. If you find one false, say at which input.
  Laid BY PROGRAM, IN A SANDBOX (cutbox-rows.mjs): the forced cells as the released guide's own fill.sh prints them over the translation f82bbace14c3fa05… (all of the seat's roots in one cut). By AI agents, Wed Nov 11 2026. No macro, syntax, notation, axiom, sorry.
-/
import Derived.Test.YtnigadnjppeckaaChecked
import GoSem.Claim
import GoSem.ClaimJoined
import GoSem.ClaimMapViews
import Derived.JoinedTies
import Derived.KernelRfl
namespace Go.Proofs.Ytnigadnjppeckaa
/- THE CELL 'sum', in the pinned program and in every row, IS THE sha256 OF THE DUMP (.gsa) THAT YtnigadnjppeckaaProg.lean LOADS. Nothing in Lean hashes anything: it is a label: what it is worth is what the hold of that sum in a sandbox is worth. -/
noncomputable def Try.pinned : Pinned := { name := "ytnigadnjppeckaa", sum := "f82bbace14c3fa058ebe793268f06b4d5f321f308e9af6ce9e12c849904783a7", checked := Try.checked }
namespace Rows
def none {H : Type} : Left H := { results := [], args := [] }

/-- 'wattleworklaw6.FingerOwn': WHATEVER THE INPUT: true; the input reads as it did. -/
def fingerOwnSpec : ChangeSpec := { name := "fingerOwn", fn := fun _ => fun
  | [d1, d2] => { results := [.lit (.bool true)], args := [d1, d2] }
  | _ => none }
def fingerOwnRow : OpenClaim := { program := "ytnigadnjppeckaa", sum := "f82bbace14c3fa058ebe793268f06b4d5f321f308e9af6ce9e12c849904783a7", func := "wattlework/wattleworklaw6.FingerOwn", spec := "fingerOwn", unfollowed := true, recurses := true, apart := false }
def FingerOwnSaid : Prop := fingerOwnRow.holds Try.pinned (OpenSpec.ofChange fingerOwnSpec)

/-- ITS FALSE NEIGHBOUR: 'it returns false'. Refute it at one input. -/
def fingerOwnWrong : ChangeSpec := { name := "fingerOwn", fn := fun _ => fun
  | [d1, d2] => { results := [.lit (.bool false)], args := [d1, d2] }
  | _ => none }
def FingerOwnWrongFalsely : Prop := fingerOwnRow.holds Try.pinned (OpenSpec.ofChange fingerOwnWrong)

/-- 'wattleworklaw6.SeqOwn': WHATEVER THE INPUT: true; the input reads as it did. -/
def seqOwnSpec : ChangeSpec := { name := "seqOwn", fn := fun _ => fun
  | [d1, d2] => { results := [.lit (.bool true)], args := [d1, d2] }
  | _ => none }
def seqOwnRow : OpenClaim := { program := "ytnigadnjppeckaa", sum := "f82bbace14c3fa058ebe793268f06b4d5f321f308e9af6ce9e12c849904783a7", func := "wattlework/wattleworklaw6.SeqOwn", spec := "seqOwn", unfollowed := true, recurses := true, apart := false }
def SeqOwnSaid : Prop := seqOwnRow.holds Try.pinned (OpenSpec.ofChange seqOwnSpec)

/-- ITS FALSE NEIGHBOUR: 'it returns false'. Refute it at one input. -/
def seqOwnWrong : ChangeSpec := { name := "seqOwn", fn := fun _ => fun
  | [d1, d2] => { results := [.lit (.bool false)], args := [d1, d2] }
  | _ => none }
def SeqOwnWrongFalsely : Prop := seqOwnRow.holds Try.pinned (OpenSpec.ofChange seqOwnWrong)

/-- 'wattleworklaw6.OrdOwn': WHATEVER THE INPUT: true; the input reads as it did. -/
def ordOwnSpec : ChangeSpec := { name := "ordOwn", fn := fun _ => fun
  | [d1, d2] => { results := [.lit (.bool true)], args := [d1, d2] }
  | _ => none }
def ordOwnRow : OpenClaim := { program := "ytnigadnjppeckaa", sum := "f82bbace14c3fa058ebe793268f06b4d5f321f308e9af6ce9e12c849904783a7", func := "wattlework/wattleworklaw6.OrdOwn", spec := "ordOwn", unfollowed := true, recurses := true, apart := false }
def OrdOwnSaid : Prop := ordOwnRow.holds Try.pinned (OpenSpec.ofChange ordOwnSpec)

/-- ITS FALSE NEIGHBOUR: 'it returns false'. Refute it at one input. -/
def ordOwnWrong : ChangeSpec := { name := "ordOwn", fn := fun _ => fun
  | [d1, d2] => { results := [.lit (.bool false)], args := [d1, d2] }
  | _ => none }
def OrdOwnWrongFalsely : Prop := ordOwnRow.holds Try.pinned (OpenSpec.ofChange ordOwnWrong)

/-- 'wattleworklaw6.PrioOwn': WHATEVER THE INPUT: true; the input reads as it did. -/
def prioOwnSpec : ChangeSpec := { name := "prioOwn", fn := fun _ => fun
  | [d1, d2] => { results := [.lit (.bool true)], args := [d1, d2] }
  | _ => none }
def prioOwnRow : OpenClaim := { program := "ytnigadnjppeckaa", sum := "f82bbace14c3fa058ebe793268f06b4d5f321f308e9af6ce9e12c849904783a7", func := "wattlework/wattleworklaw6.PrioOwn", spec := "prioOwn", unfollowed := true, recurses := true, apart := false }
def PrioOwnSaid : Prop := prioOwnRow.holds Try.pinned (OpenSpec.ofChange prioOwnSpec)

/-- ITS FALSE NEIGHBOUR: 'it returns false'. Refute it at one input. -/
def prioOwnWrong : ChangeSpec := { name := "prioOwn", fn := fun _ => fun
  | [d1, d2] => { results := [.lit (.bool false)], args := [d1, d2] }
  | _ => none }
def PrioOwnWrongFalsely : Prop := prioOwnRow.holds Try.pinned (OpenSpec.ofChange prioOwnWrong)

/-- 'wattleworklaw6.IvalOwn': WHATEVER THE INPUT: true; the input reads as it did. -/
def ivalOwnSpec : ChangeSpec := { name := "ivalOwn", fn := fun _ => fun
  | [d1, d2] => { results := [.lit (.bool true)], args := [d1, d2] }
  | _ => none }
def ivalOwnRow : OpenClaim := { program := "ytnigadnjppeckaa", sum := "f82bbace14c3fa058ebe793268f06b4d5f321f308e9af6ce9e12c849904783a7", func := "wattlework/wattleworklaw6.IvalOwn", spec := "ivalOwn", unfollowed := true, recurses := true, apart := false }
def IvalOwnSaid : Prop := ivalOwnRow.holds Try.pinned (OpenSpec.ofChange ivalOwnSpec)

/-- ITS FALSE NEIGHBOUR: 'it returns false'. Refute it at one input. -/
def ivalOwnWrong : ChangeSpec := { name := "ivalOwn", fn := fun _ => fun
  | [d1, d2] => { results := [.lit (.bool false)], args := [d1, d2] }
  | _ => none }
def IvalOwnWrongFalsely : Prop := ivalOwnRow.holds Try.pinned (OpenSpec.ofChange ivalOwnWrong)

/-- 'wattleworktop.TopSorts': WHATEVER THE INPUT: true; the input reads as it did. -/
def topSortsSpec : ChangeSpec := { name := "topSorts", fn := fun _ => fun
  | [d1, d2] => { results := [.lit (.bool true)], args := [d1, d2] }
  | _ => none }
def topSortsRow : OpenClaim := { program := "ytnigadnjppeckaa", sum := "f82bbace14c3fa058ebe793268f06b4d5f321f308e9af6ce9e12c849904783a7", func := "wattlework/wattleworktop.TopSorts", spec := "topSorts", unfollowed := true, recurses := true, apart := false }
def TopSortsSaid : Prop := topSortsRow.holds Try.pinned (OpenSpec.ofChange topSortsSpec)

/-- ITS FALSE NEIGHBOUR: 'it returns false'. Refute it at one input. -/
def topSortsWrong : ChangeSpec := { name := "topSorts", fn := fun _ => fun
  | [d1, d2] => { results := [.lit (.bool false)], args := [d1, d2] }
  | _ => none }
def TopSortsWrongFalsely : Prop := topSortsRow.holds Try.pinned (OpenSpec.ofChange topSortsWrong)

/- THE SECOND FORM. 'bulk': how many values and letters a reading holds, each counted each time it is reached (what is shared counts as often as it is met; a slice's spare places count too). A statement '..UptoSaid' is the law's where the arguments, and the package variables that the reading takes, are together of bulk at most 1048576: NARROWER than '..Said'. Prove '..Said' where nothing that the law and all that it calls make is longer than what came in: it says more and counts as full. Else prove '..UptoSaid'. A law counts once. -/
mutual
def uptoBulk {H : Type} : DataW H → Nat
  | .lit (.string bytes) => bytes.length + 1
  | .lit _ => 1
  | .nil => 1
  | .ptr d => uptoBulk d + 1
  | .slice elems spare => uptoBulkAll elems + uptoBulkAll spare + 1
  | .agg parts => uptoBulkAll parts + 1
  | .iface _ d => uptoBulk d + 1
  | .map entries => uptoBulkEntries entries + 1
  | .held _ => 1
def uptoBulkAll {H : Type} : List (DataW H) → Nat
  | [] => 0
  | d :: r => uptoBulk d + uptoBulkAll r
def uptoBulkEntries {H : Type} : List (Lit × DataW H) → Nat
  | [] => 0
  | x :: r => uptoBulkEntry x + uptoBulkEntries r
def uptoBulkEntry {H : Type} : Lit × DataW H → Nat
  | (.string bytes, d) => bytes.length + uptoBulk d + 1
  | (_, d) => uptoBulk d + 1
 end
def uptoSmall : (H : Type) → List (DataW H) → Bool := fun _ ds => decide (uptoBulkAll ds ≤ 1048576)
def OpenSpec.upto (s : _root_.Go.ChangeSpec) : _root_.Go.OpenSpec := { _root_.Go.OpenSpec.ofChange s with cond := some uptoSmall }

/-- 'wattleworklaw6.FingerOwn', WHERE WHAT IT READS IS OF BULK AT MOST 1048576: true; the input reads as it did. -/
def fingerOwnUptoRow : OpenClaim := { program := "ytnigadnjppeckaa", sum := "f82bbace14c3fa058ebe793268f06b4d5f321f308e9af6ce9e12c849904783a7", func := "wattlework/wattleworklaw6.FingerOwn", spec := "fingerOwn", unfollowed := true, recurses := true, apart := false, narrowed := true }
def FingerOwnUptoSaid : Prop := fingerOwnUptoRow.holds Try.pinned (OpenSpec.upto fingerOwnSpec)

/-- 'wattleworklaw6.SeqOwn', WHERE WHAT IT READS IS OF BULK AT MOST 1048576: true; the input reads as it did. -/
def seqOwnUptoRow : OpenClaim := { program := "ytnigadnjppeckaa", sum := "f82bbace14c3fa058ebe793268f06b4d5f321f308e9af6ce9e12c849904783a7", func := "wattlework/wattleworklaw6.SeqOwn", spec := "seqOwn", unfollowed := true, recurses := true, apart := false, narrowed := true }
def SeqOwnUptoSaid : Prop := seqOwnUptoRow.holds Try.pinned (OpenSpec.upto seqOwnSpec)

/-- 'wattleworklaw6.OrdOwn', WHERE WHAT IT READS IS OF BULK AT MOST 1048576: true; the input reads as it did. -/
def ordOwnUptoRow : OpenClaim := { program := "ytnigadnjppeckaa", sum := "f82bbace14c3fa058ebe793268f06b4d5f321f308e9af6ce9e12c849904783a7", func := "wattlework/wattleworklaw6.OrdOwn", spec := "ordOwn", unfollowed := true, recurses := true, apart := false, narrowed := true }
def OrdOwnUptoSaid : Prop := ordOwnUptoRow.holds Try.pinned (OpenSpec.upto ordOwnSpec)

/-- 'wattleworklaw6.PrioOwn', WHERE WHAT IT READS IS OF BULK AT MOST 1048576: true; the input reads as it did. -/
def prioOwnUptoRow : OpenClaim := { program := "ytnigadnjppeckaa", sum := "f82bbace14c3fa058ebe793268f06b4d5f321f308e9af6ce9e12c849904783a7", func := "wattlework/wattleworklaw6.PrioOwn", spec := "prioOwn", unfollowed := true, recurses := true, apart := false, narrowed := true }
def PrioOwnUptoSaid : Prop := prioOwnUptoRow.holds Try.pinned (OpenSpec.upto prioOwnSpec)

/-- 'wattleworklaw6.IvalOwn', WHERE WHAT IT READS IS OF BULK AT MOST 1048576: true; the input reads as it did. -/
def ivalOwnUptoRow : OpenClaim := { program := "ytnigadnjppeckaa", sum := "f82bbace14c3fa058ebe793268f06b4d5f321f308e9af6ce9e12c849904783a7", func := "wattlework/wattleworklaw6.IvalOwn", spec := "ivalOwn", unfollowed := true, recurses := true, apart := false, narrowed := true }
def IvalOwnUptoSaid : Prop := ivalOwnUptoRow.holds Try.pinned (OpenSpec.upto ivalOwnSpec)

/-- 'wattleworktop.TopSorts', WHERE WHAT IT READS IS OF BULK AT MOST 1048576: true; the input reads as it did. -/
def topSortsUptoRow : OpenClaim := { program := "ytnigadnjppeckaa", sum := "f82bbace14c3fa058ebe793268f06b4d5f321f308e9af6ce9e12c849904783a7", func := "wattlework/wattleworktop.TopSorts", spec := "topSorts", unfollowed := true, recurses := true, apart := false, narrowed := true }
def TopSortsUptoSaid : Prop := topSortsUptoRow.holds Try.pinned (OpenSpec.upto topSortsSpec)

end Rows
end Go.Proofs.Ytnigadnjppeckaa
