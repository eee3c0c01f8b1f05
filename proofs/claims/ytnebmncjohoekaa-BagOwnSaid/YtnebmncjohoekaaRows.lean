/-
  No cell of these rows narrows 'for every input' (looked for: loops, veiled, ifaces, maps, wideKeys, modest, calm, conditions, laid).
  DERIVED. THE GIVEN ROWS OF THIS SEAT. 6 by the template 'for every input the law returns true; each argument reads behind the call as it read before'; 0 by the template 'total and deterministic' (their statements: YtnebmncjohoekaaTotals.lean).
  GIVEN WITH THE SEED: the statements are not yours to turn. If you find one false, say at which input.
  Laid BY PROGRAM, IN A SANDBOX (cutbox-rows.mjs): the forced cells as the released guide's own fill.sh prints them over the translation 6f84d04a62be36c9… (all of the seat's roots in one cut). By AI agents, Wed Nov 11 2026. No macro, syntax, notation, axiom, sorry.
-/
import Derived.Test.YtnebmncjohoekaaChecked
import GoSem.Claim
import GoSem.ClaimJoined
import GoSem.ClaimMapViews
import Derived.JoinedTies
import Derived.KernelRfl
namespace Go.Proofs.Ytnebmncjohoekaa
/- THE CELL 'sum', in the pinned program and in every row, IS THE sha256 OF THE DUMP (.gsa) THAT YtnebmncjohoekaaProg.lean LOADS. Nothing in Lean hashes anything: it is a label: what it is worth is what the hold of that sum in a sandbox is worth. -/
noncomputable def Try.pinned : Pinned := { name := "ytnebmncjohoekaa", sum := "6f84d04a62be36c9e5b00270ae7c97fd74bd7a8fe69fcf6068b2fd2527aa9643", checked := Try.checked }
namespace Rows
def none {H : Type} : Left H := { results := [], args := [] }

/-- 'wattleworklaw6.PatOwn': WHATEVER THE INPUT: true; the input reads as it did. -/
def patOwnSpec : ChangeSpec := { name := "patOwn", fn := fun _ => fun
  | [d1, d2] => { results := [.lit (.bool true)], args := [d1, d2] }
  | _ => none }
def patOwnRow : OpenClaim := { program := "ytnebmncjohoekaa", sum := "6f84d04a62be36c9e5b00270ae7c97fd74bd7a8fe69fcf6068b2fd2527aa9643", func := "wattlework/wattleworklaw6.PatOwn", spec := "patOwn", unfollowed := true, recurses := true, apart := false }
def PatOwnSaid : Prop := patOwnRow.holds Try.pinned (OpenSpec.ofChange patOwnSpec)

/-- ITS FALSE NEIGHBOUR: 'it returns false'. Refute it at one input. -/
def patOwnWrong : ChangeSpec := { name := "patOwn", fn := fun _ => fun
  | [d1, d2] => { results := [.lit (.bool false)], args := [d1, d2] }
  | _ => none }
def PatOwnWrongFalsely : Prop := patOwnRow.holds Try.pinned (OpenSpec.ofChange patOwnWrong)

/-- 'wattleworklaw4.PatTells': WHATEVER THE INPUT: true; the input reads as it did. -/
def patTellsSpec : ChangeSpec := { name := "patTells", fn := fun _ => fun
  | [d1, d2] => { results := [.lit (.bool true)], args := [d1, d2] }
  | _ => none }
def patTellsRow : OpenClaim := { program := "ytnebmncjohoekaa", sum := "6f84d04a62be36c9e5b00270ae7c97fd74bd7a8fe69fcf6068b2fd2527aa9643", func := "wattlework/wattleworklaw4.PatTells", spec := "patTells", unfollowed := true, recurses := true, apart := false }
def PatTellsSaid : Prop := patTellsRow.holds Try.pinned (OpenSpec.ofChange patTellsSpec)

/-- ITS FALSE NEIGHBOUR: 'it returns false'. Refute it at one input. -/
def patTellsWrong : ChangeSpec := { name := "patTells", fn := fun _ => fun
  | [d1, d2] => { results := [.lit (.bool false)], args := [d1, d2] }
  | _ => none }
def PatTellsWrongFalsely : Prop := patTellsRow.holds Try.pinned (OpenSpec.ofChange patTellsWrong)

/-- 'wattleworklaw4.PatActs': WHATEVER THE INPUT: true; the input reads as it did. -/
def patActsSpec : ChangeSpec := { name := "patActs", fn := fun _ => fun
  | [d1, d2, d3, d4, d5] => { results := [.lit (.bool true)], args := [d1, d2, d3, d4, d5] }
  | _ => none }
def patActsRow : OpenClaim := { program := "ytnebmncjohoekaa", sum := "6f84d04a62be36c9e5b00270ae7c97fd74bd7a8fe69fcf6068b2fd2527aa9643", func := "wattlework/wattleworklaw4.PatActs", spec := "patActs", unfollowed := true, recurses := true, apart := false }
def PatActsSaid : Prop := patActsRow.holds Try.pinned (OpenSpec.ofChange patActsSpec)

/-- ITS FALSE NEIGHBOUR: 'it returns false'. Refute it at one input. -/
def patActsWrong : ChangeSpec := { name := "patActs", fn := fun _ => fun
  | [d1, d2, d3, d4, d5] => { results := [.lit (.bool false)], args := [d1, d2, d3, d4, d5] }
  | _ => none }
def PatActsWrongFalsely : Prop := patActsRow.holds Try.pinned (OpenSpec.ofChange patActsWrong)

/-- 'wattleworklaw4.PatUnions': WHATEVER THE INPUT: true; the input reads as it did. -/
def patUnionsSpec : ChangeSpec := { name := "patUnions", fn := fun _ => fun
  | [d1, d2] => { results := [.lit (.bool true)], args := [d1, d2] }
  | _ => none }
def patUnionsRow : OpenClaim := { program := "ytnebmncjohoekaa", sum := "6f84d04a62be36c9e5b00270ae7c97fd74bd7a8fe69fcf6068b2fd2527aa9643", func := "wattlework/wattleworklaw4.PatUnions", spec := "patUnions", unfollowed := true, recurses := true, apart := false }
def PatUnionsSaid : Prop := patUnionsRow.holds Try.pinned (OpenSpec.ofChange patUnionsSpec)

/-- ITS FALSE NEIGHBOUR: 'it returns false'. Refute it at one input. -/
def patUnionsWrong : ChangeSpec := { name := "patUnions", fn := fun _ => fun
  | [d1, d2] => { results := [.lit (.bool false)], args := [d1, d2] }
  | _ => none }
def PatUnionsWrongFalsely : Prop := patUnionsRow.holds Try.pinned (OpenSpec.ofChange patUnionsWrong)

/-- 'wattleworklaw4.PatLaws': WHATEVER THE INPUT: true; the input reads as it did. -/
def patLawsSpec : ChangeSpec := { name := "patLaws", fn := fun _ => fun
  | [d1, d2, d3] => { results := [.lit (.bool true)], args := [d1, d2, d3] }
  | _ => none }
def patLawsRow : OpenClaim := { program := "ytnebmncjohoekaa", sum := "6f84d04a62be36c9e5b00270ae7c97fd74bd7a8fe69fcf6068b2fd2527aa9643", func := "wattlework/wattleworklaw4.PatLaws", spec := "patLaws", unfollowed := true, recurses := true, apart := false }
def PatLawsSaid : Prop := patLawsRow.holds Try.pinned (OpenSpec.ofChange patLawsSpec)

/-- ITS FALSE NEIGHBOUR: 'it returns false'. Refute it at one input. -/
def patLawsWrong : ChangeSpec := { name := "patLaws", fn := fun _ => fun
  | [d1, d2, d3] => { results := [.lit (.bool false)], args := [d1, d2, d3] }
  | _ => none }
def PatLawsWrongFalsely : Prop := patLawsRow.holds Try.pinned (OpenSpec.ofChange patLawsWrong)

/-- 'wattleworklaw6.BagOwn': WHATEVER THE INPUT: true; the input reads as it did. -/
def bagOwnSpec : ChangeSpec := { name := "bagOwn", fn := fun _ => fun
  | [d1, d2] => { results := [.lit (.bool true)], args := [d1, d2] }
  | _ => none }
def bagOwnRow : OpenClaim := { program := "ytnebmncjohoekaa", sum := "6f84d04a62be36c9e5b00270ae7c97fd74bd7a8fe69fcf6068b2fd2527aa9643", func := "wattlework/wattleworklaw6.BagOwn", spec := "bagOwn", unfollowed := true, recurses := true, apart := false }
def BagOwnSaid : Prop := bagOwnRow.holds Try.pinned (OpenSpec.ofChange bagOwnSpec)

/-- ITS FALSE NEIGHBOUR: 'it returns false'. Refute it at one input. -/
def bagOwnWrong : ChangeSpec := { name := "bagOwn", fn := fun _ => fun
  | [d1, d2] => { results := [.lit (.bool false)], args := [d1, d2] }
  | _ => none }
def BagOwnWrongFalsely : Prop := bagOwnRow.holds Try.pinned (OpenSpec.ofChange bagOwnWrong)

/- THE SECOND FORM. 'bulk': how many values and letters a reading holds, each counted each time it is reached (what is shared counts as often as it is met; a slice's spare places count too). A statement '..UptoSaid' is the law's where the arguments, and the package variables that the reading takes, are together of bulk at most 1048576: NARROWER than '..Said'. Prove '..Said' where nothing that the law and all that it calls make is longer than what came in: it says more and counts as full. Else prove '..UptoSaid'. A law counts once. -/
mutual
def uptoBulk {H : Type} : DataW H → Nat
  | .lit (.string bytes) => bytes.length + 1
  | .lit _ => 1
  | .nil => 1
  | .ptr d => uptoBulk d + 1
  | .slice elems spare => uptoBulkAll elems + uptoBulkAll spare + 1
  | .agg parts => uptoBulkAll parts + 1
  | .iface _ d => uptoBulk d + 1
  | .map entries => uptoBulkEntries entries + 1
  | .held _ => 1
def uptoBulkAll {H : Type} : List (DataW H) → Nat
  | [] => 0
  | d :: r => uptoBulk d + uptoBulkAll r
def uptoBulkEntries {H : Type} : List (Lit × DataW H) → Nat
  | [] => 0
  | x :: r => uptoBulkEntry x + uptoBulkEntries r
def uptoBulkEntry {H : Type} : Lit × DataW H → Nat
  | (.string bytes, d) => bytes.length + uptoBulk d + 1
  | (_, d) => uptoBulk d + 1
 end
def uptoSmall : (H : Type) → List (DataW H) → Bool := fun _ ds => decide (uptoBulkAll ds ≤ 1048576)
def OpenSpec.upto (s : _root_.Go.ChangeSpec) : _root_.Go.OpenSpec := { _root_.Go.OpenSpec.ofChange s with cond := some uptoSmall }

/-- 'wattleworklaw6.PatOwn', WHERE WHAT IT READS IS OF BULK AT MOST 1048576: true; the input reads as it did. -/
def patOwnUptoRow : OpenClaim := { program := "ytnebmncjohoekaa", sum := "6f84d04a62be36c9e5b00270ae7c97fd74bd7a8fe69fcf6068b2fd2527aa9643", func := "wattlework/wattleworklaw6.PatOwn", spec := "patOwn", unfollowed := true, recurses := true, apart := false, narrowed := true }
def PatOwnUptoSaid : Prop := patOwnUptoRow.holds Try.pinned (OpenSpec.upto patOwnSpec)

/-- 'wattleworklaw4.PatTells', WHERE WHAT IT READS IS OF BULK AT MOST 1048576: true; the input reads as it did. -/
def patTellsUptoRow : OpenClaim := { program := "ytnebmncjohoekaa", sum := "6f84d04a62be36c9e5b00270ae7c97fd74bd7a8fe69fcf6068b2fd2527aa9643", func := "wattlework/wattleworklaw4.PatTells", spec := "patTells", unfollowed := true, recurses := true, apart := false, narrowed := true }
def PatTellsUptoSaid : Prop := patTellsUptoRow.holds Try.pinned (OpenSpec.upto patTellsSpec)

/-- 'wattleworklaw4.PatActs', WHERE WHAT IT READS IS OF BULK AT MOST 1048576: true; the input reads as it did. -/
def patActsUptoRow : OpenClaim := { program := "ytnebmncjohoekaa", sum := "6f84d04a62be36c9e5b00270ae7c97fd74bd7a8fe69fcf6068b2fd2527aa9643", func := "wattlework/wattleworklaw4.PatActs", spec := "patActs", unfollowed := true, recurses := true, apart := false, narrowed := true }
def PatActsUptoSaid : Prop := patActsUptoRow.holds Try.pinned (OpenSpec.upto patActsSpec)

/-- 'wattleworklaw4.PatUnions', WHERE WHAT IT READS IS OF BULK AT MOST 1048576: true; the input reads as it did. -/
def patUnionsUptoRow : OpenClaim := { program := "ytnebmncjohoekaa", sum := "6f84d04a62be36c9e5b00270ae7c97fd74bd7a8fe69fcf6068b2fd2527aa9643", func := "wattlework/wattleworklaw4.PatUnions", spec := "patUnions", unfollowed := true, recurses := true, apart := false, narrowed := true }
def PatUnionsUptoSaid : Prop := patUnionsUptoRow.holds Try.pinned (OpenSpec.upto patUnionsSpec)

/-- 'wattleworklaw4.PatLaws', WHERE WHAT IT READS IS OF BULK AT MOST 1048576: true; the input reads as it did. -/
def patLawsUptoRow : OpenClaim := { program := "ytnebmncjohoekaa", sum := "6f84d04a62be36c9e5b00270ae7c97fd74bd7a8fe69fcf6068b2fd2527aa9643", func := "wattlework/wattleworklaw4.PatLaws", spec := "patLaws", unfollowed := true, recurses := true, apart := false, narrowed := true }
def PatLawsUptoSaid : Prop := patLawsUptoRow.holds Try.pinned (OpenSpec.upto patLawsSpec)

/-- 'wattleworklaw6.BagOwn', WHERE WHAT IT READS IS OF BULK AT MOST 1048576: true; the input reads as it did. -/
def bagOwnUptoRow : OpenClaim := { program := "ytnebmncjohoekaa", sum := "6f84d04a62be36c9e5b00270ae7c97fd74bd7a8fe69fcf6068b2fd2527aa9643", func := "wattlework/wattleworklaw6.BagOwn", spec := "bagOwn", unfollowed := true, recurses := true, apart := false, narrowed := true }
def BagOwnUptoSaid : Prop := bagOwnUptoRow.holds Try.pinned (OpenSpec.upto bagOwnSpec)

end Rows
end Go.Proofs.Ytnebmncjohoekaa
