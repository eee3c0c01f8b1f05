/- Package bag: Len. -/
import Derived.Test.YtnebmncjohoekaaDoorBag
namespace Go.Proofs.YtnebmncjohoekaaDoor.bag
open Go.RowKit
open pat (PT HO OOk ocnt olist oget tk I64 lk told oput odrop)

set_option maxHeartbeats 1000000 in
theorem Len_any (B : Nat) (w : World) (p : Option Addr) (o : Option PT) (h : HO B w p o) (n : Nat) (hn : ocnt o = n) :
    Calls Tryd.prog 17 #[.agg #[.pointer p]] w fun e w' => e = .returned (.int .i64 (n : Nat)) ∧ Below w.heap.size w w' := by
  have h1 := belowAlloc w (.cells #[.pointer p] 28)
  have HG := Lib.hid (pat.Len_num B _ p o n (h.up h1) hn)
  have H1 := Lib.hid h1
  clear h h1 hn
  go_enter Tryd.func17, Tryd.ntmps17
  go_wp2_with fail
  refine HG.out.mono ?_
  rintro e w1 ⟨rfl, hb⟩
  have HB := Lib.hid (belowTrans H1.out hb)
  clear hb
  go_wp2_with fail
  go_ret
  exact ⟨rfl, HB.out⟩

end Go.Proofs.YtnebmncjohoekaaDoor.bag
