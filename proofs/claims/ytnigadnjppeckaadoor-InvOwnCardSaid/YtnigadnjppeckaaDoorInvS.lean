/- Package inv: sorted (under way). -/
import Derived.Test.YtnigadnjppeckaaDoorInvP
import Derived.Test.YtnigadnjppeckaaDoorCloneI
import Derived.Test.YtnigadnjppeckaaDoorRows
namespace Go.Proofs.YtnigadnjppeckaaDoor.inv
open Go.RowKit

def RetSo (w : World) (r : List Int × Int) (e : Ending) (w' : World) : Prop := ∃ a c, e = .returned (.tuple #[.slice a r.1.length c, .int .i64 r.2]) ∧ OwnI 3 w' w.heap.size (.slice a r.1.length c) r.1 ∧ Below w.heap.size w w'
set_option maxRecDepth 100000 in
set_option maxHeartbeats 2000000 in
theorem sorted_small (w : World) (a : Option Addr) (c n : Nat) (xs : List Int) (hl : xs.length = n) (h2 : n < 2) (hr : Reads w a xs) (hnone : a = none → c = 0) :
    Calls Tryd.prog 10 #[.slice a n c] w (RetSo w (xs, 0)) := by
  have HC := Lib.hid (cloneI.clone_any w a c xs hr hnone (by omega))
  rw [hl] at HC
  have Hl := Lib.hid hl
  have hc : (n : Int) < 2 := by omega
  clear hr hnone hl
  go_enter Tryd.func10, Tryd.ntmps10
  go_wp2_with fail
  refine HC.out.mono ?_
  rintro e w1 ⟨a1, c1, rfl, ho, hb⟩
  have HO := Lib.hid (And.intro ho hb)
  clear ho hb HC
  go_wp2_with fail
  exact bodyPost_ret (v := .tuple #[.slice a1 xs.length c1, .int .i64 0]) (by simp [results, Tryd.results10, go_sem]) rfl ⟨a1, c1, rfl, HO.out.1, HO.out.2⟩
end Go.Proofs.YtnigadnjppeckaaDoor.inv
