/- Is an error the one told? -/
import Derived.Test.YthlcjhkelcfnoaaDoorErrAs
namespace Go.Proofs.YthlcjhkelcfnoaaDoor.er
open Go.RowKit

def RetBo (w : World) (b : Bool) (e : Ending) (w' : World) : Prop := e = .returned (.bool b) ∧ Below w.heap.size w w'
set_option maxHeartbeats 1000000 in
theorem errIs_any (v : Value) (c d : Int) (w : World) (hg : Handle w) (hv : v = errV c) (b : Bool) (hb : (c == d) = b) : Calls Tryd.prog 7 #[v, .int .i64 d] w (RetBo w b) := by
  subst hv
  have HT := Lib.hid (told_any c w hg)
  obtain ⟨v, hv⟩ : ∃ v, v = errV c := ⟨_, rfl⟩
  rw [← hv] at HT ⊢
  clear hg hv
  go_enter Tryd.func7, Tryd.ntmps7
  go_wp2_with fail
  refine HT.out.mono ?_
  rintro e w1 ⟨rfl, hb1⟩
  have HB := Lib.hid hb1
  clear hb1
  go_wp2_with fail
  go_ret
  exact ⟨rfl, HB.out⟩
end Go.Proofs.YthlcjhkelcfnoaaDoor.er
