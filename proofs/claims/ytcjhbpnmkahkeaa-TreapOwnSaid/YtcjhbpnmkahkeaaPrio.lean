/- api.Prio: it only computes. -/
import Derived.Test.YtcjhbpnmkahkeaaBase
import Derived.Test.YtcjhbpnmkahkeaaRows
namespace Go.Proofs.Ytcjhbpnmkahkeaa
open Go.RowKit

set_option maxHeartbeats 400000 in
theorem prio_any (x : Int) (w : World) : Calls Try.prog 92 #[.int .i64 x] w fun e w' => (∃ v, e = .returned (.int .i64 v)) ∧ w = w' := by
  go_enter Try.func92, Try.ntmps92
  go_wp2_with fail
  go_ret
  exact ⟨⟨_, rfl⟩, rfl⟩
end Go.Proofs.Ytcjhbpnmkahkeaa
