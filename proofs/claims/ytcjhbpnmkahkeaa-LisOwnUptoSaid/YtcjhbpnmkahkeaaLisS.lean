/- lis.dealt's closure, and sort.Search at this dump (what the kit's shelf has, laid in plain words). -/
import Derived.Test.YtcjhbpnmkahkeaaLisD
import Derived.Test.YtcjhbpnmkahkeaaLisP
import Derived.Test.YtcjhbpnmkahkeaaSame
import Derived.Shelf.SlSorted.Search
namespace Go.Proofs.Ytcjhbpnmkahkeaa.lis
open Go.RowKit Go Go.Shelf

def search_ren : Go.Shelf.Ren := ⟨fun | 16 => 105 | n => n, fun | 3 => 3 | 4 => 4 | 35 => 129 | 38 => 161 | n => n, fun | n => n⟩
theorem searchL : Go.Proofs.SlLaysO.n16 Try.prog search_ren := {
  mixed := by kernel_rfl
  f16 := Try.func105.trans (congrArg some (by kernel_rfl))
  t3 := Try.underlying3
  a3 := Try.isAgg3
  z3 := Try.sizeOf3
  v3 := Try.zeroValue3
  t4 := Try.underlying4
  a4 := Try.isAgg4
  z4 := Try.sizeOf4
  v4 := Try.zeroValue4
  t35 := Try.underlying129
  a35 := Try.isAgg129
  z35 := Try.sizeOf129
  v35 := Try.zeroValue129
  t38 := Try.underlying161
  a38 := Try.isAgg161
  z38 := Try.sizeOf161
  v38 := Try.zeroValue161 }

set_option maxHeartbeats 1000000 in
/-- the closure: is the number on top of pile k at least x? -/
theorem above_any (p1 p2 p3 gp k gr gl : Nat) (cap n c nl cl : Nat) (ol : Nat) (m : Nat) (x y : Int) (j : Nat) (w : World) (hk : k < m) (hn : 0 < n) (hj : j < nl)
    (h1 : w.cell? ⟨p1, 0, none⟩ = some (.slice (some ⟨gp, 0, none⟩) m cap)) (h2 : w.cell? ⟨p2, 0, none⟩ = some (.slice (some ⟨gl, ol, none⟩) nl cl)) (h3 : w.cell? ⟨p3, 0, none⟩ = some (.int .i64 x))
    (h4 : w.cell? ⟨gp, k, none⟩ = some (.slice (some ⟨gr, 0, none⟩) n c)) (h5 : w.cell? ⟨gr, n - 1, none⟩ = some (.int .i64 j)) (h6 : w.cell? ⟨gl, ol + j, none⟩ = some (.int .i64 y)) (hnm : n ≤ 1048576) :
    Calls Try.prog 106 #[.int .i64 k, .pointer (some ⟨p1, 0, none⟩), .pointer (some ⟨p2, 0, none⟩), .pointer (some ⟨p3, 0, none⟩)] w (RetB (decide (x ≤ y)) w) := by
  have hk0 : (0 : Int) ≤ (k : Int) := by omega
  have hk1 : (k : Int) < (m : Int) := by omega
  have hj0 : (0 : Int) ≤ (j : Int) := by omega
  have hj1 : (j : Int) < (nl : Int) := by omega
  obtain ⟨n', rfl⟩ : ∃ n', n = n' + 1 := ⟨n - 1, by omega⟩
  simp only [Nat.add_sub_cancel] at h5
  have e1 : IntKind.i64.wrap (((n' + 1 : Nat) : Int) - 1) = (n' : Int) := by rw [IntWalk.i64_in _ (by omega)]; omega
  have e2 : (n' : Int) < ((n' + 1 : Nat) : Int) := by omega
  have e3 : (0 : Int) ≤ (n' : Int) := by omega
  go_enter Try.func106, Try.ntmps106
  go_wp2_with fail
  go_quiet (fail)
  go_wp2_with fail
  go_ret
  exact ⟨rfl, _, rfl⟩
end Go.Proofs.Ytcjhbpnmkahkeaa.lis
