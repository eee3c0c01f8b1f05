/- Package scan: what an op makes of two numbers; the ops that there are. -/
import Derived.Test.YtnnpeblpdkeffaaTwo
import Derived.Test.YtnnpeblpdkeffaaCat
import Derived.Laws.EntriesVeiled
namespace Go.Proofs.Ytnnpeblpdkeffaa.scan
open Go.RowKit

/-- what the k-th op makes of two numbers, and its nought -/
def ap (k : Nat) (a b : Int) : Int := if k = 1 then wrap64 (a + b) else if k = 2 then (if a < b then b else a) else if k = 3 then (if b < a then b else a) else bits BinOp.xor IntKind.i64 a b
def nt (k : Nat) : Int := if k = 2 then -9223372036854775808 else if k = 3 then 9223372036854775807 else 0
theorem ap2 (a b : Int) : ap 2 a b = if a < b then b else a := rfl
theorem ap3 (a b : Int) : ap 3 a b = if b < a then b else a := rfl

set_option maxHeartbeats 400000 in
theorem take1 (a b : Int) (w : World) : Calls Try.prog 21 #[.int .i64 a, .int .i64 b] w fun e w' => e = .returned (.int .i64 (ap 1 a b)) ∧ w = w' := by
  go_enter Try.func21, Try.ntmps21
  go_wp2_with fail
  all_goals
    go_ret
    refine ⟨?_, rfl⟩
    first | rfl | (rw [ap2, if_pos (by omega)]; rfl) | (rw [ap2, if_neg (by omega)]; rfl) | (rw [ap3, if_pos (by omega)]; rfl) | (rw [ap3, if_neg (by omega)]; rfl)
set_option maxHeartbeats 400000 in
theorem of1 (w : World) : Calls Try.prog 13 #[.int .i64 1] w fun e w' => e = .returned (.tuple #[.agg #[.int .i64 (nt 1), .func (.func 21) #[] #[]], .nilIface]) ∧ Below w.heap.size w w' := by
  go_enter Try.func13, Try.ntmps13
  go_wp2_with fail
  exact bodyPost_ret (v := .tuple #[.agg #[.int .i64 (nt 1), .func (.func 21) #[] #[]], .nilIface]) (by simp [results, Try.results13, go_sem, nt]) rfl ⟨rfl, belowAlloc _ _⟩
set_option maxHeartbeats 400000 in
theorem take2 (a b : Int) (w : World) : Calls Try.prog 22 #[.int .i64 a, .int .i64 b] w fun e w' => e = .returned (.int .i64 (ap 2 a b)) ∧ w = w' := by
  go_enter Try.func22, Try.ntmps22
  go_wp2_with fail
  all_goals
    go_ret
    refine ⟨?_, rfl⟩
    first | rfl | (rw [ap2, if_pos (by omega)]; rfl) | (rw [ap2, if_neg (by omega)]; rfl) | (rw [ap3, if_pos (by omega)]; rfl) | (rw [ap3, if_neg (by omega)]; rfl)
set_option maxHeartbeats 400000 in
theorem of2 (w : World) : Calls Try.prog 13 #[.int .i64 2] w fun e w' => e = .returned (.tuple #[.agg #[.int .i64 (nt 2), .func (.func 22) #[] #[]], .nilIface]) ∧ Below w.heap.size w w' := by
  go_enter Try.func13, Try.ntmps13
  go_wp2_with fail
  exact bodyPost_ret (v := .tuple #[.agg #[.int .i64 (nt 2), .func (.func 22) #[] #[]], .nilIface]) (by simp [results, Try.results13, go_sem, nt]) rfl ⟨rfl, belowAlloc _ _⟩
set_option maxHeartbeats 400000 in
theorem take3 (a b : Int) (w : World) : Calls Try.prog 23 #[.int .i64 a, .int .i64 b] w fun e w' => e = .returned (.int .i64 (ap 3 a b)) ∧ w = w' := by
  go_enter Try.func23, Try.ntmps23
  go_wp2_with fail
  all_goals
    go_ret
    refine ⟨?_, rfl⟩
    first | rfl | (rw [ap2, if_pos (by omega)]; rfl) | (rw [ap2, if_neg (by omega)]; rfl) | (rw [ap3, if_pos (by omega)]; rfl) | (rw [ap3, if_neg (by omega)]; rfl)
set_option maxHeartbeats 400000 in
theorem of3 (w : World) : Calls Try.prog 13 #[.int .i64 3] w fun e w' => e = .returned (.tuple #[.agg #[.int .i64 (nt 3), .func (.func 23) #[] #[]], .nilIface]) ∧ Below w.heap.size w w' := by
  go_enter Try.func13, Try.ntmps13
  go_wp2_with fail
  exact bodyPost_ret (v := .tuple #[.agg #[.int .i64 (nt 3), .func (.func 23) #[] #[]], .nilIface]) (by simp [results, Try.results13, go_sem, nt]) rfl ⟨rfl, belowAlloc _ _⟩
set_option maxHeartbeats 400000 in
theorem take4 (a b : Int) (w : World) : Calls Try.prog 24 #[.int .i64 a, .int .i64 b] w fun e w' => e = .returned (.int .i64 (ap 4 a b)) ∧ w = w' := by
  go_enter Try.func24, Try.ntmps24
  go_wp2_with fail
  all_goals
    go_ret
    refine ⟨?_, rfl⟩
    first | rfl | (rw [ap2, if_pos (by omega)]; rfl) | (rw [ap2, if_neg (by omega)]; rfl) | (rw [ap3, if_pos (by omega)]; rfl) | (rw [ap3, if_neg (by omega)]; rfl)
set_option maxHeartbeats 400000 in
theorem of4 (w : World) : Calls Try.prog 13 #[.int .i64 4] w fun e w' => e = .returned (.tuple #[.agg #[.int .i64 (nt 4), .func (.func 24) #[] #[]], .nilIface]) ∧ Below w.heap.size w w' := by
  go_enter Try.func13, Try.ntmps13
  go_wp2_with fail
  exact bodyPost_ret (v := .tuple #[.agg #[.int .i64 (nt 4), .func (.func 24) #[] #[]], .nilIface]) (by simp [results, Try.results13, go_sem, nt]) rfl ⟨rfl, belowAlloc _ _⟩
set_option maxHeartbeats 1000000 in
theorem of_none (n : Int) (w : World) (h1 : n ≠ 1) (h2 : n ≠ 2) (h3 : n ≠ 3) (h4 : n ≠ 4) : Calls Try.prog 13 #[.int .i64 n] w fun e w' => e = .returned (.tuple #[.agg #[.int .i64 0, .nilFunc], .iface 48 (.int .i64 3)]) ∧ Below w.heap.size w w' := by
  have e1 : (n == 1) = false := beq_eq_false_iff_ne.2 h1
  have e2 : (n == 2) = false := beq_eq_false_iff_ne.2 h2
  have e3 : (n == 3) = false := beq_eq_false_iff_ne.2 h3
  have e4 : (n == 4) = false := beq_eq_false_iff_ne.2 h4
  clear h1 h2 h3 h4
  go_enter Try.func13, Try.ntmps13
  go_wp2_with fail
  exact bodyPost_ret (v := .tuple #[.agg #[.int .i64 0, .nilFunc], .iface 48 (.int .i64 3)]) (by simp [results, Try.results13, go_sem]) rfl ⟨rfl, belowAlloc _ _⟩
end Go.Proofs.Ytnnpeblpdkeffaa.scan
