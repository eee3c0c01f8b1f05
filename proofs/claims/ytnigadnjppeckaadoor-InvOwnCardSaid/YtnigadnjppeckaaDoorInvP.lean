/- Package inv, plain laws: what sorted tells (the count wraps as the machine's does). No function of the program is named here. -/
import Derived.Test.YtnigadnjppeckaaDoorMore
namespace Go.Proofs.YtnigadnjppeckaaDoor.inv
open Go

/-- two rows into one; n: how many pairs were out of order so far -/
def mrg : List Int → List Int → Int → List Int × Int
  | [], [], n => ([], n)
  | [], y :: b, n => ((y :: (mrg [] b (IntKind.i64.wrap (n + 0))).1), (mrg [] b (IntKind.i64.wrap (n + 0))).2)
  | x :: a, [], n => ((x :: (mrg a [] n).1), (mrg a [] n).2)
  | x :: a, y :: b, n => if x ≤ y then ((x :: (mrg a (y :: b) n).1), (mrg a (y :: b) n).2) else ((y :: (mrg (x :: a) b (IntKind.i64.wrap (n + ((a.length + 1 : Nat) : Int)))).1), (mrg (x :: a) b (IntKind.i64.wrap (n + ((a.length + 1 : Nat) : Int)))).2)
termination_by a b => a.length + b.length
/-- sorted, and how many pairs were out of order -/
def srtF : Nat → List Int → List Int × Int
  | 0, xs => (xs, 0)
  | k + 1, xs => if xs.length < 2 then (xs, 0) else
      let p := srtF k (xs.take (xs.length / 2))
      let q := srtF k (xs.drop (xs.length / 2))
      let r := mrg p.1 q.1 q.2
      (r.1, IntKind.i64.wrap (p.2 + r.2))
theorem mrg_length : ∀ (a b : List Int) (n : Int), (mrg a b n).1.length = a.length + b.length := by
  intro a b n
  induction a, b, n using mrg.induct with
  | case1 n => simp [mrg]
  | case2 n y b ih => rw [mrg]; simp only [List.length_cons] at *; omega
  | case3 n x a ih => rw [mrg]; simp only [List.length_cons] at *; omega
  | case4 n x a y b h ih => rw [mrg, if_pos h]; simp only [List.length_cons] at *; omega
  | case5 n x a y b h ih => rw [mrg, if_neg h]; simp only [List.length_cons] at *; omega
theorem srtF_length (k : Nat) : ∀ xs : List Int, (srtF k xs).1.length = xs.length := by
  induction k with
  | zero => intro xs; rfl
  | succ k ih =>
    intro xs
    unfold srtF
    split
    · rfl
    · simp only [mrg_length, ih, List.length_take, List.length_drop]
      omega
end Go.Proofs.YtnigadnjppeckaaDoor.inv
