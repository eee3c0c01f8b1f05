/- A trie that is filled with words: how long they are. -/
import Derived.Test.YteglhcpochcopaaTrieLongest
import Derived.Test.YteglhcpochcopaaSameW
namespace Go.Proofs.Yteglhcpochcopaa.trie
open Go.RowKit

theorem fillN_len {l : List Wd} {M : Nat} (h : ∀ x ∈ l, x.length ≤ M) {j : Nat} (hj : j ≤ l.length) : ∀ {u : Wd} {x : Int}, get (fillN l j) u = some x → u.length ≤ M := by
  induction j with
  | zero => intro u x hu; rw [show fillN l 0 = .nil from rfl, get_nil] at hu; cases hu
  | succ j ih =>
    intro u x hu
    rw [show fillN l (j + 1) = put (fillN l j) (l.getD j []) (j : Int) from rfl, get_put] at hu
    split at hu
    · rename_i e
      rw [e, List.getD_eq_getElem?_getD, List.getElem?_eq_getElem (by omega)]
      exact h _ (List.getElem_mem _)
    · exact ih (by omega) hu
end Go.Proofs.Yteglhcpochcopaa.trie
