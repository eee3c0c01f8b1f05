/- More small lemmas on worlds and on trees that lie in memory. -/
import Derived.Test.YtnigadnjppeckaaBase
namespace Go.Proofs.Ytnigadnjppeckaa
open Go.RowKit

/-- a store into a block of another type leaves a tree as it was -/
theorem Holds.store {α : Type} {cs : α → BT α → BT α → List Value} {ty ty' B k off : Nat} {w : World} {p : Option Addr} {t : BT α} {c : Array Value} {fz : Nat × Nat} {u : Value}
    (h : Holds cs ty B w p t) (hk : w.heap[k]? = some (.cells c ty' fz)) (hne : ty' ≠ ty) : Holds cs ty B (w.setCell ⟨k, off, none⟩ u) p t := by
  induction t generalizing p with
  | nil => exact h
  | node a l r ihl ihr =>
    obtain ⟨b, pl, pr, rfl, hB, hc, hl, hr⟩ := h
    refine ⟨b, pl, pr, rfl, hB, (Below.heap_setCell w _ u b ?_).trans hc, ihl hl, ihr hr⟩
    rintro rfl
    rw [hk] at hc
    cases hc
    exact hne rfl

theorem belowSet {w w' : World} (h : Below w.heap.size w w') {a : Addr} (ha : w.heap.size ≤ a.block) (u : Value) : Below w.heap.size w (w'.setCell a u) := h.setCell ha u
theorem heapNew2 (w : World) (o o' : Obj) : ((w.alloc o).alloc o').heap[w.heap.size + 1]? = some o' := by
  have := heap_alloc_new (w.alloc o) o'
  simpa using this
theorem heapNew1 (w : World) (o o' : Obj) : ((w.alloc o).alloc o').heap[w.heap.size]? = some o := by
  rw [Below.heap_alloc _ _ _ (by simp)]
  exact heap_alloc_new w o
theorem block_ne {w : World} {b k : Nat} {c c' : Array Value} {ty ty' : Nat} {z z' : Nat × Nat} (hb : w.heap[b]? = some (.cells c ty z)) (hk : w.heap[k]? = some (.cells c' ty' z')) (h : ty' ≠ ty) : k ≠ b := by
  rintro rfl
  rw [hb] at hk
  cases hk
  exact h rfl
end Go.Proofs.Ytnigadnjppeckaa
