/- Boxes of two cells: a pointer and a number. -/
import Derived.Test.YtnigadnjppeckaaMore
namespace Go.Proofs.Ytnigadnjppeckaa
open Go.RowKit

theorem two_c0 {w : World} {b : Nat} {u v : Value} {t : Nat} (h : w.heap[b]? = some (.cells #[u, v] t (0, 0))) : w.cell? ⟨b, 0, none⟩ = some u := by simp [World.cell?, h]
theorem two_c1 {w : World} {b : Nat} {u v : Value} {t : Nat} (h : w.heap[b]? = some (.cells #[u, v] t (0, 0))) : w.cell? ⟨b, 1, none⟩ = some v := by simp [World.cell?, h]
theorem two_f {w : World} {b o : Nat} {u v : Value} {t : Nat} (h : w.heap[b]? = some (.cells #[u, v] t (0, 0))) : w.frozen? ⟨b, o, none⟩ = false := by simp [World.frozen?, h]
theorem two_set {w : World} {b : Nat} {u v u' v' : Value} {t : Nat} (h : w.heap[b]? = some (.cells #[u, v] t (0, 0))) : ((w.setCell ⟨b, 0, none⟩ u').setCell ⟨b, 1, none⟩ v').heap[b]? = some (.cells #[u', v'] t (0, 0)) := by
  have hb := (Array.getElem?_eq_some_iff.1 h).1
  simp [World.setCell, Array.getElem?_modify, h]
theorem heapSet2 {w : World} {b k : Nat} {u' v' : Value} (h : b ≠ k) : ((w.setCell ⟨k, 0, none⟩ u').setCell ⟨k, 1, none⟩ v').heap[b]? = w.heap[b]? :=
  (Below.heap_setCell _ _ _ _ h).trans (Below.heap_setCell _ _ _ _ h)
theorem Holds.store2 {α : Type} {cs : α → BT α → BT α → List Value} {ty ty' B k : Nat} {w : World} {p : Option Addr} {t : BT α} {c : Array Value} {fz : Nat × Nat} {u v : Value}
    (h : Holds cs ty B w p t) (hk : w.heap[k]? = some (.cells c ty' fz)) (hne : ty' ≠ ty) : Holds cs ty B ((w.setCell ⟨k, 0, none⟩ u).setCell ⟨k, 1, none⟩ v) p t := by
  induction t generalizing p with
  | nil => exact h
  | node a l r ihl ihr =>
    obtain ⟨b, pl, pr, rfl, hB, hc, hl, hr⟩ := h
    refine ⟨b, pl, pr, rfl, hB, (heapSet2 ?_).trans hc, ihl hl, ihr hr⟩
    rintro rfl
    rw [hk] at hc
    cases hc
    exact hne rfl
theorem belowSet2 {w w' : World} (h : Below w.heap.size w w') {k : Nat} (hk : w.heap.size ≤ k) (u v : Value) : Below w.heap.size w ((w'.setCell ⟨k, 0, none⟩ u).setCell ⟨k, 1, none⟩ v) :=
  (h.setCell (p := ⟨k, 0, none⟩) hk u).setCell (p := ⟨k, 1, none⟩) hk v
theorem sizeSet2 (w : World) (k : Nat) (u v : Value) : ((w.setCell ⟨k, 0, none⟩ u).setCell ⟨k, 1, none⟩ v).heap.size = w.heap.size := by simp [World.setCell]
end Go.Proofs.Ytnigadnjppeckaa
