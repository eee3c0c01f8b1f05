/- Cells of a row that are written one after the other: what the row is then. No program stands here. -/
import Derived.Test.YtenaddjnaeebbaaMore
import Derived.Laws.IdiomCopy
namespace Go.Proofs.Ytenaddjnaeebbaa
open Go.RowKit

theorem setCells_frame (g : Nat) : ∀ (vs : List Value) (o : Nat) (w : World), (w.setCells g o vs).os = w.os ∧ (w.setCells g o vs).tape = w.tape ∧ (w.setCells g o vs).output = w.output ∧ (w.setCells g o vs).heap.size = w.heap.size ∧ ∀ k, k ≠ g → (w.setCells g o vs).heap[k]? = w.heap[k]?
  | [], _, _ => ⟨rfl, rfl, rfl, rfl, fun _ _ => rfl⟩
  | v :: r, o, w => by
    obtain ⟨h1, h2, h3, h4, h5⟩ := setCells_frame g r (o + 1) (w.setCell ⟨g, o, none⟩ v)
    exact ⟨h1, h2, h3, h4.trans (by simp [World.setCell]), fun k hk => (h5 k hk).trans (Below.heap_setCell _ _ _ _ hk)⟩
theorem set_seg (l : List Value) (o : Nat) (v : Value) (r : List Value) (h : o < l.length) : (l.set o v).take (o + 1) ++ r ++ (l.set o v).drop (o + 1 + r.length) = l.take o ++ v :: r ++ l.drop (o + (v :: r).length) := by
  have e : l.set o v = l.take o ++ (v :: l.drop (o + 1)) := by rw [List.set_eq_take_append_cons_drop, if_pos h]
  have h1 : (l.take o).length = o := by rw [List.length_take]; omega
  have h2 : (l.set o v).take (o + 1) = l.take o ++ [v] := by
    rw [e, List.take_append, h1, List.take_of_length_le (by rw [h1]; omega), show o + 1 - o = 1 by omega]
    rfl
  have h3 : (l.set o v).drop (o + 1 + r.length) = l.drop (o + 1 + r.length) := by
    rw [e, List.drop_append, h1, List.drop_of_length_le (by rw [h1]; omega), show o + 1 + r.length - o = r.length + 1 by omega, List.nil_append, List.drop_succ_cons, List.drop_drop]
  rw [h2, h3, List.length_cons, show o + 1 + r.length = o + (r.length + 1) by omega]
  simp
theorem setCells_block {g : Nat} {t : Nat} : ∀ (vs : List Value) (o : Nat) (w : World) (cur : Array Value), w.heap[g]? = some (.cells cur t (0, 0)) → o + vs.length ≤ cur.size →
    (w.setCells g o vs).heap[g]? = some (.cells (cur.toList.take o ++ vs ++ cur.toList.drop (o + vs.length)).toArray t (0, 0))
  | [], o, w, cur, h, _ => by
    have e : cur.toList.take o ++ [] ++ cur.toList.drop (o + ([] : List Value).length) = cur.toList := by simp
    rw [e]; exact h
  | v :: r, o, w, cur, h, hl => by
    have hb := (Array.getElem?_eq_some_iff.1 h).1
    have h1 : (w.setCell ⟨g, o, none⟩ v).heap[g]? = some (.cells (cur.setIfInBounds o v) t (0, 0)) := by simp [World.setCell, Array.getElem?_modify, h]
    simp only [List.length_cons] at hl
    have ih := setCells_block r (o + 1) _ _ h1 (by simp; omega)
    rw [Array.toList_setIfInBounds, set_seg cur.toList o v r (by simp; omega)] at ih
    exact ih
theorem setCells_grown (w : World) (g o : Nat) (vs : List Value) : w.grownBy (w.setCells g o vs) (some g) := by
  obtain ⟨h1, h2, h3, h4, h5⟩ := setCells_frame g vs o w
  exact ⟨h1, h2, h3, by rw [h4]; exact Nat.le_refl _, fun k _ hk => h5 k fun e => hk (by rw [e])⟩
theorem grownBy.trans {w w1 w2 : World} {row : Option Nat} (h : w.grownBy w1 row) (h' : w1.grownBy w2 row) : w.grownBy w2 row :=
  ⟨h'.os.trans h.os, h'.tape.trans h.tape, h'.output.trans h.output, Nat.le_trans h.size h'.size, fun k hk hr => (h'.block k (Nat.lt_of_lt_of_le hk h.size) hr).trans (h.block k hk hr)⟩
theorem grownBy.of {w w1 : World} (row : Option Nat) (h : Below w.heap.size w w1) : w.grownBy w1 row := ⟨h.os, h.tape, h.output, h.size, fun k hk _ => h.block k hk⟩
end Go.Proofs.Ytenaddjnaeebbaa
