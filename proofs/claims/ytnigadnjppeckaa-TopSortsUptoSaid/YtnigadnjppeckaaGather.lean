/- A closure that walks a tree and gathers what it meets into a slice: what holds while it does. -/
import Derived.Test.YtnigadnjppeckaaBase
namespace Go.Proofs.Ytnigadnjppeckaa
open Go.RowKit

/-- WHILE A CLOSURE WALKS A TREE AND GATHERS: w0 is the world ahead of it, block W holds the closure, block O the slice that it gathers into, the slice's own block lies from 'base' on; xs has come so far -/
structure WState (fW : Value) (tW tO E : Nat) (W O base : Nat) (w0 : World) (xs : List Int) (w : World) : Prop where
  bel : Below w0.heap.size w0 w
  hO : w0.heap.size ≤ O
  hW : w0.heap.size ≤ W
  ne : O ≠ W
  hOb : O < base
  hWb : W < base
  hb : base ≤ w.heap.size
  cW : w.heap[W]? = some (.cells #[fW] tW (0, 0))
  cO : ∃ v, w.heap[O]? = some (.cells #[v] tO (0, 0)) ∧ w.ownsRow base E 1 v xs.length (xs.map (Value.int .i64))

theorem heap_setCell_one {w : World} {b : Nat} {v u : Value} {t : Nat} (h : w.heap[b]? = some (.cells #[v] t (0, 0))) : (w.setCell ⟨b, 0, none⟩ u).heap[b]? = some (.cells #[u] t (0, 0)) := one_setCell h

/-- one number more: the one-element block is laid, append writes, the box is stored into -/
theorem WState.next {fW : Value} {tW tO E : Nat} {W O base : Nat} {w0 w w1 : World} {xs : List Int} {x : Int} {v v' : Value} {o : Obj} (h : WState fW tW tO E W O base w0 xs w)
    (hv : w.heap[O]? = some (.cells #[v] tO (0, 0))) (hown : w.ownsRow base E 1 v xs.length (xs.map (Value.int .i64)))
    (hown' : w1.ownsRow base E 1 v' (xs.length + 1) (xs.map (Value.int .i64) ++ [.int .i64 x])) (hg : (w.alloc o).grownBy w1 v.ownBlock) :
    WState fW tW tO E W O base w0 (xs ++ [x]) (w1.setCell ⟨O, 0, none⟩ v') := by
  have hrow : ∀ k, v.ownBlock = some k → base ≤ k := fun k hk => (hown.lt k hk).1
  have hsz : w.heap.size + 1 ≤ w1.heap.size := by have := hg.size; simpa using this
  have hold : ∀ k, k < w.heap.size → k < base → w1.heap[k]? = w.heap[k]? := by
    intro k hk hkb
    refine (hg.block k (by simp; omega) ?_).trans (Below.heap_alloc w o k hk)
    intro e
    have := hrow k e.symm
    omega
  have hOs : O < w.heap.size := Nat.lt_of_lt_of_le h.hOb h.hb
  have hWs : W < w.heap.size := Nat.lt_of_lt_of_le h.hWb h.hb
  have bel1 : Below w0.heap.size w0 w1 := by
    refine ⟨hg.os.trans h.bel.os, hg.tape.trans h.bel.tape, hg.output.trans h.bel.output, Nat.le_trans h.bel.size (by omega), ?_⟩
    intro k hk
    exact (hold k (Nat.lt_of_lt_of_le hk h.bel.size) (Nat.lt_trans (Nat.lt_of_lt_of_le hk h.hO) h.hOb)).trans (h.bel.block k hk)
  have hO1 := (hold O hOs h.hOb).trans hv
  have hW1 := (hold W hWs h.hWb).trans h.cW
  refine ⟨bel1.setCell (p := ⟨O, 0, none⟩) h.hO _, h.hO, h.hW, h.ne, h.hOb, h.hWb, ?_, ?_, v', one_setCell hO1, ?_⟩
  · have := h.hb
    simp [World.setCell]
    omega
  · exact (Below.heap_setCell w1 _ _ W (fun e => h.ne e.symm)).trans hW1
  · have := ownsRow_setCell_below hown' (a := ⟨O, 0, none⟩) h.hOb v'
    simpa using this
theorem WState.drewN {fW : Value} {tW tO E : Nat} {W O base : Nat} {w0 w : World} {xs : List Int} (h : WState fW tW tO E W O base w0 xs w) (n : Nat) : WState fW tW tO E W O base w0 xs (w.drewN n) :=
  ⟨⟨h.bel.os, h.bel.tape, h.bel.output, h.bel.size, h.bel.block⟩, h.hO, h.hW, h.ne, h.hOb, h.hWb, h.hb, h.cW, h.cO⟩

theorem grow_other {w w1 : World} {base E n O : Nat} {v : Value} {xs : List Value} {o ob : Obj} (hown : w.ownsRow base E 1 v n xs) (hg : (w.alloc o).grownBy w1 v.ownBlock) (hOb : O < base) (hv : w.heap[O]? = some ob) : w1.heap[O]? = some ob := by
  have hO := (Array.getElem?_eq_some_iff.1 hv).1
  refine ((hg.block O (by simp; omega) ?_).trans (Below.heap_alloc w o O hO)).trans hv
  intro e
  have := (hown.lt O e.symm).1
  omega

/-- what is in a tree, from the left to the right -/
def BT.inorder {α : Type} : BT α → List α
  | .nil => []
  | .node a l r => l.inorder ++ a :: r.inorder
theorem BT.length_inorder {α : Type} (t : BT α) : t.inorder.length = t.size := by
  induction t with
  | nil => rfl
  | node a l r ihl ihr => simp only [BT.inorder, BT.size, List.length_append, List.length_cons]; omega


theorem ownsRow_lower {w : World} {base base' e size n : Nat} {v : Value} {xs : List Value} (h : w.ownsRow base e size v n xs) (hb : base' ≤ base) : w.ownsRow base' e size v n xs := by
  refine ⟨h.1, ?_⟩
  rcases h.2 with h | ⟨g, cap, cur, hv, hg, r⟩
  · exact .inl h
  · exact .inr ⟨g, cap, cur, hv, Nat.le_trans hb hg, r⟩

theorem WState.start (w : World) (o : Obj) (fW : Value) (tW tO E : Nat) :
    WState fW tW tO E (w.heap.size + 1 + 1) (w.heap.size + 1) (w.heap.size + 3) w [] (((w.alloc o).alloc (.cells #[.slice none 0 0] tO)).alloc (.cells #[fW] tW)) := by
  refine ⟨((((Below.refl _ _).alloc (Nat.le_refl _) _).alloc (by simp) _).alloc (by simp; omega) _), by omega, by omega, by omega, by omega, by omega, by simp, ?_, .slice none 0 0, ?_, World.ownsRow_nil _ _ _ _⟩
  · have := heap_alloc_new ((w.alloc o).alloc (.cells #[.slice none 0 0] tO)) (.cells #[fW] tW)
    simpa using this
  · rw [Below.heap_alloc _ _ _ (by simp)]
    have := heap_alloc_new (w.alloc o) (.cells #[Value.slice none 0 0] tO)
    simpa using this

theorem WState.done {fW : Value} {tW tO E : Nat} {W O base : Nat} {w0 w : World} {xs : List Int} (h : WState fW tW tO E W O base w0 xs w) :
    ∃ v, w.cell? ⟨O, 0, none⟩ = some v ∧ w.ownsRow w0.heap.size E 1 v xs.length (xs.map (Value.int .i64)) := by
  obtain ⟨v, hv, ho⟩ := h.cO
  exact ⟨v, cell_of_one hv, ownsRow_lower ho (Nat.le_of_lt (Nat.lt_of_le_of_lt h.hO h.hOb))⟩
end Go.Proofs.Ytnigadnjppeckaa
