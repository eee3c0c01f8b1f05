/- What a world keeps, by the types of its blocks (from XRowP). No function of the program is named here. -/
import Derived.Test.YtnigadnjppeckaaMore
import Derived.Test.YtnigadnjppeckaaTwo
import Derived.Laws.AppendOwnNone
namespace Go.Proofs.Ytnigadnjppeckaa
open Go.RowKit

/-- each block that is of none of these types is as it was -/
def KeepT (T : List Nat) (w w' : World) : Prop := ∀ (k : Nat) (c : Array Value) (ty : Nat) (fz : Nat × Nat), w.heap[k]? = some (Obj.cells c ty fz) → ty ∉ T → w'.heap[k]? = some (Obj.cells c ty fz)
theorem KeepT.refl (T : List Nat) (w : World) : KeepT T w w := fun _ _ _ _ h _ => h
theorem KeepT.trans {T : List Nat} {w w1 w2 : World} (h : KeepT T w w1) (h' : KeepT T w1 w2) : KeepT T w w2 := fun k c ty fz hk ht => h' k c ty fz (h k c ty fz hk ht) ht
theorem KeepT.of {T : List Nat} {w w' : World} (h : Below w.heap.size w w') : KeepT T w w' := fun _ _ _ _ hk _ => upb h hk
theorem KeepT.more {T T' : List Nat} {w w' : World} (h : KeepT T w w') (ht : ∀ x, x ∈ T → x ∈ T') : KeepT T' w w' := fun k c ty fz hk hn => h k c ty fz hk fun e => hn (ht _ e)
theorem KeepT.set {T : List Nat} {w : World} {a : Addr} {c : Array Value} {ty : Nat} {fz : Nat × Nat} (ha : w.heap[a.block]? = some (.cells c ty fz)) (ht : ty ∈ T) (u : Value) : KeepT T w (w.setCell a u) := by
  intro k c' ty' fz' hk hn
  refine (Below.heap_setCell _ _ _ _ ?_).trans hk
  rintro rfl
  rw [ha] at hk
  cases hk
  exact hn ht
theorem KeepT.grown {E base n sz : Nat} {v : Value} {xs : List Value} {w w1 : World} {o : Obj} (hown : w.ownsRow base E sz v n xs) (hg : (w.alloc o).grownBy w1 v.ownBlock) : KeepT [E] w w1 := by
  intro k c ty fz hk hn
  have hb := (Array.getElem?_eq_some_iff.1 hk).1
  refine ((hg.block k (by simp; omega) ?_).trans (Below.heap_alloc w o k hb)).trans hk
  intro e
  rcases hown.2 with ⟨rfl, _⟩ | ⟨g, cap, cur, rfl, _, hgc, _⟩
  · cases e
  · cases e
    rw [hgc] at hk
    cases hk
    simp at hn
theorem rowKeep {T : List Nat} {w w' : World} {B E size n : Nat} {v : Value} {xs : List Value} (h : w.ownsRow B E size v n xs) (hk : KeepT T w w') (ht : E ∉ T) : w'.ownsRow B E size v n xs := by
  refine ⟨h.1, ?_⟩
  rcases h.2 with h' | ⟨g, cap, cur, rfl, hg, hc, r⟩
  · exact .inl h'
  · exact .inr ⟨g, cap, cur, rfl, hg, hk _ _ _ _ hc ht, r⟩
theorem Holds.keep {α : Type} {cs : α → BT α → BT α → List Value} {ty B : Nat} {T : List Nat} {w w' : World} {p : Option Addr} {t : BT α} (h : Holds cs ty B w p t) (hk : KeepT T w w') (ht : ty ∉ T) : Holds cs ty B w' p t := by
  induction t generalizing p with
  | nil => exact h
  | node a l r ihl ihr =>
    obtain ⟨b, pl, pr, rfl, hB, hc, hl, hr⟩ := h
    exact ⟨b, pl, pr, rfl, hB, hk _ _ _ _ hc ht, ihl hl, ihr hr⟩
end Go.Proofs.Ytnigadnjppeckaa
