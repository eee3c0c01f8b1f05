/- A loop that writes into a slice of the call's own: what it leaves. -/
import Derived.Test.YtnigadnjppeckaaCat
namespace Go.Proofs.Ytnigadnjppeckaa
open Go.RowKit

/-- wr is w but for what the own slice v holds -/
structure Filled (E B : Nat) (v : Value) (n : Nat) (w wr : World) : Prop where
  os : wr.os = w.os
  tape : wr.tape = w.tape
  output : wr.output = w.output
  size : wr.heap.size = w.heap.size
  block : ∀ b, v.ownBlock ≠ some b → wr.heap[b]? = w.heap[b]?
  own : ∃ ys, wr.ownsRow B E 1 v n ys

theorem Filled.start {E B : Nat} {v : Value} {n : Nat} {w : World} {ys : List Value} (h : w.ownsRow B E 1 v n ys) : Filled E B v n w w := ⟨rfl, rfl, rfl, rfl, fun _ _ => rfl, ys, h⟩
theorem Filled.step {E B g c : Nat} {n : Nat} {w wr : World} (h : Filled E B (.slice (some ⟨g, 0, none⟩) n c) n w wr) (k : Nat) (u : Value) : Filled E B (.slice (some ⟨g, 0, none⟩) n c) n w (wr.setCell ⟨g, k, none⟩ u) := by
  obtain ⟨ys, ho⟩ := h.own
  refine ⟨h.os, h.tape, h.output, by rw [← h.size]; simp [World.setCell], fun b hb => ?_, _, (ho.stored k u).1⟩
  rw [Below.heap_setCell _ _ _ _ (fun e => hb (by rw [e]; rfl))]
  exact h.block b hb
theorem Filled.cell {E B g c : Nat} {n : Nat} {w wr : World} (h : Filled E B (.slice (some ⟨g, 0, none⟩) n c) n w wr) (k : Nat) (hk : k < n) : ∃ u, wr.cell? ⟨g, k, none⟩ = some u ∧ wr.frozen? ⟨g, k, none⟩ = false := by
  obtain ⟨ys, ho⟩ := h.own
  have h1 := ho.cellAt k (by omega)
  have h2 : k < ys.length := by rw [ho.1]; omega
  exact ⟨ys[k], by rw [h1]; simp [h2], ho.frozenAt k⟩
theorem Filled.below {E B D n : Nat} {v : Value} {w0 w wr : World} (h : Filled E B v n w wr) (hb : Below D w0 w) (hv : ∀ b, v.ownBlock = some b → D ≤ b) : Below D w0 wr :=
  ⟨h.os.trans hb.os, h.tape.trans hb.tape, h.output.trans hb.output, by rw [h.size]; exact hb.size, fun k hk => (h.block k (fun e => by have := hv k e; omega)).trans (hb.block k hk)⟩
theorem Filled.holds {α : Type} {cs : α → BT α → BT α → List Value} {ty D : Nat} {p : Option Addr} {t : BT α} {E B n : Nat} {v : Value} {w wr : World} (h : Filled E B v n w wr) (hh : Holds cs ty D w p t) (hv : ∀ b, v.ownBlock = some b → b < D) : Holds cs ty D wr p t :=
  hh.frame fun b hb _ => h.block b (fun e => by have := hv b e; omega)
theorem Filled.ownI {E B D n : Nat} {v u : Value} {xs : List Int} {w wr : World} (h : Filled E B v n w wr) (hh : OwnI E w D u xs) (hv : ∀ b, v.ownBlock = some b → u.ownBlock ≠ some b) : OwnI E wr D u xs := by
  refine ⟨hh.1, ?_⟩
  rcases hh.2 with h' | ⟨g, cap, cur, rfl, hg, hc, r⟩
  · exact .inl h'
  · exact .inr ⟨g, cap, cur, rfl, hg, (h.block g (fun e => hv g e rfl)).trans hc, r⟩

theorem rowUp {w w' : World} {B E size n : Nat} {v : Value} {xs : List Value} (h : w.ownsRow B E size v n xs) (hb : Below w.heap.size w w') : w'.ownsRow B E size v n xs := by
  refine ⟨h.1, ?_⟩
  rcases h.2 with h' | ⟨g, cap, cur, rfl, hg, hc, r⟩
  · exact .inl h'
  · exact .inr ⟨g, cap, cur, rfl, hg, upb hb hc, r⟩
theorem rowForm {w : World} {base E n : Nat} {v : Value} {xs : List Value} (h : w.ownsRow base E 1 v n xs) :
    ∃ a c, v = .slice a n c ∧ (0 < n → ∃ g, a = some ⟨g, 0, none⟩ ∧ ∀ i u, xs[i]? = some u → w.cell? ⟨g, i, none⟩ = some u) := by
  rcases h.2 with ⟨rfl, h0⟩ | ⟨g, cap, cur, rfl, hB, hg, hn, _, hc, ht⟩
  · exact ⟨none, 0, by rw [h0], fun h => absurd h (by omega)⟩
  · refine ⟨some ⟨g, 0, none⟩, cap, rfl, fun _ => ⟨g, rfl, fun i u hu => ?_⟩⟩
    have hcell := h.cells (g := g) rfl i u hu
    have e : (⟨g, 0, none⟩ : Addr).add i = ⟨g, 0 + i, none⟩ := by unfold Addr.add; split <;> simp_all
    rw [e] at hcell
    simpa using hcell

/-- an append to an own slice leaves a tree as it was -/
theorem Holds.grown {α : Type} {cs : α → BT α → BT α → List Value} {ty B base E n : Nat} {w w1 : World} {p : Option Addr} {t : BT α} {v : Value} {xs : List Value} {o : Obj} (h : Holds cs ty B w p t) (hown : w.ownsRow base E 1 v n xs)
    (hg : (w.alloc o).grownBy w1 v.ownBlock) (hne : E ≠ ty) : Holds cs ty B w1 p t := by
  induction t generalizing p with
  | nil => exact h
  | node a l r ihl ihr =>
    obtain ⟨b, pl, pr, rfl, hB, hc, hl, hr⟩ := h
    have hb := (Array.getElem?_eq_some_iff.1 hc).1
    refine ⟨b, pl, pr, rfl, hB, ((hg.block b (by simp; omega) ?_).trans (Below.heap_alloc w o b hb)).trans hc, ihl hl, ihr hr⟩
    intro e
    rcases hown.2 with ⟨rfl, _⟩ | ⟨g, cap, cur, rfl, _, hgc, _⟩
    · cases e
    · cases e
      rw [hc] at hgc
      cases hgc
      exact hne rfl
end Go.Proofs.Ytnigadnjppeckaa
