/- A loop that writes into a row of the call's own: what it leaves (from XPairs). No function of the program is named here. -/
import Derived.Test.YteglhcpochcopaaMore
namespace Go.Proofs.Yteglhcpochcopaa
open Go.RowKit

/-- wr is w but for what the own row v holds -/
structure FilledR (E s B : Nat) (v : Value) (n : Nat) (w wr : World) : Prop where
  os : wr.os = w.os
  tape : wr.tape = w.tape
  output : wr.output = w.output
  size : wr.heap.size = w.heap.size
  block : ∀ b, v.ownBlock ≠ some b → wr.heap[b]? = w.heap[b]?
  own : ∃ ys, wr.ownsRow B E s v n ys
theorem FilledR.start {E s B : Nat} {v : Value} {n : Nat} {w : World} {ys : List Value} (h : w.ownsRow B E s v n ys) : FilledR E s B v n w w := ⟨rfl, rfl, rfl, rfl, fun _ _ => rfl, ys, h⟩
theorem FilledR.step {E s B g c : Nat} {n : Nat} {w wr : World} (h : FilledR E s B (.slice (some ⟨g, 0, none⟩) n c) n w wr) (k : Nat) (u : Value) : FilledR E s B (.slice (some ⟨g, 0, none⟩) n c) n w (wr.setCell ⟨g, k, none⟩ u) := by
  obtain ⟨ys, ho⟩ := h.own
  refine ⟨h.os, h.tape, h.output, by rw [← h.size]; simp [World.setCell], fun b hb => ?_, _, (ho.stored k u).1⟩
  rw [Below.heap_setCell _ _ _ _ (fun e => hb (by rw [e]; rfl))]
  exact h.block b hb
theorem FilledR.cell {E s B g c : Nat} {n : Nat} {w wr : World} (h : FilledR E s B (.slice (some ⟨g, 0, none⟩) n c) n w wr) (k : Nat) (hk : k < n * s) : ∃ u, wr.cell? ⟨g, k, none⟩ = some u ∧ wr.frozen? ⟨g, k, none⟩ = false := by
  obtain ⟨ys, ho⟩ := h.own
  have h1 := ho.cellAt k hk
  have h2 : k < ys.length := by rw [ho.1]; exact hk
  exact ⟨ys[k], by rw [h1]; simp [h2], ho.frozenAt k⟩
theorem FilledR.below {E s B D n : Nat} {v : Value} {w0 w wr : World} (h : FilledR E s B v n w wr) (hb : Below D w0 w) (hv : ∀ b, v.ownBlock = some b → D ≤ b) : Below D w0 wr :=
  ⟨h.os.trans hb.os, h.tape.trans hb.tape, h.output.trans hb.output, by rw [h.size]; exact hb.size, fun k hk => (h.block k (fun e => by have := hv k e; omega)).trans (hb.block k hk)⟩
theorem FilledR.old {E s B n : Nat} {v : Value} {w wr : World} (h : FilledR E s B v n w wr) (w0 : World) (hb : Below w0.heap.size w0 w) (hv : ∀ b, v.ownBlock = some b → w0.heap.size ≤ b) : Below w0.heap.size w0 wr := h.below hb hv
end Go.Proofs.Yteglhcpochcopaa
