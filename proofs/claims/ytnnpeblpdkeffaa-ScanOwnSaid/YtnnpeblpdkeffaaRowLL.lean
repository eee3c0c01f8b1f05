/- A row of lists of numbers, of whatever lengths, that a call made. -/
import Derived.Test.YtnnpeblpdkeffaaFill
import Derived.Test.YtnnpeblpdkeffaaGather
namespace Go.Proofs.Ytnnpeblpdkeffaa
open Go.RowKit

theorem infoRLL : (Try.prog.info? 22).map (fun i => (i.zero, i.size, i.bytes)) = some (some (.slice none 0 0), 1, 24) := by kernel_rfl
/-- v is a row of the lists L, all of them of the call's own; the j-th one lies in a block of which Q j is true -/
def RowLL (W : World) (B : Nat) (Q : Nat → Nat → Prop) (L : List (List Int)) (v : Value) : Prop :=
  ∃ cs, W.ownsRow B 22 1 v L.length cs ∧ ∀ j, j < L.length → ∃ a c, cs[j]? = some (.slice a (L.getD j []).length c) ∧ OwnI 3 W B (.slice a (L.getD j []).length c) (L.getD j []) ∧ ∀ b, (Value.slice a (L.getD j []).length c).ownBlock = some b → Q j b
theorem RowLL.up {W W' : World} {B : Nat} {Q : Nat → Nat → Prop} {L : List (List Int)} {v : Value} (h : RowLL W B Q L v) (hb : Below W.heap.size W W') : RowLL W' B Q L v := by
  obtain ⟨cs, ho, hc⟩ := h
  refine ⟨cs, rowUp ho hb, fun j hj => ?_⟩
  obtain ⟨a, c, h3, h4, h5⟩ := hc j hj
  exact ⟨a, c, h3, h4.up hb, h5⟩
theorem RowLL.form {W : World} {B : Nat} {Q : Nat → Nat → Prop} {L : List (List Int)} {v : Value} (h : RowLL W B Q L v) : ∃ a cap, v = .slice a L.length cap := by
  obtain ⟨cs, ho, _⟩ := h
  rcases ho.2 with ⟨hv, h0⟩ | ⟨g, cap, cur, hv, _⟩
  · exact ⟨none, 0, by rw [hv, h0]⟩
  · exact ⟨_, cap, hv⟩
theorem RowLL.at {W : World} {B : Nat} {Q : Nat → Nat → Prop} {L : List (List Int)} {a0 : Option Addr} {n cap0 : Nat} (h : RowLL W B Q L (.slice a0 n cap0)) {k : Nat} (hk : k < L.length) :
    ∃ g cur, a0 = some ⟨g, 0, none⟩ ∧ B ≤ g ∧ W.heap[g]? = some (.cells cur 22 (0, 0)) ∧ ∃ a c, W.cell? ⟨g, k, none⟩ = some (.slice a (L.getD k []).length c) ∧ OwnI 3 W B (.slice a (L.getD k []).length c) (L.getD k []) ∧ ∀ b, (Value.slice a (L.getD k []).length c).ownBlock = some b → Q k b := by
  obtain ⟨cs, ho, hc⟩ := h
  obtain ⟨a, c, h3, h4, h5⟩ := hc k hk
  rcases ho.2 with ⟨_, h0⟩ | ⟨g, cap, cur, hv, hB, hg, _⟩
  · omega
  · simp only [Value.slice.injEq] at hv
    obtain ⟨rfl, rfl, rfl⟩ := hv
    exact ⟨g, cur, rfl, hB, hg, a, c, by rw [World.ownsRow.cellAt ho k (by omega)]; exact h3, h4, h5⟩
/-- an append to one own row leaves another row of another element type as it was -/
theorem OwnI.grownOther {W W1 : World} {B B' E E' n : Nat} {v u : Value} {xs : List Int} {ys : List Value} {o : Obj} (h : OwnI E W B u xs) (hown : W.ownsRow B' E' 1 v n ys) (hg : (W.alloc o).grownBy W1 v.ownBlock) (hne : E' ≠ E) : OwnI E W1 B u xs := by
  refine ⟨h.1, ?_⟩
  rcases h.2 with h' | ⟨g, cap, cur, rfl, hgB, hc, r⟩
  · exact .inl h'
  · refine .inr ⟨g, cap, cur, rfl, hgB, ?_, r⟩
    have hlt := (Array.getElem?_eq_some_iff.1 hc).1
    refine ((hg.block g (by simp; omega) ?_).trans (Below.heap_alloc W o g hlt)).trans hc
    intro e
    rcases hown.2 with ⟨rfl, _⟩ | ⟨g2, cap2, cur2, rfl, _, hgc, _⟩
    · cases e
    · cases e
      rw [hc] at hgc
      cases hgc
      exact hne rfl
theorem row_ne {W : World} {B E n b ty : Nat} {v : Value} {ys : List Value} {c : Array Value} {fz : Nat × Nat} (hown : W.ownsRow B E 1 v n ys) (h : W.heap[b]? = some (.cells c ty fz)) (hne : ty ≠ E) : some b ≠ v.ownBlock := by
  intro e
  rcases hown.2 with ⟨rfl, _⟩ | ⟨g, cap, cur, rfl, _, hgc, _⟩
  · cases e
  · have e2 : b = g := by simpa [Value.ownBlock] using e
    rw [← e2, h] at hgc
    simp only [Option.some.injEq, Obj.cells.injEq] at hgc
    exact hne hgc.2.1
theorem RowLL.app {W W1 : World} {B : Nat} {Q : Nat → Nat → Prop} {L : List (List Int)} {v v' : Value} {xs : List Int} {a : Option Addr} {c : Nat} {cs : List Value} {o : Obj}
    (hc : ∀ j, j < L.length → ∃ a c, cs[j]? = some (.slice a (L.getD j []).length c) ∧ OwnI 3 W B (.slice a (L.getD j []).length c) (L.getD j []) ∧ ∀ b, (Value.slice a (L.getD j []).length c).ownBlock = some b → Q j b) (hown : W.ownsRow B 22 1 v L.length cs)
    (hx : OwnI 3 W B (.slice a xs.length c) xs) (hq : ∀ b, (Value.slice a xs.length c).ownBlock = some b → Q L.length b) (hg : (W.alloc o).grownBy W1 v.ownBlock) (ho : W1.ownsRow B 22 1 v' (L.length + 1) (cs ++ [.slice a xs.length c])) : RowLL W1 B Q (L ++ [xs]) v' := by
  have hl : cs.length = L.length := by have := hown.1; omega
  refine ⟨cs ++ [.slice a xs.length c], by rw [List.length_append, List.length_singleton]; exact ho, fun j hj => ?_⟩
  rw [List.length_append, List.length_singleton] at hj
  by_cases h : j < L.length
  · obtain ⟨a1, c1, h1, h2, h3⟩ := hc j h
    have e : (L ++ [xs]).getD j [] = L.getD j [] := by rw [List.getD_eq_getElem?_getD, List.getElem?_append_left h, ← List.getD_eq_getElem?_getD]
    rw [e]
    exact ⟨a1, c1, by rw [List.getElem?_append_left (by omega)]; exact h1, h2.grownOther hown hg (by decide), h3⟩
  · have e : j = L.length := by omega
    subst e
    have e : (L ++ [xs]).getD L.length [] = xs := by rw [List.getD_eq_getElem?_getD, List.getElem?_append_right (Nat.le_refl _)]; simp
    rw [e]
    exact ⟨a, c, by rw [← hl]; simp, hx.grownOther hown hg (by decide), hq⟩
/-- the first one lies below M, the others from M on -/
def At0 (M : Nat) (j b : Nat) : Prop := if j = 0 then b < M else M ≤ b
/-- wr is w but for what the own slice v of numbers holds, and for what is new -/
structure FillI (B : Nat) (v : Value) (n : Nat) (w wr : World) : Prop where
  os : wr.os = w.os
  tape : wr.tape = w.tape
  output : wr.output = w.output
  size : w.heap.size ≤ wr.heap.size
  block : ∀ b, b < w.heap.size → v.ownBlock ≠ some b → wr.heap[b]? = w.heap[b]?
  own : ∃ ys : List Int, ys.length = n ∧ wr.ownsRow B 3 1 v n (ys.map (Value.int .i64))
theorem FillI.start {B : Nat} {v : Value} {n : Nat} {w : World} {ys : List Int} (hl : ys.length = n) (h : OwnI 3 w B v ys) : FillI B v n w w := ⟨rfl, rfl, rfl, Nat.le_refl _, fun _ _ _ => rfl, ys, hl, by subst hl; exact h⟩
theorem FillI.up {B : Nat} {v : Value} {n : Nat} {w wr W : World} (h : FillI B v n w wr) (hb : Below wr.heap.size wr W) : FillI B v n w W := by
  obtain ⟨ys, hl, ho⟩ := h.own
  exact ⟨hb.os.trans h.os, hb.tape.trans h.tape, hb.output.trans h.output, Nat.le_trans h.size hb.size, fun b hb1 hb2 => (hb.block b (Nat.lt_of_lt_of_le hb1 h.size)).trans (h.block b hb1 hb2), ys, hl, rowUp ho hb⟩
theorem FillI.step {B g c : Nat} {n : Nat} {w wr : World} (h : FillI B (.slice (some ⟨g, 0, none⟩) n c) n w wr) (k : Nat) (x : Int) : FillI B (.slice (some ⟨g, 0, none⟩) n c) n w (wr.setCell ⟨g, k, none⟩ (.int .i64 x)) := by
  obtain ⟨ys, hl, ho⟩ := h.own
  refine ⟨h.os, h.tape, h.output, by have := h.size; simp [World.setCell]; exact this, fun b hb1 hb => ?_, ys.set k x, by simpa using hl, ?_⟩
  · rw [Below.heap_setCell _ _ _ _ (fun e => hb (by rw [e]; rfl))]
    exact h.block b hb1 hb
  · have := (ho.stored k (.int .i64 x)).1
    rw [List.map_set]
    exact this
theorem FillI.below {B D n : Nat} {v : Value} {w0 w wr : World} (h : FillI B v n w wr) (hD : D ≤ w.heap.size) (hb : Below D w0 w) (hv : ∀ b, v.ownBlock = some b → D ≤ b) : Below D w0 wr :=
  ⟨h.os.trans hb.os, h.tape.trans hb.tape, h.output.trans hb.output, Nat.le_trans hb.size h.size, fun k hk => (h.block k (Nat.lt_of_lt_of_le hk hD) (fun e => by have := hv k e; omega)).trans (hb.block k hk)⟩
theorem FillI.cell {B g c : Nat} {n : Nat} {w wr : World} (h : FillI B (.slice (some ⟨g, 0, none⟩) n c) n w wr) (k : Nat) (hk : k < n) : ∃ y, wr.cell? ⟨g, k, none⟩ = some (.int .i64 y) ∧ wr.frozen? ⟨g, k, none⟩ = false := by
  obtain ⟨ys, hl, ho⟩ := h.own
  have h1 := ho.cellAt k (by omega)
  have h2 : k < ys.length := by omega
  exact ⟨ys[k], by rw [h1]; simp [h2], ho.frozenAt k⟩
theorem FillI.ownI {B D n : Nat} {v u : Value} {xs : List Int} {w wr : World} (h : FillI B v n w wr) (hh : OwnI 3 w D u xs) (hv : ∀ b, v.ownBlock = some b → u.ownBlock ≠ some b) : OwnI 3 wr D u xs := by
  refine ⟨hh.1, ?_⟩
  rcases hh.2 with h' | ⟨g, cap, cur, rfl, hg, hc, r⟩
  · exact .inl h'
  · exact .inr ⟨g, cap, cur, rfl, hg, (h.block g (Array.getElem?_eq_some_iff.1 hc).1 (fun e => hv g e rfl)).trans hc, r⟩
end Go.Proofs.Ytnnpeblpdkeffaa
