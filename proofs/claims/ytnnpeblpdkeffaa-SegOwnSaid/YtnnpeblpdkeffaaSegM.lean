/- Package seg: its parts in memory. -/
import Derived.Test.YtnnpeblpdkeffaaSegP
import Derived.Test.YtnnpeblpdkeffaaTwo
import Derived.Test.YtnnpeblpdkeffaaRows
namespace Go.Proofs.Ytnnpeblpdkeffaa.seg
open Go.RowKit Go

def pc (p : Part) : List Value := [.int .i64 p.sum, .int .i64 p.least, .int .i64 p.most, .bool p.put, .int .i64 p.what, .int .i64 p.more]
/-- s leads to a segment over n numbers whose parts, M of them, lie in block pb -/
structure SM (s pb M n : Nat) (P : PF) (w : World) : Prop where
  hs : w.heap[s]? = some (.cells #[.int .i64 n, .slice (some ⟨pb, 0, none⟩) M M] 52 (0, 0))
  hp : ∃ cur : Array Value, w.heap[pb]? = some (.cells cur 55 (0, 0)) ∧ ∀ i j, i < M → j < 6 → cur[i * 6 + j]? = (pc (P i))[j]?
  ne : s ≠ pb
/-- only block pb may have changed -/
structure On (pb : Nat) (w w' : World) : Prop where
  os : w'.os = w.os
  tape : w'.tape = w.tape
  output : w'.output = w.output
  size : w.heap.size ≤ w'.heap.size
  block : ∀ k, k < w.heap.size → k ≠ pb → w'.heap[k]? = w.heap[k]?
theorem On.refl (pb : Nat) (w : World) : On pb w w := ⟨rfl, rfl, rfl, Nat.le_refl _, fun _ _ _ => rfl⟩
theorem On.trans {pb : Nat} {w w1 w2 : World} (h : On pb w w1) (h' : On pb w1 w2) : On pb w w2 :=
  ⟨h'.os.trans h.os, h'.tape.trans h.tape, h'.output.trans h.output, Nat.le_trans h.size h'.size, fun k hk hp => (h'.block k (Nat.lt_of_lt_of_le hk h.size) hp).trans (h.block k hk hp)⟩
theorem On.set (pb o : Nat) (w : World) (v : Value) : On pb w (w.setCell ⟨pb, o, none⟩ v) :=
  ⟨rfl, rfl, rfl, by simp [World.setCell], fun k _ hp => Below.heap_setCell _ _ _ _ hp⟩
theorem On.below {pb : Nat} {w w' : World} (h : Below w.heap.size w w') : On pb w w' := ⟨h.os, h.tape, h.output, h.size, fun k hk _ => h.block k hk⟩
theorem On.to {pb : Nat} {w0 w w' : World} (h : On pb w w') (hb : Below w0.heap.size w0 w) (hp : w0.heap.size ≤ pb) : Below w0.heap.size w0 w' :=
  ⟨h.os.trans hb.os, h.tape.trans hb.tape, h.output.trans hb.output, Nat.le_trans hb.size h.size, fun k hk => (h.block k (Nat.lt_of_lt_of_le hk hb.size) (by omega)).trans (hb.block k hk)⟩
theorem SM.cells {s pb M n : Nat} {P : PF} {w : World} (h : SM s pb M n P w) {i : Nat} (hi : i < M) :
    w.cell? ⟨pb, i * 6, none⟩ = some (.int .i64 (P i).sum) ∧ w.cell? ⟨pb, i * 6 + 1, none⟩ = some (.int .i64 (P i).least) ∧ w.cell? ⟨pb, i * 6 + 2, none⟩ = some (.int .i64 (P i).most) ∧
    w.cell? ⟨pb, i * 6 + 3, none⟩ = some (.bool (P i).put) ∧ w.cell? ⟨pb, i * 6 + 4, none⟩ = some (.int .i64 (P i).what) ∧ w.cell? ⟨pb, i * 6 + 5, none⟩ = some (.int .i64 (P i).more) := by
  obtain ⟨cur, hc, hx⟩ := h.hp
  refine ⟨?_, ?_, ?_, ?_, ?_, ?_⟩
  · rw [cell_of_row w pb (i * 6) cur _ _ hc]; exact hx i 0 hi (by omega)
  · rw [cell_of_row w pb (i * 6 + 1) cur _ _ hc]; exact hx i 1 hi (by omega)
  · rw [cell_of_row w pb (i * 6 + 2) cur _ _ hc]; exact hx i 2 hi (by omega)
  · rw [cell_of_row w pb (i * 6 + 3) cur _ _ hc]; exact hx i 3 hi (by omega)
  · rw [cell_of_row w pb (i * 6 + 4) cur _ _ hc]; exact hx i 4 hi (by omega)
  · rw [cell_of_row w pb (i * 6 + 5) cur _ _ hc]; exact hx i 5 hi (by omega)
theorem SM.free {s pb M n : Nat} {P : PF} {w : World} (h : SM s pb M n P w) (o : Nat) : w.frozen? ⟨pb, o, none⟩ = false := by
  obtain ⟨cur, hc, _⟩ := h.hp
  simp [World.frozen?, hc]
theorem SM.head {s pb M n : Nat} {P : PF} {w : World} (h : SM s pb M n P w) : w.cell? ⟨s, 0, none⟩ = some (.int .i64 n) ∧ w.cell? ⟨s, 1, none⟩ = some (.slice (some ⟨pb, 0, none⟩) M M) := by
  refine ⟨?_, ?_⟩ <;> simp [World.cell?, h.hs]
theorem SM.below {s pb M n : Nat} {P : PF} {w w' : World} (h : SM s pb M n P w) (hb : Below w.heap.size w w') : SM s pb M n P w' := by
  obtain ⟨cur, hc, hx⟩ := h.hp
  exact ⟨upb hb h.hs, ⟨cur, upb hb hc, hx⟩, h.ne⟩
/-- one cell of a part is set -/
theorem SM.set {s pb M n : Nat} {P : PF} {w : World} (h : SM s pb M n P w) {i j : Nat} {v : Value} {p : Part} (hi : i < M) (hj : j < 6) (hp : ∀ k, k < 6 → (pc p)[k]? = if k = j then some v else (pc (P i))[k]?) :
    SM s pb M n (updP P i p) (w.setCell ⟨pb, i * 6 + j, none⟩ v) := by
  obtain ⟨cur, hc, hx⟩ := h.hp
  refine ⟨?_, ⟨cur.setIfInBounds (i * 6 + j) v, ?_, ?_⟩, h.ne⟩
  · rw [Below.heap_setCell _ _ _ _ h.ne]
    exact h.hs
  · have hb := (Array.getElem?_eq_some_iff.1 hc).1
    simp [World.setCell, Array.getElem?_modify, hc]
  · intro i' j' hi' hj'
    have hin : i * 6 + j < cur.size := by
      have h1 := hx i j hi hj
      have h2 : j < (pc (P i)).length := hj
      rw [List.getElem?_eq_getElem h2] at h1
      exact (Array.getElem?_eq_some_iff.1 h1).1
    rw [Array.getElem?_setIfInBounds]
    by_cases e : i * 6 + j = i' * 6 + j'
    · obtain rfl : i = i' := by omega
      obtain rfl : j = j' := by omega
      rw [if_pos rfl, if_pos hin, updP_same, hp j hj, if_pos rfl]
    · rw [if_neg e, hx i' j' hi' hj']
      by_cases e2 : i' = i
      · subst e2
        rw [updP_same, hp j' hj', if_neg (by omega)]
      · rw [updP_other _ _ e2]
theorem SM.setSum {s pb M n : Nat} {P : PF} {w : World} (h : SM s pb M n P w) {i : Nat} (hi : i < M) (z : Int) : SM s pb M n (updP P i { P i with sum := z }) (w.setCell ⟨pb, i * 6, none⟩ (.int .i64 z)) :=
  h.set (j := 0) hi (by omega) (fun k hk => by rcases k with _ | _ | _ | _ | _ | _ | k <;> simp [pc] <;> omega)
theorem SM.setLeast {s pb M n : Nat} {P : PF} {w : World} (h : SM s pb M n P w) {i : Nat} (hi : i < M) (z : Int) : SM s pb M n (updP P i { P i with least := z }) (w.setCell ⟨pb, i * 6 + 1, none⟩ (.int .i64 z)) :=
  h.set (j := 1) hi (by omega) (fun k hk => by rcases k with _ | _ | _ | _ | _ | _ | k <;> simp [pc] <;> omega)
theorem SM.setMost {s pb M n : Nat} {P : PF} {w : World} (h : SM s pb M n P w) {i : Nat} (hi : i < M) (z : Int) : SM s pb M n (updP P i { P i with most := z }) (w.setCell ⟨pb, i * 6 + 2, none⟩ (.int .i64 z)) :=
  h.set (j := 2) hi (by omega) (fun k hk => by rcases k with _ | _ | _ | _ | _ | _ | k <;> simp [pc] <;> omega)
theorem SM.setPut {s pb M n : Nat} {P : PF} {w : World} (h : SM s pb M n P w) {i : Nat} (hi : i < M) (z : Bool) : SM s pb M n (updP P i { P i with put := z }) (w.setCell ⟨pb, i * 6 + 3, none⟩ (.bool z)) :=
  h.set (j := 3) hi (by omega) (fun k hk => by rcases k with _ | _ | _ | _ | _ | _ | k <;> simp [pc] <;> omega)
theorem SM.setWhat {s pb M n : Nat} {P : PF} {w : World} (h : SM s pb M n P w) {i : Nat} (hi : i < M) (z : Int) : SM s pb M n (updP P i { P i with what := z }) (w.setCell ⟨pb, i * 6 + 4, none⟩ (.int .i64 z)) :=
  h.set (j := 4) hi (by omega) (fun k hk => by rcases k with _ | _ | _ | _ | _ | _ | k <;> simp [pc] <;> omega)
theorem SM.setMore {s pb M n : Nat} {P : PF} {w : World} (h : SM s pb M n P w) {i : Nat} (hi : i < M) (z : Int) : SM s pb M n (updP P i { P i with more := z }) (w.setCell ⟨pb, i * 6 + 5, none⟩ (.int .i64 z)) :=
  h.set (j := 5) hi (by omega) (fun k hk => by rcases k with _ | _ | _ | _ | _ | _ | k <;> simp [pc] <;> omega)
end Go.Proofs.Ytnnpeblpdkeffaa.seg
