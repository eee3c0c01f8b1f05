/- Pairs are compared by their keys; a row that the library has sorted. -/
import Derived.Test.YtenaddjnaeebbaaHamtGP
import Derived.Sort.OwnSorted
import Derived.Sort.Grow
import Derived.Shelf.GgSortFunc.RowK
namespace Go.Proofs.Ytenaddjnaeebbaa.hamt
open Go.RowKit Go.Sort

def cfI (x y : Int) : Int := if x < y then -1 else if y < x then 1 else 0
def cfP (p q : Int × Int) : Int := cfI p.1 q.1
set_option maxHeartbeats 1000000 in
theorem nan_walk (x : Int) (w : World) : Calls Try.prog 52 #[.int .i64 x] w fun e w' => e = .returned (.bool false) ∧ w = w' := by
  go_enter Try.func52, Try.ntmps52
  go_wp2_with fail
  go_ret
  exact ⟨rfl, rfl⟩
set_option maxHeartbeats 1000000 in
theorem cmp_walk (x y : Int) (w : World) : Calls Try.prog 35 #[.int .i64 x, .int .i64 y] w fun e w' => e = .returned (.int .i64 (cfI x y)) ∧ w = w' := by
  have HN := Lib.hid (fun z W => nan_walk z W)
  by_cases h1 : x < y
  · have e1 : cfI x y = -1 := if_pos h1
    rw [e1]
    go_enter Try.func35, Try.ntmps35
    go_wp2_with (go_at_call 52; refine (HN.out _ _).mono ?_; rintro e w' ⟨rfl, rfl⟩)
    go_ret
    exact ⟨rfl, rfl⟩
  · by_cases h2 : y < x
    · have e1 : cfI x y = 1 := by unfold cfI; rw [if_neg h1, if_pos h2]
      rw [e1]
      go_enter Try.func35, Try.ntmps35
      go_wp2_with (go_at_call 52; refine (HN.out _ _).mono ?_; rintro e w' ⟨rfl, rfl⟩)
      go_ret
      exact ⟨rfl, rfl⟩
    · have e1 : cfI x y = 0 := by unfold cfI; rw [if_neg h1, if_neg h2]
      rw [e1]
      go_enter Try.func35, Try.ntmps35
      go_wp2_with (go_at_call 52; refine (HN.out _ _).mono ?_; rintro e w' ⟨rfl, rfl⟩)
      go_ret
      exact ⟨rfl, rfl⟩
def encP (p : Int × Int) : List Value := [.int .i64 p.1, .int .i64 p.2]
set_option maxHeartbeats 1000000 in
theorem less_walk (p q : Int × Int) (W : World) : Calls Try.prog 34 #[.agg #[.int .i64 p.1, .int .i64 p.2], .agg #[.int .i64 q.1, .int .i64 q.2]] W fun e w' => e = .returned (.int .i64 (cfP p q)) ∧ ∃ n os', w' = grow (W.drewN n) os' := by
  have HC := Lib.hid (fun W => cmp_walk p.1 q.1 W)
  unfold cfP
  obtain ⟨r, hr⟩ : ∃ r, r = cfI p.1 q.1 := ⟨_, rfl⟩
  rw [← hr] at HC ⊢
  clear hr
  go_enter Try.func34, Try.ntmps34
  go_wp2_with fail
  refine (HC.out _).mono ?_
  rintro e w' ⟨rfl, rfl⟩
  go_wp2_with fail
  go_ret
  exact ⟨rfl, 0, _, by rw [alloc_eq_grow, alloc_eq_grow, grow_grow]; rfl⟩
theorem flat_cells (M : PL) : (flatK encP 2 M.toArray).toList = cellsP M := by
  apply List.ext_getElem?
  intro t
  by_cases ht : t < M.length * 2
  · have h1 : (flatK encP 2 M.toArray).toList[t]? = some (encP M.toArray[t / 2]!)[t % 2]! := by
      rw [Array.getElem?_toList]
      unfold flatK
      simp [ht]
    have hi : t / 2 < M.length := by omega
    have h2 := cellsP_at M (t / 2) hi
    have e : M.toArray[t / 2]! = M.getD (t / 2) (0, 0) := by simp [List.getD_eq_getElem?_getD, hi]
    rw [h1, e]
    rcases Nat.mod_two_eq_zero_or_one t with hm | hm
    · rw [hm, show t = t / 2 * 2 by omega, h2.1]; simp [encP]
    · have e2 : t = t / 2 * 2 + 1 := by omega
      rw [hm]
      conv => rhs; rw [e2]
      rw [h2.2]; simp [encP]
  · rw [List.getElem?_eq_none (by simp; omega), List.getElem?_eq_none (by rw [cellsP_length]; omega)]
theorem holds_row {w : World} {g : Nat} {cur : Array Value} {e : TypeId} {L : PL} (hb : w.heap[g]? = some (.cells cur e (0, 0))) (ht : cur.toList.take (L.length * 2) = cellsP L) : HoldsK encP 2 w g 0 L.toArray := by
  intro j hj
  have hj' : j < L.length * 2 := by simpa using hj
  refine ⟨?_, node_f hb⟩
  have h1 : (cur.toList.take (L.length * 2))[j]? = (cellsP L)[j]? := by rw [ht]
  rw [List.getElem?_take_of_lt hj', ← flat_cells] at h1
  rw [Nat.zero_add, cellAtIn hb, ← Array.getElem?_toList, h1, Array.getElem?_toList]
  have hj2 : j < (flatK encP 2 L.toArray).size := by simpa using hj'
  rw [Array.getElem?_eq_getElem hj2, getElem!_pos _ j hj2]
  rfl
theorem heap_sortedP {w : World} {g n : Nat} {os : Array Obj} {cur F : Array Value} {e : TypeId} {fr : Nat × Nat} (hb : w.heap[g]? = some (.cells cur e fr)) :
    (grow (putRow id (Sort.ahead w n) g 0 F) os).heap[g]? = some (.cells (putCells id 0 F cur) e fr) := by
  have hg : g < w.heap.size := (Array.getElem?_eq_some_iff.1 hb).1
  rw [heap_grow_old _ _ (by simpa using hg)]
  simp [putRow, mapBlock, Sort.ahead, Array.getElem?_modify, hb, onCells]
theorem grownBy_sortedP {w : World} {g n : Nat} {os : Array Obj} (F : Array Value) : w.grownBy (grow (putRow id (Sort.ahead w n) g 0 F) os) (some g) := by
  refine ⟨rfl, rfl, rfl, by simp, fun k hk hne => ?_⟩
  rw [heap_grow_old _ _ (by simpa using hk)]
  have : g ≠ k := fun e => hne (by rw [e])
  simp [putRow, mapBlock, Sort.ahead, Array.getElem?_modify, this]
theorem take_putP (cur F : Array Value) (h : F.size ≤ cur.size) : (putCells id 0 F cur).toList.take F.size = F.toList := by
  apply List.ext_getElem?
  intro j
  by_cases hj : j < F.size
  · rw [List.getElem?_take_of_lt hj, Array.getElem?_toList]
    simp [putCells, hj, show j < cur.size by omega]
  · rw [List.getElem?_take_eq_none (by omega), List.getElem?_eq_none (by simp; omega)]
/-- behind the sort the same slice owns the sorted list -/
theorem row_sorted {w : World} {base g cap m n : Nat} {os : Array Obj} {L M : PL} (ho : w.ownsRow base 31 2 (.slice (some ⟨g, 0, none⟩) n cap) n (cellsP L)) (hl : M.length = n) :
    (grow (putRowK encP 2 (Sort.ahead w m) g 0 M.toArray) os).ownsRow base 31 2 (.slice (some ⟨g, 0, none⟩) n cap) n (cellsP M) := by
  rcases ho.2 with ⟨h0, _⟩ | ⟨g', cap', cur, hv, hB, hg, hnc, hcm, hcs, ht⟩
  · cases h0
  · cases hv
    refine ⟨by rw [cellsP_length, hl], .inr ⟨g, cap, _, rfl, hB, heap_sortedP hg, hnc, hcm, by simp [putCells, hcs], ?_⟩⟩
    have hs : (flatK encP 2 M.toArray).size = n * 2 := by simp [hl]
    have h := take_putP cur (flatK encP 2 M.toArray) (by rw [hs, hcs]; omega)
    rw [hs] at h
    rw [h, flat_cells]
end Go.Proofs.Ytenaddjnaeebbaa.hamt
