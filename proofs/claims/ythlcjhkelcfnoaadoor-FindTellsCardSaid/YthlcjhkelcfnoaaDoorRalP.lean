/- Plain laws of package ral: a number at a place of perfect trees, another one there. -/
import Derived.Test.YthlcjhkelcfnoaaDoorRalInts
namespace Go.Proofs.YthlcjhkelcfnoaaDoor.ral
open Go.RowKit

/-- a tree with another number at a place -/
def setT : BT Int → Nat → Int → BT Int
  | .nil, _, _ => .nil
  | .node a l r, i, x => if i = 0 then .node x l r else if i ≤ l.size then .node a (setT l (i - 1) x) r else .node a l (setT r (i - 1 - l.size) x)
theorem size_setT (t : BT Int) : ∀ (i : Nat) (x : Int), (setT t i x).size = t.size := by
  induction t with
  | nil => intros; rfl
  | node a l r ihl ihr =>
    intro i x
    unfold setT
    split
    · rfl
    · split
      · simp only [BT.size, ihl]
      · simp only [BT.size, ihr]
theorem perf_setT (t : BT Int) : ∀ (i : Nat) (x : Int), Perf t → Perf (setT t i x) := by
  induction t with
  | nil => intros; trivial
  | node a l r ihl ihr =>
    rintro i x ⟨e, hl, hr⟩
    unfold setT
    split
    · exact ⟨e, hl, hr⟩
    · split
      · exact ⟨by rw [size_setT]; exact e, ihl _ _ hl, hr⟩
      · exact ⟨by rw [size_setT]; exact e, hl, ihr _ _ hr⟩
theorem pre_setT (t : BT Int) : ∀ (i : Nat) (x : Int), i < t.size → pre (setT t i x) = (pre t).set i x := by
  induction t with
  | nil => intro i x h; simp [BT.size] at h
  | node a l r ihl ihr =>
    intro i x h
    simp only [BT.size] at h
    unfold setT
    by_cases h0 : i = 0
    · subst h0; simp [pre]
    · obtain ⟨k, rfl⟩ : ∃ k, i = k + 1 := ⟨i - 1, by omega⟩
      rw [if_neg h0]
      by_cases hk : k + 1 ≤ l.size
      · rw [if_pos hk]
        simp only [pre, Nat.add_sub_cancel, List.set_cons_succ]
        rw [ihl k x (by omega), List.set_append_left _ _ (by rw [length_pre]; omega)]
      · rw [if_neg hk]
        simp only [pre, Nat.add_sub_cancel, List.set_cons_succ]
        rw [ihr _ x (by omega), List.set_append_right _ _ (by rw [length_pre]; omega), length_pre]
theorem get_zero (a : Int) (l r : BT Int) : (pre (.node a l r)).getD 0 0 = a := rfl
theorem get_left (a : Int) (l r : BT Int) (k : Nat) (h : k < l.size) : (pre (.node a l r)).getD (k + 1) 0 = (pre l).getD k 0 := by
  simp only [pre, List.getD_eq_getElem?_getD, List.getElem?_cons_succ]
  rw [List.getElem?_append_left (by rw [length_pre]; exact h)]
theorem get_right (a : Int) (l r : BT Int) (k : Nat) (h : l.size ≤ k) : (pre (.node a l r)).getD (k + 1) 0 = (pre r).getD (k - l.size) 0 := by
  simp only [pre, List.getD_eq_getElem?_getD, List.getElem?_cons_succ]
  rw [List.getElem?_append_right (by rw [length_pre]; exact h), length_pre]

/-- trees with another number at a place -/
def setS : List (BT Int) → Nat → Int → List (BT Int)
  | [], _, _ => []
  | t :: ts, i, x => if i < t.size then setT t i x :: ts else t :: setS ts (i - t.size) x
theorem elems_setS (ts : List (BT Int)) : ∀ (i : Nat) (x : Int), elems (setS ts i x) = (elems ts).set i x := by
  induction ts with
  | nil => intros; rfl
  | cons t ts ih =>
    intro i x
    unfold setS
    by_cases h : i < t.size
    · rw [if_pos h]
      simp only [elems]
      rw [pre_setT _ _ _ h, List.set_append_left _ _ (by rw [length_pre]; exact h)]
    · rw [if_neg h]
      simp only [elems]
      rw [ih, List.set_append_right _ _ (by rw [length_pre]; omega), length_pre]
theorem total_setS (ts : List (BT Int)) (i : Nat) (x : Int) : total (setS ts i x) = total ts := by
  rw [← length_elems, ← length_elems, elems_setS, List.length_set]
theorem wf_setS (ts : List (BT Int)) : ∀ (i : Nat) (x : Int), WF ts → WF (setS ts i x) := by
  induction ts with
  | nil => intro i x h; exact h
  | cons t ts ih =>
    intro i x h
    unfold setS
    split
    · intro u hu
      rcases List.mem_cons.1 hu with rfl | hu
      · exact perf_setT _ _ _ (h t (by simp))
      · exact h u (by simp [hu])
    · intro u hu
      rcases List.mem_cons.1 hu with rfl | hu
      · exact h _ (by simp)
      · exact ih _ _ (fun v hv => h v (by simp [hv])) u hu
theorem elems_here (t : BT Int) (ts : List (BT Int)) (i : Nat) (h : i < t.size) : (elems (t :: ts)).getD i 0 = (pre t).getD i 0 := by
  simp only [elems, List.getD_eq_getElem?_getD]
  rw [List.getElem?_append_left (by rw [length_pre]; exact h)]
theorem elems_there (t : BT Int) (ts : List (BT Int)) (i : Nat) (h : t.size ≤ i) : (elems (t :: ts)).getD i 0 = (elems ts).getD (i - t.size) 0 := by
  simp only [elems, List.getD_eq_getElem?_getD]
  rw [List.getElem?_append_right (by rw [length_pre]; exact h), length_pre]
end Go.Proofs.YthlcjhkelcfnoaaDoor.ral
