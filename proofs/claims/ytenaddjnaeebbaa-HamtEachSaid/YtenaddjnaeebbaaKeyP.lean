/- Plain laws of lists of pairs with rising keys. -/
import Derived.Test.YtenaddjnaeebbaaKeyed
namespace Go.Proofs.Ytenaddjnaeebbaa
open Go.RowKit

def RisingI : List (Int × Int) → Prop
  | [] => True
  | p :: t => (∀ q ∈ t, p.1 < q.1) ∧ RisingI t
theorem valued_none {l : List (Int × Int)} {k : Int} (h : ∀ p ∈ l, p.1 ≠ k) : valued l k = none := by
  induction l with
  | nil => rfl
  | cons p t ih =>
    simp only [valued]
    rw [if_neg (h p (by simp))]
    exact ih fun q hq => h q (List.mem_cons_of_mem _ hq)
theorem valued_mem {l : List (Int × Int)} {k v : Int} (h : valued l k = some v) : (k, v) ∈ l := by
  induction l with
  | nil => cases h
  | cons p t ih =>
    simp only [valued] at h
    by_cases e : p.1 = k
    · rw [if_pos e] at h
      cases h
      rw [← e]
      exact List.mem_cons_self
    · rw [if_neg e] at h
      exact List.mem_cons_of_mem _ (ih h)
theorem valued_app (l r : List (Int × Int)) (k : Int) : valued (l ++ r) k = (valued l k).or (valued r k) := by
  induction l with
  | nil => rfl
  | cons p t ih =>
    simp only [List.cons_append, valued]
    by_cases e : p.1 = k
    · simp [e]
    · simp only [if_neg e]; exact ih
theorem valued_filter (t : Int × Int → Bool) (g : Int → Bool) (ht : ∀ p, t p = g p.1) (l : List (Int × Int)) (k : Int) : valued (l.filter t) k = if g k = true then valued l k else none := by
  induction l with
  | nil => simp [valued]
  | cons p l ih =>
    rw [List.filter_cons, ht]
    by_cases hg : g p.1 = true
    · rw [if_pos hg]
      simp only [valued]
      by_cases e : p.1 = k
      · rw [if_pos e, if_pos e, ← e, if_pos hg]
      · rw [if_neg e, if_neg e]; exact ih
    · rw [if_neg hg, ih]
      by_cases e : p.1 = k
      · rw [← e, if_neg hg, if_neg hg]
      · simp only [valued, if_neg e]
theorem RisingI.append {l r : List (Int × Int)} (hl : RisingI l) (hr : RisingI r) (h : ∀ p ∈ l, ∀ q ∈ r, p.1 < q.1) : RisingI (l ++ r) := by
  induction l with
  | nil => exact hr
  | cons p t ih =>
    refine ⟨fun q hq => ?_, ih hl.2 fun p hp q hq => h p (List.mem_cons_of_mem _ hp) q hq⟩
    rcases List.mem_append.1 hq with hq | hq
    · exact hl.1 q hq
    · exact h p List.mem_cons_self q hq
theorem RisingI.filter {l : List (Int × Int)} (h : RisingI l) (t : Int × Int → Bool) : RisingI (l.filter t) := by
  induction l with
  | nil => trivial
  | cons p l ih =>
    rw [List.filter_cons]
    split
    · exact ⟨fun q hq => h.1 q (List.mem_filter.1 hq).1, ih h.2⟩
    · exact ih h.2
theorem risingI_ext : ∀ {l r : List (Int × Int)}, RisingI l → RisingI r → (∀ k, valued l k = valued r k) → l = r
  | [], [], _, _, _ => rfl
  | [], (k, v) :: t, _, _, h => by have := h k; simp [valued] at this
  | (k, v) :: t, [], _, _, h => by have := h k; simp [valued] at this
  | (k, v) :: t, (k', v') :: t', h1, h2, h => by
    have n1 : ∀ j, j ≤ k → valued t j = none := fun j hj => valued_none fun p hp => by have := h1.1 p hp; simp at this; omega
    have n2 : ∀ j, j ≤ k' → valued t' j = none := fun j hj => valued_none fun p hp => by have := h2.1 p hp; simp at this; omega
    have e : k = k' := by
      rcases Int.lt_trichotomy k k' with hlt | rfl | hgt
      · have := h k
        simp only [valued, if_pos trivial] at this
        rw [if_neg (by omega), n2 k (by omega)] at this
        cases this
      · rfl
      · have := h k'
        simp only [valued] at this
        rw [if_neg (by omega), n1 k' (by omega)] at this
        simp at this
    subst e
    have hv := h k
    simp only [valued, if_true] at hv
    cases hv
    rw [risingI_ext h1.2 h2.2 fun j => ?_]
    have hj := h j
    simp only [valued] at hj
    by_cases e : k = j
    · subst e; rw [n1 k (by omega), n2 k (by omega)]
    · simpa only [if_neg e] using hj

theorem keyed_rising {l : List (Int × Int)} (h : RisingI l) (k v : Int) : RisingI (keyed l k v) := by
  refine RisingI.append (h.filter _) ⟨fun q hq => ?_, h.filter _⟩ fun p hp q hq => ?_
  · exact of_decide_eq_true (List.mem_filter.1 hq).2
  · have h1 : p.1 < k := of_decide_eq_true (List.mem_filter.1 hp).2
    rcases List.mem_cons.1 hq with rfl | hq
    · exact h1
    · have h2 : k < q.1 := of_decide_eq_true (List.mem_filter.1 hq).2
      omega
theorem valued_keyed (l : List (Int × Int)) (k v j : Int) : valued (keyed l k v) j = if j = k then some v else valued l j := by
  unfold keyed
  rw [valued_app, valued_filter (lessK k) (fun x => decide (x < k)) (fun _ => rfl)]
  simp only [valued]
  rw [valued_filter (moreK k) (fun x => decide (k < x)) (fun _ => rfl)]
  by_cases e : j = k
  · subst e; simp
  · rw [if_neg e, if_neg (Ne.symm e)]
    by_cases h : j < k
    · have h2 : ¬ k < j := by omega
      simp [h, h2]
    · have h2 : k < j := by omega
      simp [h, h2]
theorem unkeyed_rising {l : List (Int × Int)} (h : RisingI l) (k : Int) : RisingI (unkeyed l k) := h.filter _
theorem valued_unkeyed (l : List (Int × Int)) (k j : Int) : valued (unkeyed l k) j = if j = k then none else valued l j := by
  unfold unkeyed
  rw [valued_filter (otherK k) (fun x => decide (x ≠ k)) (fun _ => rfl)]
  by_cases e : j = k
  · simp [e]
  · simp [e]
end Go.Proofs.Ytenaddjnaeebbaa
