/- Heaps that hang to the left, as plain trees: merging keeps all numbers, and what is on top is the least. No program stands here. -/
import Derived.Test.YtnigadnjppeckaaBase
namespace Go.Proofs.Ytnigadnjppeckaa.left

abbrev A := Int
/-- how many are met to the right -/
def sp : BT A → Nat
  | .nil => 0
  | .node _ _ r => sp r + 1
def mk (x : A) (a b : BT A) : BT A := if sp a < sp b then .node x b a else .node x a b
def merge : Nat → BT A → BT A → BT A
  | 0, a, _ => a
  | _ + 1, .nil, b => b
  | _ + 1, a, .nil => a
  | n + 1, .node x al ar, .node y bl br => if y < x then mk y bl (merge n br (.node x al ar)) else mk x al (merge n ar (.node y bl br))
def mrg (a b : BT A) : BT A := merge (a.size + b.size) a b

theorem size_mk (x : A) (a b : BT A) : (mk x a b).size = 1 + a.size + b.size := by
  unfold mk
  split <;> simp only [BT.size] <;> omega
theorem sp_le (t : BT A) : sp t ≤ t.size := by
  induction t with
  | nil => simp [sp]
  | node x l r ihl ihr => simp only [sp, BT.size]; omega
theorem size_pos_of_node (x : A) (l r : BT A) : 0 < (BT.node x l r).size := by simp only [BT.size]; omega

theorem size_merge (n : Nat) : ∀ a b : BT A, a.size + b.size ≤ n → (merge n a b).size = a.size + b.size := by
  induction n with
  | zero =>
    intro a b h
    cases a with
    | nil => cases b with
      | nil => rfl
      | node y bl br => simp only [BT.size] at h; omega
    | node x al ar => simp only [BT.size] at h; omega
  | succ n ih =>
    intro a b h
    cases a with
    | nil => simp [merge, BT.size]
    | node x al ar =>
      cases b with
      | nil => simp [merge, BT.size]
      | node y bl br =>
        simp only [BT.size] at h
        simp only [merge]
        split
        · rw [size_mk, ih _ _ (by simp only [BT.size]; omega)]
          simp only [BT.size]
          omega
        · rw [size_mk, ih _ _ (by simp only [BT.size]; omega)]
          simp only [BT.size]
          omega
theorem size_mrg (a b : BT A) : (mrg a b).size = a.size + b.size := size_merge _ a b (Nat.le_refl _)

/-- more fuel than is wanted makes no difference -/
theorem merge_fuel (n : Nat) : ∀ (m : Nat) (a b : BT A), a.size + b.size ≤ n → a.size + b.size ≤ m → merge n a b = merge m a b := by
  induction n with
  | zero =>
    intro m a b h _
    cases a with
    | node x al ar => simp only [BT.size] at h; omega
    | nil => cases b with
      | node y bl br => simp only [BT.size] at h; omega
      | nil => cases m <;> simp [merge]
  | succ n ih =>
    intro m a b h h'
    cases m with
    | zero =>
      cases a with
      | node x al ar => simp only [BT.size] at h'; omega
      | nil => cases b with
        | node y bl br => simp only [BT.size] at h'; omega
        | nil => simp [merge]
    | succ m =>
      cases a with
      | nil => simp [merge]
      | node x al ar =>
        cases b with
        | nil => simp [merge]
        | node y bl br =>
          simp only [BT.size] at h h'
          simp only [merge]
          rw [ih m br (.node x al ar) (by simp only [BT.size]; omega) (by simp only [BT.size]; omega), ih m ar (.node y bl br) (by simp only [BT.size]; omega) (by simp only [BT.size]; omega)]
theorem mrg_nil (b : BT A) : mrg .nil b = b := by
  unfold mrg
  cases b with
  | nil => rfl
  | node y l r =>
    have : BT.size (.nil : BT A) + (BT.node y l r).size = (l.size + r.size) + 1 := by simp only [BT.size]; omega
    rw [this]
    simp [merge]
theorem mrg_nil' (a : BT A) : mrg a .nil = a := by
  unfold mrg
  cases a with
  | nil => rfl
  | node y l r =>
    have : (BT.node y l r).size + BT.size (.nil : BT A) = (l.size + r.size) + 1 := by simp only [BT.size]; omega
    rw [this]
    simp [merge]
theorem mrg_node (x : A) (al ar : BT A) (y : A) (bl br : BT A) : mrg (.node x al ar) (.node y bl br) = if y < x then mk y bl (mrg br (.node x al ar)) else mk x al (mrg ar (.node y bl br)) := by
  have e : (BT.node x al ar).size + (BT.node y bl br).size = (al.size + ar.size + bl.size + br.size + 1) + 1 := by simp only [BT.size]; omega
  have h : mrg (.node x al ar) (.node y bl br) = merge ((al.size + ar.size + bl.size + br.size + 1) + 1) (.node x al ar) (.node y bl br) := by
    unfold mrg
    rw [e]
  rw [h]
  simp only [merge]
  rw [merge_fuel (al.size + ar.size + bl.size + br.size + 1) (br.size + (BT.node x al ar).size) br (.node x al ar) (by simp only [BT.size]; omega) (Nat.le_refl _),
    merge_fuel (al.size + ar.size + bl.size + br.size + 1) (ar.size + (BT.node y bl br).size) ar (.node y bl br) (by simp only [BT.size]; omega) (Nat.le_refl _)]
  rfl

/-- all that goes out, one by one -/
def popAll : Nat → BT A → List Int
  | 0, _ => []
  | _ + 1, .nil => []
  | n + 1, .node x l r => x :: popAll n (mrg l r)
def ints (t : BT A) : List Int := popAll t.size t
theorem popAll_fuel (n : Nat) : ∀ (m : Nat) (t : BT A), t.size ≤ n → t.size ≤ m → popAll n t = popAll m t := by
  induction n with
  | zero =>
    intro m t h _
    cases t with
    | nil => cases m <;> rfl
    | node x l r => simp only [BT.size] at h; omega
  | succ n ih =>
    intro m t h h'
    cases t with
    | nil => cases m <;> rfl
    | node x l r =>
      cases m with
      | zero => simp only [BT.size] at h'; omega
      | succ m =>
        simp only [popAll]
        have e := size_mrg l r
        simp only [BT.size] at h h'
        rw [ih m (mrg l r) (by omega) (by omega)]
theorem ints_nil : ints .nil = [] := rfl
theorem ints_node (x : A) (l r : BT A) : ints (.node x l r) = x :: ints (mrg l r) := by
  unfold ints
  have e := size_mrg l r
  have h : (BT.node x l r).size = (l.size + r.size) + 1 := by simp only [BT.size]; omega
  rw [h, popAll, e]
theorem ints_length (t : BT A) : (ints t).length = t.size := by
  suffices h : ∀ n (t : BT A), t.size ≤ n → (popAll n t).length = t.size from h _ t (Nat.le_refl _)
  intro n
  induction n with
  | zero =>
    intro t h
    cases t with
    | nil => rfl
    | node x l r => simp only [BT.size] at h; omega
  | succ n ih =>
    intro t h
    cases t with
    | nil => rfl
    | node x l r =>
      have e := size_mrg l r
      simp only [BT.size] at h
      simp only [popAll, List.length_cons, BT.size]
      rw [ih _ (by omega)]
      omega
end Go.Proofs.Ytnigadnjppeckaa.left
