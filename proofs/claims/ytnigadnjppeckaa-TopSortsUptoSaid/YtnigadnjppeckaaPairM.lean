/- Heaps that meet in pairs, as plain trees (left: those under it, right: the next one). No program stands here. -/
import Derived.Test.YtnigadnjppeckaaBase
namespace Go.Proofs.Ytnigadnjppeckaa.pair

abbrev A := Int
def meet : BT A → BT A → BT A
  | .nil, b => b
  | .node x k n, .nil => .node x k n
  | .node x k _, .node y k' _ => if y < x then .node y (.node x k k') .nil else .node x (.node y k' k) .nil
def pairsOf : BT A → List (BT A)
  | .nil => []
  | .node x k .nil => [.node x k .nil]
  | .node x k (.node y k' n) => meet (.node x k (.node y k' n)) (.node y k' n) :: pairsOf n
def paired (l : BT A) : BT A := (pairsOf l).foldr meet .nil

/-- how many are in a heap: what is next to its top is none of it -/
def hsz : BT A → Nat
  | .nil => 0
  | .node _ k _ => 1 + k.size
theorem hsz_meet (a b : BT A) : hsz (meet a b) = hsz a + hsz b := by
  cases a with
  | nil => simp [meet, hsz]
  | node x k n =>
    cases b with
    | nil => simp [meet, hsz]
    | node y k' n' =>
      simp only [meet]
      split <;> simp only [hsz, BT.size] <;> omega
theorem meet_nil (a : BT A) : meet a .nil = a := by cases a <;> rfl
theorem meet_nil' (a : BT A) : meet .nil a = a := by cases a <;> rfl
def total : List (BT A) → Nat
  | [] => 0
  | a :: l => hsz a + total l
theorem hsz_foldr (l : List (BT A)) : hsz (l.foldr meet .nil) = total l := by
  induction l with
  | nil => rfl
  | cons a l ih => rw [List.foldr_cons, hsz_meet, ih]; rfl
theorem total_pairs (n : Nat) : ∀ l : BT A, l.size ≤ n → total (pairsOf l) = l.size := by
  induction n with
  | zero =>
    intro l h
    cases l with
    | nil => rfl
    | node x k r => simp only [BT.size] at h; omega
  | succ n ih =>
    intro l h
    cases l with
    | nil => rfl
    | node x k r =>
      cases r with
      | nil => simp only [pairsOf, total, hsz, BT.size]
      | node y k' r =>
        simp only [BT.size] at h
        rw [pairsOf, total, hsz_meet, ih r (by omega)]
        simp only [hsz, BT.size]
        omega
theorem length_pairs (n : Nat) : ∀ l : BT A, l.size ≤ n → (pairsOf l).length ≤ l.size := by
  induction n with
  | zero =>
    intro l h
    cases l with
    | nil => exact Nat.le_refl _
    | node x k r => simp only [BT.size] at h; omega
  | succ n ih =>
    intro l h
    cases l with
    | nil => exact Nat.le_refl _
    | node x k r =>
      cases r with
      | nil => simp only [pairsOf, List.length_cons, List.length_nil, BT.size]; omega
      | node y k' r =>
        simp only [BT.size] at h
        have := ih r (by omega)
        rw [pairsOf, List.length_cons]
        simp only [BT.size]
        omega
theorem hsz_paired (l : BT A) : hsz (paired l) = l.size := by rw [paired, hsz_foldr, total_pairs _ l (Nat.le_refl _)]

/-- all that goes out, one by one -/
def popAll : Nat → BT A → List Int
  | 0, _ => []
  | _ + 1, .nil => []
  | n + 1, .node x k _ => x :: popAll n (paired k)
def ints (t : BT A) : List Int := popAll (hsz t) t
theorem ints_nil : ints .nil = [] := rfl
theorem ints_node (x : A) (k r : BT A) : ints (.node x k r) = x :: ints (paired k) := by
  unfold ints
  have h : hsz (.node x k r) = k.size + 1 := by simp only [hsz]; omega
  rw [h, popAll, hsz_paired]
theorem ints_length (t : BT A) : (ints t).length = hsz t := by
  suffices h : ∀ n (t : BT A), hsz t = n → (popAll n t).length = n by
    unfold ints
    exact h _ t rfl
  intro n
  induction n with
  | zero => intro t _; rfl
  | succ n ih =>
    intro t h
    cases t with
    | nil => simp [hsz] at h
    | node x k r =>
      simp only [hsz] at h
      simp only [popAll, List.length_cons]
      rw [ih _ (by rw [hsz_paired]; omega)]

def ofList (xs : List Int) : BT A := xs.foldl (fun t x => meet t (.node x .nil .nil)) .nil
theorem hsz_ofList (xs : List Int) : hsz (ofList xs) = xs.length := by
  suffices h : ∀ (xs : List Int) (t : BT A), hsz (xs.foldl (fun t x => meet t (.node x .nil .nil)) t) = hsz t + xs.length by
    have := h xs .nil
    simpa [ofList, hsz] using this
  intro xs
  induction xs with
  | nil => intro t; rfl
  | cons x xs ih =>
    intro t
    rw [List.foldl_cons, ih, hsz_meet]
    simp only [hsz, BT.size, List.length_cons]
    omega
end Go.Proofs.Ytnigadnjppeckaa.pair
