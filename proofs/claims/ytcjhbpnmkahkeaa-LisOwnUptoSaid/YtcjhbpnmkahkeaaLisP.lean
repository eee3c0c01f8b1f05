/- What dealing on piles tells, in plain words: no program stands here. -/
import Derived.WalkKit
import Derived.Lib.Hide
namespace Go.Proofs.Ytcjhbpnmkahkeaa.lis
open Go.RowKit

/-- the number on top of a pile of places -/
def top (l : List Int) (p : List Nat) : Int := l.getD (p.getLastD 0) 0
/-- the pile on which x comes -/
def spot (l : List Int) (P : List (List Nat)) (x : Int) : Nat := P.countP fun p => decide (top l p < x)
def deal (l : List Int) (i : Nat) (P : List (List Nat)) : List (List Nat) :=
  if spot l P (l.getD i 0) = P.length then P ++ [[i]] else P.set (spot l P (l.getD i 0)) (P.getD (spot l P (l.getD i 0)) [] ++ [i])
def backOf (l : List Int) (i : Nat) (P : List (List Nat)) : Int :=
  if spot l P (l.getD i 0) = 0 then -1 else ((P.getD (spot l P (l.getD i 0) - 1) []).getLastD 0 : Nat)
def piles (l : List Int) : Nat → List (List Nat)
  | 0 => []
  | i + 1 => deal l i (piles l i)
def backs (l : List Int) : Nat → List Int
  | 0 => []
  | i + 1 => backs l i ++ [backOf l i (piles l i)]
/-- no pile is empty, the places are lower than i, the tops rise -/
structure Ok (l : List Int) (i : Nat) (P : List (List Nat)) : Prop where
  ne : ∀ p ∈ P, p ≠ []
  lt : ∀ p ∈ P, ∀ j ∈ p, j < i
  up : P.Pairwise fun p q => top l p < top l q
  len : P.length ≤ i
  sz : ∀ p ∈ P, p.length ≤ i

theorem top_snoc (l : List Int) (p : List Nat) (i : Nat) : top l (p ++ [i]) = l.getD i 0 := by simp [top, List.getLastD_eq_getLast?]
theorem getLastD_mem {p : List Nat} (h : p ≠ []) : p.getLastD 0 ∈ p := by
  rw [List.getLastD_eq_getLast?, List.getLast?_eq_some_getLast h]
  exact List.getLast_mem h

/-- where tops rise, the count parts the piles -/
theorem count_part (f : List Nat → Int) (x : Int) : ∀ P : List (List Nat), P.Pairwise (fun p q => f p < f q) →
    (∀ t, t < P.countP (fun p => decide (f p < x)) → f (P.getD t []) < x) ∧ (∀ t, P.countP (fun p => decide (f p < x)) ≤ t → t < P.length → x ≤ f (P.getD t [])) := by
  intro P
  induction P with
  | nil => intro _; exact ⟨fun t h => absurd h (by simp), fun t _ h => absurd h (by simp)⟩
  | cons p P ih =>
    intro hp
    rw [List.pairwise_cons] at hp
    obtain ⟨h1, h2⟩ := ih hp.2
    by_cases hx : f p < x
    · rw [List.countP_cons_of_pos (by simpa using hx)]
      refine ⟨fun t ht => ?_, fun t ht hl => ?_⟩
      · cases t with
        | zero => simpa using hx
        | succ t => simpa using h1 t (by omega)
      · cases t with
        | zero => omega
        | succ t => simpa using h2 t (by omega) (by simpa using hl)
    · have h0 : P.countP (fun p => decide (f p < x)) = 0 := by
        rw [List.countP_eq_zero]
        intro q hq
        have := hp.1 q hq
        simp only [decide_eq_true_eq]
        omega
      rw [List.countP_cons_of_neg (by simpa using hx), h0]
      refine ⟨fun t ht => absurd ht (by omega), fun t _ hl => ?_⟩
      cases t with
      | zero => simpa using hx
      | succ t => simpa using h2 t (by omega) (by simpa using hl)

theorem spot_le (l : List Int) (P : List (List Nat)) (x : Int) : spot l P x ≤ P.length := List.countP_le_length

theorem Ok.step {l : List Int} {i : Nat} {P : List (List Nat)} (h : Ok l i P) : Ok l (i + 1) (deal l i P) := by
  obtain ⟨h1, h2⟩ := count_part (top l) (l.getD i 0) P h.up
  have hk := spot_le l P (l.getD i 0)
  unfold deal
  change (∀ t, t < spot l P (l.getD i 0) → _) at h1
  change (∀ t, spot l P (l.getD i 0) ≤ t → _) at h2
  generalize spot l P (l.getD i 0) = k at h1 h2 hk ⊢
  by_cases e : k = P.length
  · rw [if_pos e]
    refine ⟨fun p hp => ?_, fun p hp j hj => ?_, ?_, ?_, fun p hp => ?_⟩
    · rcases List.mem_append.1 hp with hp | hp
      · exact h.ne p hp
      · rw [List.mem_singleton.1 hp]; simp
    · rcases List.mem_append.1 hp with hp | hp
      · have := h.lt p hp j hj; omega
      · rw [List.mem_singleton.1 hp] at hj
        rw [List.mem_singleton.1 hj]; omega
    · rw [List.pairwise_append]
      refine ⟨h.up, List.pairwise_singleton _ _, fun p hp q hq => ?_⟩
      rw [List.mem_singleton.1 hq, show top l [i] = l.getD i 0 from rfl]
      obtain ⟨t, ht, rfl⟩ := List.getElem_of_mem hp
      have := h1 t (by omega)
      rwa [List.getD_eq_getElem?_getD, List.getElem?_eq_getElem ht] at this
    · have := h.len; simp; omega
    · rcases List.mem_append.1 hp with hp | hp
      · have := h.sz p hp; omega
      · rw [List.mem_singleton.1 hp]; simp
  · rw [if_neg e]
    have hk' : k < P.length := by omega
    have hm : P.getD k [] ∈ P := by rw [List.getD_eq_getElem?_getD, List.getElem?_eq_getElem hk']; exact List.getElem_mem hk'
    refine ⟨fun p hp => ?_, fun p hp j hj => ?_, ?_, ?_, fun p hp => ?_⟩
    · rcases List.mem_or_eq_of_mem_set hp with hp | rfl
      · exact h.ne p hp
      · simp
    · rcases List.mem_or_eq_of_mem_set hp with hp | rfl
      · have := h.lt p hp j hj; omega
      · rcases List.mem_append.1 hj with hj | hj
        · have := h.lt _ hm j hj; omega
        · rw [List.mem_singleton.1 hj]; omega
    · rw [List.pairwise_iff_getElem]
      have hup := List.pairwise_iff_getElem.1 h.up
      intro a b ha hb hab
      simp only [List.length_set] at ha hb
      have hgd : ∀ t (ht : t < P.length), P.getD t [] = P[t] := fun t ht => by rw [List.getD_eq_getElem?_getD, List.getElem?_eq_getElem ht]; rfl
      rw [List.getElem_set, List.getElem_set]
      by_cases ea : k = a
      · subst ea
        rw [if_pos rfl, if_neg (by omega), top_snoc]
        have := h2 k (Nat.le_refl _) hk'
        rw [hgd k hk'] at this
        have := hup k b hk' hb hab
        omega
      · rw [if_neg ea]
        by_cases eb : k = b
        · subst eb
          rw [if_pos rfl, top_snoc]
          have := h1 a hab
          rwa [hgd a ha] at this
        · rw [if_neg eb]
          exact hup a b ha hb hab
    · have := h.len; simp; omega
    · rcases List.mem_or_eq_of_mem_set hp with hp | rfl
      · have := h.sz p hp; omega
      · have := h.sz _ hm; rw [List.length_append, List.length_singleton]; omega
theorem piles_ok (l : List Int) : ∀ i, Ok l i (piles l i)
  | 0 => ⟨fun p hp => (by cases hp), fun p hp => (by cases hp), List.Pairwise.nil, Nat.le_refl _, fun p hp => (by cases hp)⟩
  | i + 1 => (piles_ok l i).step
theorem backs_len (l : List Int) : ∀ i, (backs l i).length = i
  | 0 => rfl
  | i + 1 => by simp [backs, backs_len l i]
theorem piles_two : piles [1, 2] 2 = [[0], [1]] := by decide
theorem backs_two : backs [1, 2] 2 = [-1, 0] := by decide
/-- what a search for the pile tells -/
theorem spot_range {l : List Int} {P : List (List Nat)} {x : Int} : (List.range P.length).countP (fun t => !decide (x ≤ top l (P.getD t []))) = spot l P x := by
  unfold spot
  have h : P = (List.range P.length).map (fun t => P.getD t []) := by
    apply List.ext_getElem
    · simp
    · intro i h1 h2
      simp [h1]
  conv => rhs; rw [h, List.countP_map]
  congr 1
  funext t
  rw [Bool.eq_iff_iff]
  simp
theorem top_mono {l : List Int} {P : List (List Nat)} (h : P.Pairwise fun p q => top l p < top l q) {x : Int} {a b : Nat} (hab : a ≤ b) (hb : b < P.length) (hx : x ≤ top l (P.getD a [])) : x ≤ top l (P.getD b []) := by
  have hgd : ∀ t (ht : t < P.length), P.getD t [] = P[t] := fun t ht => by rw [List.getD_eq_getElem?_getD, List.getElem?_eq_getElem ht]; rfl
  rw [hgd b hb]
  rw [hgd a (by omega)] at hx
  rcases Nat.lt_or_ge a b with h' | h'
  · have := List.pairwise_iff_getElem.1 h a b (by omega) hb h'
    omega
  · obtain rfl : a = b := by omega
    exact hx
end Go.Proofs.Ytcjhbpnmkahkeaa.lis
