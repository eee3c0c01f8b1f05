/- Tries, plainly: words put in one order and the other. -/
import Derived.Test.YteglhcpochcopaaTrieFi
namespace Go.Proofs.Yteglhcpochcopaa.trie
open Go.RowKit

def Apart (l : List Wd) (i : Nat) : Prop := ∀ a b, a < b → b < i → l.getD a [] ≠ l.getD b []
theorem Apart.zero (l : List Wd) : Apart l 0 := fun _ _ _ h => by omega
theorem Apart.succ {l : List Wd} {i : Nat} (h : Apart l i) (h' : ∀ a, a < i → l.getD a [] ≠ l.getD i []) : Apart l (i + 1) := by
  intro a b hab hb
  rcases Nat.lt_or_ge b i with h1 | h1
  · exact h a b hab h1
  · obtain rfl : b = i := by omega
    exact h' a hab
theorem Apart.le {l : List Wd} {i j : Nat} (h : Apart l i) (hj : j ≤ i) : Apart l j := fun a b hab hb => h a b hab (by omega)
theorem Apart.ne {l : List Wd} {i : Nat} (h : Apart l i) {a b : Nat} (ha : a < i) (hb : b < i) (hab : a ≠ b) : l.getD a [] ≠ l.getD b [] := by
  rcases Nat.lt_or_gt_of_ne hab with h1 | h1
  · exact h a b h1 hb
  · exact fun e => h b a h1 ha e.symm
def backN (l : List Wd) (n : Nat) : Nat → TT
  | 0 => .nil
  | i + 1 => put (backN l n i) (l.getD (n - 1 - i) []) ((n - 1 - i : Nat) : Int)
theorem fillN_get {l : List Wd} {j : Nat} : ∀ {u : Wd} {x : Int}, get (fillN l j) u = some x → ∃ i, i < j ∧ u = l.getD i [] ∧ x = (i : Int) := by
  induction j with
  | zero => intro u x h; rw [show fillN l 0 = .nil from rfl, get_nil] at h; cases h
  | succ j ih =>
    intro u x h
    rw [show fillN l (j + 1) = put (fillN l j) (l.getD j []) (j : Int) from rfl, get_put] at h
    split at h
    · rename_i e; cases h; exact ⟨j, Nat.lt_succ_self _, e, rfl⟩
    · obtain ⟨i, h1, h2, h3⟩ := ih h
      exact ⟨i, by omega, h2, h3⟩
theorem fillN_got {l : List Wd} {j : Nat} (h : Apart l j) : ∀ {i : Nat}, i < j → get (fillN l j) (l.getD i []) = some (i : Int) := by
  induction j with
  | zero => intro i hi; omega
  | succ j ih =>
    intro i hi
    rw [show fillN l (j + 1) = put (fillN l j) (l.getD j []) (j : Int) from rfl, get_put]
    split
    · rename_i e
      by_cases hij : i = j
      · rw [hij]
      · exact absurd e (h.ne hi (Nat.lt_succ_self _) hij)
    · rename_i e
      have : i ≠ j := by rintro rfl; exact e rfl
      exact ih (h.le (by omega)) (by omega)
theorem fillN_cntN {l : List Wd} {j : Nat} (h : Apart l j) : cnt (fillN l j) = j := by
  induction j with
  | zero => rw [show fillN l 0 = .nil from rfl, cnt_nil]
  | succ j ih =>
    rw [show fillN l (j + 1) = put (fillN l j) (l.getD j []) (j : Int) from rfl, cnt_put_eq, ih (h.le (by omega))]
    have : get (fillN l j) (l.getD j []) = none := by
      cases hg : get (fillN l j) (l.getD j []) with
      | none => rfl
      | some x =>
        obtain ⟨i, h1, h2, _⟩ := fillN_get hg
        exact absurd h2.symm (h i j h1 (Nat.lt_succ_self _))
    rw [this]
    rfl
theorem backN_get {l : List Wd} {n j : Nat} (hj : j ≤ n) : ∀ {u : Wd} {x : Int}, get (backN l n j) u = some x → ∃ i, i < n ∧ u = l.getD i [] ∧ x = (i : Int) := by
  induction j with
  | zero => intro u x h; rw [show backN l n 0 = .nil from rfl, get_nil] at h; cases h
  | succ j ih =>
    intro u x h
    rw [show backN l n (j + 1) = put (backN l n j) (l.getD (n - 1 - j) []) ((n - 1 - j : Nat) : Int) from rfl, get_put] at h
    split at h
    · rename_i e; cases h; exact ⟨n - 1 - j, by omega, e, rfl⟩
    · exact ih (by omega) h
theorem backN_got {l : List Wd} {n j : Nat} (h : Apart l n) (hj : j ≤ n) : ∀ {i : Nat}, i < n → n ≤ i + j → get (backN l n j) (l.getD i []) = some (i : Int) := by
  induction j with
  | zero => intro i hi h2; omega
  | succ j ih =>
    intro i hi h2
    rw [show backN l n (j + 1) = put (backN l n j) (l.getD (n - 1 - j) []) ((n - 1 - j : Nat) : Int) from rfl, get_put]
    split
    · rename_i e
      by_cases hij : i = n - 1 - j
      · rw [hij]
      · exact absurd e (h.ne hi (by omega) hij)
    · rename_i e
      have : i ≠ n - 1 - j := by rintro rfl; exact e rfl
      exact ih (by omega) hi (by omega)
theorem backN_ok (l : List Wd) (n j : Nat) : Ok (backN l n j) := by
  induction j with
  | zero => exact trivial
  | succ j ih => exact ok_put ih
theorem backN_cnt (l : List Wd) (n j : Nat) : cnt (backN l n j) ≤ j := by
  induction j with
  | zero => rw [show backN l n 0 = .nil from rfl, cnt_nil]; exact Nat.le_refl _
  | succ j ih => have := cnt_put (backN l n j) (l.getD (n - 1 - j) []) ((n - 1 - j : Nat) : Int); simp only [backN]; omega
theorem back_fill {l : List Wd} {n : Nat} (h : Apart l n) : backN l n n = fillN l n := by
  refine ext (backN_ok l n n) (fillN_ok l n) fun u => ?_
  cases h1 : get (fillN l n) u with
  | some x =>
    obtain ⟨i, hi, rfl, rfl⟩ := fillN_get h1
    exact backN_got h (Nat.le_refl _) hi (by omega)
  | none =>
    cases h2 : get (backN l n n) u with
    | none => rfl
    | some x =>
      obtain ⟨i, hi, rfl, rfl⟩ := backN_get (Nat.le_refl _) h2
      rw [fillN_got h hi] at h1
      cases h1
theorem St.other {w : World} {G K : Nat} {t : TT} {p : Option Addr} {W : World} {c : Array Value} {fz : Nat × Nat} {v : Value} (h : St w G t p W) (hK : W.heap[K]? = some (.cells c 26 fz)) (hw : w.heap.size ≤ K) (hne : K ≠ G) : St w G t p (W.setCell ⟨K, 0, none⟩ v) :=
  ⟨belowSet (a := ⟨K, 0, none⟩) h.bel hw _, h.g, (Below.heap_setCell W ⟨K, 0, none⟩ v G (Ne.symm hne)).trans h.b0, In.store (k := K) (off := 0) hK (by decide) h.h0⟩
/-- what is told under a text begins with it -/
theorem under_starts {t : TT} {a u : Wd} {x : Int} (h : (u, x) ∈ words (under t a) a) : startsB u a = true := by
  obtain ⟨s, rfl, _⟩ := mem_words.1 h
  unfold startsB
  simp
theorem under_has {t : TT} {a s : Wd} {x : Int} (h : get t (a ++ s) = some x) : (a ++ s, x) ∈ words (under t a) a := mem_words.2 ⟨s, rfl, by unfold get at h ⊢; rw [← under_app]; exact h⟩
end Go.Proofs.Yteglhcpochcopaa.trie
