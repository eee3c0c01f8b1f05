/- Plain laws of groups: what each number is under, in the end. -/
import Derived.Test.YthlcjhkelcfnoaaDoorBase
namespace Go.Proofs.YthlcjhkelcfnoaaDoor.find

/-- none is under a greater one -/
def Par (N : Nat) (xs : List Int) : Prop := xs.length = N ∧ ∀ i, i < N → 0 ≤ xs.getD i 0 ∧ xs.getD i 0 ≤ (i : Int)
/-- r is what a is under, in the end -/
inductive Top (xs : List Int) : Nat → Nat → Prop
  | root {a : Nat} (h : xs.getD a 0 = (a : Int)) : Top xs a a
  | step {a b r : Nat} (h : xs.getD a 0 = (b : Int)) (hne : b ≠ a) (ht : Top xs b r) : Top xs a r
theorem Top.det {xs : List Int} {a r r' : Nat} (h : Top xs a r) (h' : Top xs a r') : r = r' := by
  induction h with
  | root h =>
    cases h' with
    | root _ => rfl
    | step h2 hne _ => rw [h] at h2; exact absurd (by omega) hne
  | step h hne _ ih =>
    cases h' with
    | root h2 => rw [h] at h2; exact absurd (by omega) hne
    | step h2 hne2 ht2 => rw [h] at h2; have e : _ = _ := Int.ofNat.inj h2; subst e; exact ih ht2
theorem Top.exists {N : Nat} {xs : List Int} (h : Par N xs) : ∀ a, a < N → ∃ r, Top xs a r := by
  intro a
  induction a using Nat.strongRecOn with
  | ind a ih =>
    intro ha
    obtain ⟨h0, h1⟩ := h.2 a ha
    obtain ⟨b, hb⟩ : ∃ b : Nat, xs.getD a 0 = (b : Int) := ⟨(xs.getD a 0).toNat, by omega⟩
    by_cases e : b = a
    · exact ⟨a, .root (by rw [hb, e])⟩
    · obtain ⟨r, hr⟩ := ih b (by omega) (by omega)
      exact ⟨r, .step hb e hr⟩
theorem Top.le {N : Nat} {xs : List Int} (hp : Par N xs) {a r : Nat} (h : Top xs a r) : a < N → r ≤ a := by
  induction h with
  | root _ => intro _; exact Nat.le_refl _
  | step hb hne _ ih =>
    intro ha
    have := (hp.2 _ ha).2
    rw [hb] at this
    have := ih (by omega)
    omega
theorem Top.isRoot {xs : List Int} {a r : Nat} (h : Top xs a r) : xs.getD r 0 = (r : Int) := by
  induction h with
  | root h => exact h
  | step _ _ _ ih => exact ih
theorem Top.top {xs : List Int} {a r : Nat} (h : Top xs a r) : Top xs r r := .root h.isRoot
open Classical in
/-- what a number is under, in the end -/
noncomputable def top (xs : List Int) (a : Nat) : Nat := if h : ∃ r, Top xs a r then Classical.choose h else a
theorem top_eq {xs : List Int} {a r : Nat} (h : Top xs a r) : top xs a = r := by
  have hex : ∃ r, Top xs a r := ⟨r, h⟩
  unfold top
  rw [dif_pos hex]
  exact (Classical.choose_spec hex).det h
theorem top_spec {N : Nat} {xs : List Int} (h : Par N xs) {a : Nat} (ha : a < N) : Top xs a (top xs a) := by
  obtain ⟨r, hr⟩ := Top.exists h a ha
  rw [top_eq hr]
  exact hr
theorem top_le {N : Nat} {xs : List Int} (h : Par N xs) {a : Nat} (ha : a < N) : top xs a ≤ a := (top_spec h ha).le h ha
theorem top_top {N : Nat} {xs : List Int} (h : Par N xs) {a : Nat} (ha : a < N) : top xs (top xs a) = top xs a := top_eq (top_spec h ha).top
theorem top_root {N : Nat} {xs : List Int} (h : Par N xs) {a : Nat} (ha : a < N) : xs.getD (top xs a) 0 = (top xs a : Int) := (top_spec h ha).isRoot
/-- two groups are one -/
def join (xs : List Int) (x y : Nat) : List Int := xs.set (max x y) ((min x y : Nat) : Int)
theorem getD_set (xs : List Int) (i j : Nat) (v : Int) (hi : i < xs.length) : (xs.set i v).getD j 0 = if j = i then v else xs.getD j 0 := by
  simp only [List.getD_eq_getElem?_getD, List.getElem?_set]
  by_cases h : j = i
  · subst h; simp [hi]
  · rw [if_neg h, if_neg (fun e => h e.symm)]
theorem par_join {N : Nat} {xs : List Int} (h : Par N xs) {x y : Nat} (hx : x < N) (hy : y < N) : Par N (join xs x y) := by
  refine ⟨by rw [join, List.length_set]; exact h.1, fun i hi => ?_⟩
  rw [join, getD_set _ _ _ _ (by rw [h.1]; omega)]
  split
  · subst_vars; omega
  · exact h.2 i hi
theorem set_same {xs : List Int} {r : Nat} (h : xs.getD r 0 = (r : Int)) : xs.set r (r : Int) = xs := by
  apply List.ext_getElem?
  intro i
  rw [List.getElem?_set]
  by_cases e : r = i
  · subst e
    by_cases hl : r < xs.length
    · simp [List.getD_eq_getElem?_getD, hl] at h; simp [hl, h]
    · simp [hl]
  · rw [if_neg e]
theorem join_same {N : Nat} {xs : List Int} (hp : Par N xs) {a : Nat} (ha : a < N) : join xs (top xs a) (top xs a) = xs := by
  simpa [join] using set_same (top_root hp ha)
/-- the numbers from 0 on -/
def upTo (n : Nat) : List Int := (List.range n).map fun i : Nat => (i : Int)
theorem upTo_length (n : Nat) : (upTo n).length = n := by simp [upTo]
theorem upTo_succ (n : Nat) : upTo (n + 1) = upTo n ++ [(n : Int)] := by simp [upTo, List.range_succ]
theorem upTo_getD (n i : Nat) (h : i < n) : (upTo n).getD i 0 = (i : Int) := by simp [upTo, List.getD_eq_getElem?_getD, h]
theorem par_upTo (n : Nat) : Par n (upTo n) := ⟨upTo_length n, fun i hi => by rw [upTo_getD n i hi]; omega⟩
end Go.Proofs.YthlcjhkelcfnoaaDoor.find
