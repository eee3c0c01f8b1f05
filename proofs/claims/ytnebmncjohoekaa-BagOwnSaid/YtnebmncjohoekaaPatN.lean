/- Plain laws of numbers: what both have, and what is united. -/
import Derived.Test.YtnebmncjohoekaaPatL
import Derived.Test.YtnebmncjohoekaaPatMap3
namespace Go.Proofs.Ytnebmncjohoekaa.pat
open Go.RowKit

theorem told_cnt {o o' : Option PT} (ho : OOk o) (ho' : OOk o') (h : ∀ j, lk (olist o) j = lk (olist o') j) : ocnt o = ocnt o' := by
  have := congrArg List.length (told_ext ho ho' h)
  rw [told_length, told_length] at this
  exact this
theorem cnt_parts (y : Option PT) (a : PT) : ocnt (sifted y true a) + ocnt (sifted y false a) = a.cnt := by
  induction a with
  | leaf k v =>
    simp only [sifted]
    cases e : (oget y k).isSome <;> simp [ocnt, PT.cnt]
  | node key n l r ihl ihr => simp only [sifted, cnt_two, PT.cnt]; omega
theorem ocnt_parts (y x : Option PT) : ocnt (osifted y true x) + ocnt (osifted y false x) = ocnt x := by
  cases x with
  | none => rfl
  | some a => exact cnt_parts y a
theorem cnt_pos (a : PT) : 0 < a.cnt := by
  induction a with
  | leaf k v => exact Nat.one_pos
  | node key n l r ihl _ => simp only [PT.cnt]; omega
/-- a tree has a key -/
theorem has_key {o : Option PT} (h : 0 < ocnt o) (ho : OOk o) : ∃ k v, lk (olist o) k = some v := by
  cases e : olist o with
  | nil =>
    exfalso
    have h1 : ocnt o = ocnt none := told_cnt ho (o' := none) trivial (fun j => by rw [e]; rfl)
    have h2 : ocnt none = 0 := rfl
    omega
  | cons p l => exact ⟨p.1, p.2, by simp [lk]⟩
theorem cnt_apart : ∀ (m : Nat) (x y : Option PT), ocnt x ≤ m → OOk x → OOk y → (∀ j, lk (olist x) j = none ∨ lk (olist y) j = none) → ocnt (ounion x y) = ocnt x + ocnt y := by
  intro m
  induction m with
  | zero =>
    intro x y hm hx hy _
    cases x with
    | none =>
      have e : ounion none y = y := by cases y <;> rfl
      rw [e]
      have : ocnt none = 0 := rfl
      omega
    | some a => have := cnt_pos a; have e : ocnt (some a) = a.cnt := rfl; omega
  | succ m ih =>
    intro x y hm hx hy hd
    rcases Nat.eq_zero_or_pos (ocnt x) with h0 | h0
    · cases x with
      | none =>
        have e : ounion none y = y := by cases y <;> rfl
        rw [e]
        omega
      | some a => have := cnt_pos a; have e : ocnt (some a) = a.cnt := rfl; omega
    · obtain ⟨k, v, hk⟩ := has_key h0 hx
      obtain ⟨ou, hu⟩ := ounion_spec hx hy
      obtain ⟨od, hdl⟩ := odrop_spec hx k
      obtain ⟨oud, hud⟩ := odrop_spec ou k
      obtain ⟨ou2, hu2⟩ := ounion_spec od hy
      have hyk : lk (olist y) k = none := (hd k).resolve_left (by rw [hk]; simp)
      have c1 := cnt_drop_has hx hk
      have c2 := cnt_drop_has ou (k := k) (v := v) (by rw [hu, hk]; rfl)
      have c3 : ocnt (odrop (ounion x y) k) = ocnt (ounion (odrop x k) y) := told_cnt oud ou2 (fun j => by
        rw [hud, hu2, hdl, hu]
        by_cases e : j = k
        · subst e; simp [hyk]
        · simp [e])
      have c4 := ih (odrop x k) y (by omega) od hy (fun j => by
        rw [hdl]
        by_cases e : j = k
        · left; simp [e]
        · simp only [e, if_false]; exact hd j)
      omega
theorem cnt_keys_le : ∀ (m : Nat) (x y : Option PT), ocnt x ≤ m → OOk x → OOk y → (∀ j, (lk (olist x) j).isSome = (lk (olist y) j).isSome) → ocnt y ≤ ocnt x := by
  intro m
  induction m with
  | zero =>
    intro x y hm hx hy h
    rcases Nat.eq_zero_or_pos (ocnt y) with h0 | h0
    · omega
    · obtain ⟨k, v, hk⟩ := has_key h0 hy
      have h1 := h k
      rw [hk] at h1
      cases e : lk (olist x) k with
      | none => rw [e] at h1; cases h1
      | some u => have := cnt_drop_has hx e; omega
  | succ m ih =>
    intro x y hm hx hy h
    rcases Nat.eq_zero_or_pos (ocnt y) with h0 | h0
    · omega
    · obtain ⟨k, v, hk⟩ := has_key h0 hy
      have h1 := h k
      rw [hk] at h1
      cases e : lk (olist x) k with
      | none => rw [e] at h1; cases h1
      | some u =>
        have c1 := cnt_drop_has hx e
        have c2 := cnt_drop_has hy hk
        obtain ⟨o1, d1⟩ := odrop_spec hx k
        obtain ⟨o2, d2⟩ := odrop_spec hy k
        have := ih (odrop x k) (odrop y k) (by omega) o1 o2 (fun j => by
          rw [d1, d2]
          by_cases e : j = k
          · simp [e]
          · simp only [e, if_false]; exact h j)
        omega
theorem told_cnt_keys {x y : Option PT} (hx : OOk x) (hy : OOk y) (h : ∀ j, (lk (olist x) j).isSome = (lk (olist y) j).isSome) : ocnt x = ocnt y :=
  Nat.le_antisymm (cnt_keys_le _ y x (Nat.le_refl _) hy hx (fun j => (h j).symm)) (cnt_keys_le _ x y (Nat.le_refl _) hx hy h)
/-- what is united and what both have are as many as all of them -/
theorem cnt_both_union {x y : Option PT} (hx : OOk x) (hy : OOk y) : ocnt (ounion x y) + ocnt (osifted y true x) = ocnt x + ocnt y := by
  obtain ⟨o1, h1⟩ := osifted_spec (x := x) (y := y) false hx
  obtain ⟨ou, hu⟩ := ounion_spec hx hy
  obtain ⟨ov, hv⟩ := ounion_spec o1 hy
  have hg : ∀ j, oget y j = lk (olist y) j := fun j => oget_eq hy j
  have c1 := cnt_apart _ (osifted y false x) y (Nat.le_refl _) o1 hy (fun j => by
    rw [h1, hg]
    cases lk (olist y) j <;> simp)
  have c2 : ocnt (ounion x y) = ocnt (ounion (osifted y false x) y) := by
    exact told_cnt_keys ou ov (fun j => by
      rw [hu, hv, h1, hg]
      cases lk (olist y) j <;> cases lk (olist x) j <;> simp)
  have c4 := ocnt_parts y x
  omega
end Go.Proofs.Ytnebmncjohoekaa.pat
