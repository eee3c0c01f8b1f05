/- Package seg, plain laws: parts in a row, as a tree by their places. No function of the program is named here. -/
import Derived.Test.YtnnpeblpdkeffaaMore
namespace Go.Proofs.Ytnnpeblpdkeffaa.seg
open Go Go.RowKit

structure Part where
  sum : Int
  least : Int
  most : Int
  put : Bool
  what : Int
  more : Int
def Part.zero : Part := ⟨0, 0, 0, false, 0, 0⟩
abbrev PF := Nat → Part
def updP (P : PF) (i : Nat) (p : Part) : PF := fun j => if j = i then p else P j
theorem updP_same (P : PF) (i : Nat) (p : Part) : updP P i p i = p := by simp [updP]
theorem updP_other (P : PF) {i j : Nat} (p : Part) (h : j ≠ i) : updP P i p j = P j := by simp [updP, h]

/-- i lies under a -/
def Dsc (a i : Nat) : Prop := ∃ d, i / 2 ^ d = a
theorem Dsc.self (a : Nat) : Dsc a a := ⟨0, by simp⟩
theorem Dsc.left {a i : Nat} : Dsc (2 * a) i → Dsc a i := fun ⟨d, h⟩ => ⟨d + 1, by rw [Nat.pow_succ, ← Nat.div_div_eq_div_mul, h]; omega⟩
theorem Dsc.right {a i : Nat} : Dsc (2 * a + 1) i → Dsc a i := fun ⟨d, h⟩ => ⟨d + 1, by rw [Nat.pow_succ, ← Nat.div_div_eq_div_mul, h]; omega⟩
theorem Dsc.le {a i : Nat} : Dsc a i → a ≤ i := fun ⟨_, h⟩ => by rw [← h]; exact Nat.div_le_self _ _
theorem not_both {a i : Nat} (ha : 1 ≤ a) : Dsc (2 * a) i → Dsc (2 * a + 1) i → False := by
  rintro ⟨d, h⟩ ⟨e, h'⟩
  have key : ∀ {x y p q : Nat}, p ≤ q → i / 2 ^ p = x → i / 2 ^ q = y → x = y ∨ y ≤ x / 2 := by
    intro x y p q hpq hx hy
    obtain ⟨k, rfl⟩ := Nat.le.dest hpq
    cases k with
    | zero => exact .inl (by rw [← hx, ← hy]; rfl)
    | succ k =>
      refine .inr ?_
      rw [← hy, ← hx, Nat.pow_add, ← Nat.div_div_eq_div_mul, Nat.pow_succ, Nat.mul_comm (2 ^ k) 2, ← Nat.div_div_eq_div_mul]
      exact Nat.div_le_self _ _
  rcases Nat.le_total d e with hde | hde
  · rcases key hde h h' with e1 | e1 <;> omega
  · rcases key hde h' h with e1 | e1 <;> omega

theorem wrap64_add (x y : Int) : wrap64 (wrap64 x + y) = wrap64 (x + y) := by unfold wrap64; omega
theorem wrap64_add' (x y : Int) : wrap64 (x + wrap64 y) = wrap64 (x + y) := by unfold wrap64; omega
theorem wrap64_idem (x : Int) : wrap64 (wrap64 x) = wrap64 x := by unfold wrap64; omega

/-- at the place a lies what tells these numbers -/
inductive Rep (P : PF) : Nat → List Int → Prop
  | leaf (a : Nat) : (P a).put = false → Rep P a [(P a).sum]
  | node (a : Nat) (l r : List Int) : (P a).put = false → l.length = (l.length + r.length) / 2 → 2 ≤ l.length + r.length → Rep P (2 * a) l → Rep P (2 * a + 1) r →
      Rep P a ((l ++ r).map fun v => wrap64 (v + (P a).more))
theorem Rep.congr {P P' : PF} {a : Nat} {vs : List Int} (h : Rep P a vs) (he : ∀ i, Dsc a i → P' i = P i) : Rep P' a vs := by
  induction h with
  | leaf a hp =>
    have e := he a (Dsc.self a)
    rw [← e] at hp ⊢
    exact .leaf a hp
  | node a l r hp h1 h2 _ _ ihl ihr =>
    have e := he a (Dsc.self a)
    rw [← e] at hp ⊢
    exact .node a l r hp h1 h2 (ihl fun i hi => he i hi.left) (ihr fun i hi => he i hi.right)
theorem Rep.len {P : PF} {a : Nat} {vs : List Int} (h : Rep P a vs) : 1 ≤ vs.length := by
  cases h with
  | leaf => simp
  | node _ l r _ _ h2 => simp; omega
theorem Rep.put {P : PF} {a : Nat} {vs : List Int} (h : Rep P a vs) : (P a).put = false := by
  cases h with
  | leaf _ h => exact h
  | node _ l r h => exact h
/-- all below a place are to be more by m -/
theorem Rep.all {P : PF} {a : Nat} {vs : List Int} (h : Rep P a vs) (ha : 1 ≤ a) (m le mo : Int) :
    Rep (updP P a ⟨wrap64 ((P a).sum + wrap64 ((vs.length : Int) * m)), le, mo, (P a).put, (P a).what, wrap64 ((P a).more + m)⟩) a (vs.map fun v => wrap64 (v + m)) := by
  cases h with
  | leaf _ hp =>
    have h1 := Rep.leaf (P := updP P a ⟨wrap64 ((P a).sum + wrap64 (([(P a).sum].length : Int) * m)), le, mo, (P a).put, (P a).what, wrap64 ((P a).more + m)⟩) a (by rw [updP_same]; exact hp)
    rw [updP_same] at h1
    simpa [wrap64_add'] using h1
  | node _ l r hp h1 h2 hl hr =>
    have hx := Rep.node (P := updP P a ⟨wrap64 ((P a).sum + wrap64 ((((l ++ r).map fun v => wrap64 (v + (P a).more)).length : Int) * m)), le, mo, (P a).put, (P a).what, wrap64 ((P a).more + m)⟩) a l r (by rw [updP_same]; exact hp) h1 h2
      (hl.congr fun i hi => updP_other _ _ (fun e => by have := hi.le; omega)) (hr.congr fun i hi => updP_other _ _ (fun e => by have := hi.le; omega))
    rw [updP_same] at hx
    have e : ((l ++ r).map fun v => wrap64 (v + wrap64 ((P a).more + m))) = ((l ++ r).map fun v => wrap64 (v + (P a).more)).map fun v => wrap64 (v + m) := by
      rw [List.map_map]
      refine List.map_congr_left fun v _ => ?_
      show _ = wrap64 (wrap64 (v + (P a).more) + m)
      rw [wrap64_add', wrap64_add]
      congr 1
      omega
    rw [← e]
    exact hx
/-- a place with two under it -/
theorem Rep.two {P : PF} {a : Nat} {vs : List Int} (h : Rep P a vs) (hn : 2 ≤ vs.length) : ∃ l r, l.length = vs.length / 2 ∧ r.length = vs.length - vs.length / 2 ∧ Rep P (2 * a) l ∧ Rep P (2 * a + 1) r ∧ vs = (l ++ r).map fun v => wrap64 (v + (P a).more) := by
  cases h with
  | leaf => simp at hn
  | node _ l r hp h1 h2 hl hr => exact ⟨l, r, by simp; omega, by simp; omega, hl, hr, rfl⟩
theorem Rep.one {P : PF} {a : Nat} {vs : List Int} (h : Rep P a vs) (hn : vs.length = 1) : vs = [(P a).sum] := by
  cases h with
  | leaf => rfl
  | node _ l r hp h1 h2 hl hr => simp at hn; omega
/-- what is pushed lies below: the place tells what both below it tell -/
theorem Rep.join {P : PF} {a : Nat} {l r : List Int} (hp : (P a).put = false) (hm : (P a).more = 0) (h1 : l.length = (l.length + r.length) / 2) (h2 : 2 ≤ l.length + r.length) (hl : Rep P (2 * a) l) (hr : Rep P (2 * a + 1) r) : Rep P a ((l ++ r).map wrap64) := by
  have h := Rep.node a l r hp h1 h2 hl hr
  rw [hm] at h
  simpa using h
/-- room for all places under a -/
def Bnd (a n M : Nat) : Prop := ∃ e, n ≤ 2 ^ e ∧ (a + 1) * 2 ^ e ≤ M
theorem Bnd.lt {a n M : Nat} (h : Bnd a n M) : a < M := by
  obtain ⟨e, _, h⟩ := h
  have : a + 1 ≤ (a + 1) * 2 ^ e := Nat.le_mul_of_pos_right _ (Nat.two_pow_pos e)
  omega
theorem Bnd.two {a n M : Nat} (h : Bnd a n M) (hn : 2 ≤ n) : Bnd (2 * a) (n / 2) M ∧ Bnd (2 * a + 1) (n - n / 2) M := by
  obtain ⟨e, h1, h2⟩ := h
  cases e with
  | zero => simp at h1; omega
  | succ e =>
    rw [Nat.pow_succ] at h1
    have h3 : (a + 1) * 2 ^ (e + 1) = (2 * a + 1 + 1) * 2 ^ e := by rw [Nat.pow_succ, Nat.mul_comm (2 ^ e) 2, ← Nat.mul_assoc]; congr 1; omega
    rw [h3] at h2
    have h4 : (2 * a + 1) * 2 ^ e ≤ (2 * a + 1 + 1) * 2 ^ e := Nat.mul_le_mul_right _ (by omega)
    exact ⟨⟨e, by omega, by omega⟩, ⟨e, by omega, h2⟩⟩
theorem Bnd.root {n : Nat} (hn : 1 ≤ n) : Bnd 1 n (4 * n) := by
  refine ⟨n.log2 + 1, Nat.le_of_lt (Nat.lt_log2_self), ?_⟩
  have := Nat.log2_self_le (n := n) (by omega)
  rw [Nat.pow_succ]
  omega
end Go.Proofs.Ytnnpeblpdkeffaa.seg
