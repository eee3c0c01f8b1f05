/- Plain laws of keys by their bits: put, drop, get, union, what another one has. -/
import Derived.Test.YtenaddjnaeebbaaPatP2
namespace Go.Proofs.Ytenaddjnaeebbaa.pat
open PT

def put : PT → Nat → Int → PT
  | .leaf k' v', k, v => if k' = k then .leaf k v else both (.leaf k' v') (.leaf k v)
  | .node key b l r, k, v =>
    if k / 2 ^ (b + 1) * 2 ^ (b + 1) = key then (if k / 2 ^ b % 2 = 0 then .node key b (put l k v) r else .node key b l (put r k v))
    else both (.node key b l r) (.leaf k v)
theorem sub_leaf {k lo hi : Nat} {v : Int} (h1 : lo ≤ k) (h2 : k < hi) : Sub (.leaf k v) lo hi := ⟨h1, by simp only [PT.key, PT.lev]; omega⟩
theorem apart_leaf_iff {t : PT} {k : Nat} {v : Int} : Apart t (.leaf k v) ↔ k < t.key ∨ t.key + 2 ^ t.lev ≤ k := by
  have h : Apart t (.leaf k v) ↔ (t.key + 2 ^ t.lev ≤ k ∨ k + 2 ^ 0 ≤ t.key) := Iff.rfl
  rw [h]
  omega
theorem apart_leaf {t : PT} {k : Nat} {v : Int} (h : k < t.key ∨ t.key + 2 ^ t.lev ≤ k) : Apart t (.leaf k v) := apart_leaf_iff.2 h
theorem put_spec (k : Nat) (v : Int) (hk : k < 2 ^ 64) : ∀ t, Ok t → Ok (put t k v) ∧ (∀ lo e, 2 ^ e ∣ lo → Sub t lo (lo + 2 ^ e) → lo ≤ k → k < lo + 2 ^ e → Sub (put t k v) lo (lo + 2 ^ e)) ∧ ∀ j, lk (put t k v).list j = if j = k then some v else lk t.list j := by
  have hkey : Ok (.leaf k v) := hk
  have hlk : ∀ t, Ok t → Apart t (.leaf k v) → ∀ j, lk (both t (.leaf k v)).list j = if j = k then some v else lk t.list j := by
    intro t ht hap j
    rw [both_lk ht hkey hap]
    by_cases e : j = k
    · subst e
      rw [if_pos rfl, lk_out ht (apart_leaf_iff.1 hap)]
      simp [list, lk]
    · rw [if_neg e]
      simp [list, lk, Ne.symm e]
  intro t
  induction t with
  | leaf k' v' =>
    intro ht
    by_cases e : k' = k
    · subst e
      simp only [put, if_pos]
      refine ⟨hk, fun lo e hd hs h1 h2 => sub_leaf h1 h2, fun j => ?_⟩
      simp only [list, lk]
      by_cases e : j = k'
      · subst e; simp
      · simp [e, Ne.symm e]
    · simp only [put, if_neg e]
      have hap : Apart (.leaf k' v') (.leaf k v) := apart_leaf (by simp only [PT.key, PT.lev]; omega)
      exact ⟨both_ok ht hkey hap, fun lo e hd hs h1 h2 => both_sub ht hkey hap hd hs (sub_leaf h1 h2), hlk _ ht hap⟩
  | node key b l r ihl ihr =>
    intro ht
    have ht' := ht
    obtain ⟨h64, hd, hl, hr, sl, sr⟩ := ht
    have e2 := pow_succ2 b
    have hB := Nat.two_pow_pos b
    have hdb : 2 ^ b ∣ key := Nat.dvd_trans ⟨2, by rw [e2, Nat.mul_comm]⟩ hd
    have e3 : key + 2 ^ (b + 1) = key + 2 ^ b + 2 ^ b := by omega
    simp only [put]
    by_cases hf : k / 2 ^ (b + 1) * 2 ^ (b + 1) = key
    · rw [if_pos hf]
      have hin := (fits_iff (Nat.two_pow_pos _) hd).1 hf
      have hbit := bit_iff (k := k) hB (by rw [← e2]; exact hd) hin.1 (by omega)
      by_cases h0 : k / 2 ^ b % 2 = 0
      · rw [if_pos h0]
        have hlo := hbit.1 h0
        obtain ⟨o1, o2, o3⟩ := ihl hl
        refine ⟨⟨h64, hd, o1, hr, o2 key b hdb sl hin.1 hlo, sr⟩, fun lo e hd' hs h1 h2 => hs, fun j => ?_⟩
        simp only [list, lk_append, o3]
        by_cases e : j = k
        · simp [e]
        · simp [e]
      · rw [if_neg h0]
        have hhi : key + 2 ^ b ≤ k := by
          rcases Nat.lt_or_ge k (key + 2 ^ b) with h | h
          · exact absurd (hbit.2 h) h0
          · exact h
        obtain ⟨o1, o2, o3⟩ := ihr hr
        refine ⟨⟨h64, hd, hl, o1, sl, by rw [e3]; exact o2 (key + 2 ^ b) b (Nat.dvd_add hdb (Nat.dvd_refl _)) (by rw [← e3]; exact sr) hhi (by omega)⟩, fun lo e hd' hs h1 h2 => hs, fun j => ?_⟩
        simp only [list, lk_append, o3]
        by_cases e : j = k
        · subst e
          have : lk l.list j = none := lk_out hl (by have := sl.2; omega)
          simp [this]
        · simp [e]
    · rw [if_neg hf]
      have hout : k < key ∨ key + 2 ^ (b + 1) ≤ k := by
        rcases Nat.lt_or_ge k key with h | h
        · exact .inl h
        · rcases Nat.lt_or_ge k (key + 2 ^ (b + 1)) with h' | h'
          · exact absurd ((fits_iff (Nat.two_pow_pos _) hd).2 ⟨h, h'⟩) hf
          · exact .inr h'
      have hap : Apart (.node key b l r) (.leaf k v) := apart_leaf hout
      exact ⟨both_ok ht' hkey hap, fun lo e hd' hs h1 h2 => both_sub ht' hkey hap hd' hs (sub_leaf h1 h2), hlk _ ht' hap⟩

def olist : Option PT → KL
  | none => []
  | some t => t.list
def ocnt : Option PT → Nat
  | none => 0
  | some t => t.cnt
def OOk : Option PT → Prop
  | none => True
  | some t => Ok t
def OSub : Option PT → Nat → Nat → Prop
  | none, _, _ => True
  | some t, lo, hi => Sub t lo hi
def two (key b : Nat) : Option PT → Option PT → Option PT
  | none, y => y
  | x, none => x
  | some l, some r => some (.node key b l r)
theorem two_ok {key b : Nat} {x y : Option PT} (h64 : key + 2 ^ (b + 1) ≤ 2 ^ 64) (hd : 2 ^ (b + 1) ∣ key) (hx : OOk x) (hy : OOk y) (sx : OSub x key (key + 2 ^ b)) (sy : OSub y (key + 2 ^ b) (key + 2 ^ (b + 1))) : OOk (two key b x y) := by
  cases x <;> cases y
  · exact trivial
  · exact hy
  · exact hx
  · exact ⟨h64, hd, hx, hy, sx, sy⟩
theorem two_list (key b : Nat) (x y : Option PT) : olist (two key b x y) = olist x ++ olist y := by
  cases x <;> cases y <;> simp [two, olist, list]
theorem two_sub {key b : Nat} {x y : Option PT} (sx : OSub x key (key + 2 ^ b)) (sy : OSub y (key + 2 ^ b) (key + 2 ^ (b + 1))) {lo hi : Nat} (h1 : lo ≤ key) (h2 : key + 2 ^ (b + 1) ≤ hi) : OSub (two key b x y) lo hi := by
  have e2 := pow_succ2 b
  cases x <;> cases y
  · exact trivial
  · exact ⟨by have := sy.1; omega, by have := sy.2; omega⟩
  · exact ⟨by have := sx.1; omega, by have := sx.2; omega⟩
  · exact ⟨h1, h2⟩

def drop : PT → Nat → Option PT
  | .leaf k' v', k => if k' = k then none else some (.leaf k' v')
  | .node key b l r, k =>
    if k / 2 ^ (b + 1) * 2 ^ (b + 1) = key then (if k / 2 ^ b % 2 = 0 then two key b (drop l k) (some r) else two key b (some l) (drop r k))
    else some (.node key b l r)
theorem drop_spec (k : Nat) : ∀ t, Ok t → OOk (drop t k) ∧ (∀ lo hi, Sub t lo hi → OSub (drop t k) lo hi) ∧ ∀ j, lk (olist (drop t k)) j = if j = k then none else lk t.list j := by
  intro t
  induction t with
  | leaf k' v' =>
    intro ht
    by_cases e : k' = k
    · subst e
      simp only [drop, if_pos]
      refine ⟨trivial, fun _ _ _ => trivial, fun j => ?_⟩
      by_cases e : j = k'
      · simp [e, olist, lk]
      · simp [e, olist, lk, list, Ne.symm e]
    · simp only [drop, if_neg e]
      refine ⟨ht, fun _ _ h => h, fun j => ?_⟩
      by_cases e' : j = k
      · subst e'; simp [olist, lk, list, e]
      · simp [e', olist]
  | node key b l r ihl ihr =>
    intro ht
    have ht' := ht
    obtain ⟨h64, hd, hl, hr, sl, sr⟩ := ht
    have e2 := pow_succ2 b
    have hB := Nat.two_pow_pos b
    simp only [drop]
    by_cases hf : k / 2 ^ (b + 1) * 2 ^ (b + 1) = key
    · rw [if_pos hf]
      have hin := (fits_iff (Nat.two_pow_pos _) hd).1 hf
      have hbit := bit_iff (k := k) hB (by rw [← e2]; exact hd) hin.1 (by omega)
      by_cases h0 : k / 2 ^ b % 2 = 0
      · rw [if_pos h0]
        have hlo := hbit.1 h0
        obtain ⟨o1, o2, o3⟩ := ihl hl
        have so := o2 _ _ sl
        refine ⟨two_ok (x := drop l k) (y := some r) h64 hd o1 hr so sr, fun lo hi hs => two_sub (x := drop l k) (y := some r) so sr hs.1 hs.2, fun j => ?_⟩
        rw [two_list, lk_append, o3]
        simp only [list, lk_append, olist]
        by_cases e : j = k
        · subst e
          have : lk r.list j = none := lk_out hr (by have := sr.1; omega)
          simp [this]
        · simp [e]
      · rw [if_neg h0]
        have hhi : key + 2 ^ b ≤ k := by
          rcases Nat.lt_or_ge k (key + 2 ^ b) with h | h
          · exact absurd (hbit.2 h) h0
          · exact h
        obtain ⟨o1, o2, o3⟩ := ihr hr
        have so := o2 _ _ sr
        refine ⟨two_ok (x := some l) (y := drop r k) h64 hd hl o1 sl so, fun lo hi hs => two_sub (x := some l) (y := drop r k) sl so hs.1 hs.2, fun j => ?_⟩
        rw [two_list, lk_append, o3]
        simp only [list, lk_append, olist]
        by_cases e : j = k
        · subst e
          have : lk l.list j = none := lk_out hl (by have := sl.2; omega)
          simp [this]
        · simp [e]
    · rw [if_neg hf]
      have hout : k < key ∨ key + 2 ^ (b + 1) ≤ k := by
        rcases Nat.lt_or_ge k key with h | h
        · exact .inl h
        · rcases Nat.lt_or_ge k (key + 2 ^ (b + 1)) with h' | h'
          · exact absurd ((fits_iff (Nat.two_pow_pos _) hd).2 ⟨h, h'⟩) hf
          · exact .inr h'
      refine ⟨ht', fun _ _ h => h, fun j => ?_⟩
      by_cases e : j = k
      · subst e
        rw [if_pos rfl]
        exact lk_out (t := .node key b l r) ht' hout
      · simp [e, olist]

def get : PT → Nat → Option Int
  | .leaf k' v, k => if k' = k then some v else none
  | .node _ b l r, k => if k / 2 ^ b % 2 = 0 then get l k else get r k
theorem get_eq (k : Nat) : ∀ t, Ok t → get t k = lk t.list k := by
  intro t
  induction t with
  | leaf k' v => intro _; simp [get, list, lk]
  | node key b l r ihl ihr =>
    rintro ⟨h64, hd, hl, hr, sl, sr⟩
    have e2 := pow_succ2 b
    have hB := Nat.two_pow_pos b
    simp only [get, list, lk_append, ihl hl, ihr hr]
    by_cases h0 : k / 2 ^ b % 2 = 0
    · rw [if_pos h0]
      have : lk r.list k = none := by
        cases h : lk r.list k with
        | none => rfl
        | some v =>
          exfalso
          have hm := keys_in hr _ (lk_mem h)
          simp only at hm
          have h1 := sr.1
          have h2 := sr.2
          have := (bit_iff (k := k) hB (by rw [← e2]; exact hd) (by omega) (by omega)).1 h0
          omega
      rw [this]; simp
    · rw [if_neg h0]
      have : lk l.list k = none := by
        cases h : lk l.list k with
        | none => rfl
        | some v =>
          exfalso
          have hm := keys_in hl _ (lk_mem h)
          simp only at hm
          have h1 := sl.1
          have h2 := sl.2
          exact h0 ((bit_iff (k := k) hB (by rw [← e2]; exact hd) (by omega) (by omega)).2 (by omega))
      rw [this]; simp
end Go.Proofs.Ytenaddjnaeebbaa.pat
