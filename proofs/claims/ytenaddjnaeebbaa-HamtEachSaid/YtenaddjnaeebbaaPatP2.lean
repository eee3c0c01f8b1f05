/- Plain laws of keys by their bits: two trees as one, put, drop, get. -/
import Derived.Test.YtenaddjnaeebbaaPatP
namespace Go.Proofs.Ytenaddjnaeebbaa.pat
open PT

/-- the bit by which two keys part -/
def hb (x y : Nat) : Nat := Lib.bitLen (x ^^^ y) - 1
def both (a b : PT) : PT :=
  if a.key / 2 ^ hb a.key b.key % 2 = 0 then .node (a.key / 2 ^ (hb a.key b.key + 1) * 2 ^ (hb a.key b.key + 1)) (hb a.key b.key) a b
  else .node (b.key / 2 ^ (hb a.key b.key + 1) * 2 ^ (hb a.key b.key + 1)) (hb a.key b.key) b a

/-- two spans have nothing in common -/
def Apart (a b : PT) : Prop := a.key + 2 ^ a.lev ≤ b.key ∨ b.key + 2 ^ b.lev ≤ a.key
theorem Apart.symm {a b : PT} (h : Apart a b) : Apart b a := Or.symm h
theorem Apart.ne {a b : PT} (h : Apart a b) : a.key ≠ b.key := by
  have h1 := Nat.two_pow_pos a.lev
  have h2 := Nat.two_pow_pos b.lev
  unfold Apart at h
  omega
theorem hb_spec {a b : PT} (ha : Ok a) (hb' : Ok b) (h : Apart a b) : hb a.key b.key < 64 ∧ Lib.bitLen (a.key ^^^ b.key) = hb a.key b.key + 1 ∧ a.key / 2 ^ (hb a.key b.key + 1) = b.key / 2 ^ (hb a.key b.key + 1) ∧ a.key / 2 ^ hb a.key b.key ≠ b.key / 2 ^ hb a.key b.key := by
  obtain ⟨n, h1, h2, h3, h4⟩ := high 64 a.key b.key (Nat.le_refl _) ha.lt hb'.lt h.ne
  have e : hb a.key b.key = n := by unfold hb; omega
  rw [e]
  exact ⟨h2, h1, h3, h4⟩

/-- what lies at a smaller level lies within the part -/
theorem lev_le {a b : PT} (ha : Ok a) (h : Apart a b) {n : Nat} (he : a.key / 2 ^ (n + 1) = b.key / 2 ^ (n + 1)) : a.lev ≤ n := by
  rcases Nat.lt_or_ge n a.lev with hl | hl
  · exfalso
    -- then b's key lies in a's span
    have e : a.key / 2 ^ a.lev = b.key / 2 ^ a.lev := by
      obtain ⟨d, hd⟩ : ∃ d, a.lev = n + 1 + d := ⟨a.lev - (n + 1), by omega⟩
      rw [hd, Nat.pow_add, ← Nat.div_div_eq_div_mul, ← Nat.div_div_eq_div_mul, he]
    have h1 := Nat.div_mul_cancel ha.dvd
    have h2 := Nat.div_add_mod b.key (2 ^ a.lev)
    have h3 := Nat.mod_lt b.key (Nat.two_pow_pos a.lev)
    rw [Nat.mul_comm, ← e, h1] at h2
    have h4 := Nat.two_pow_pos b.lev
    -- a.key ≤ b.key < a.key + 2^lev
    rcases h with h | h
    · omega
    · have h5 := Nat.two_pow_pos b.lev
      omega
  · exact hl

theorem pow_succ2 (n : Nat) : 2 ^ (n + 1) = 2 * 2 ^ n := by rw [Nat.pow_succ, Nat.mul_comm]

/-- the node of two trees whose keys part at a bit -/
theorem part {a b : PT} (ha : Ok a) (hb : Ok b) {n : Nat} (la : a.lev ≤ n) (lb : b.lev ≤ n) (hn : n < 64) (he : a.key / 2 ^ (n + 1) = b.key / 2 ^ (n + 1)) (hne : a.key / 2 ^ n ≠ b.key / 2 ^ n) (h0 : a.key / 2 ^ n % 2 = 0) :
    Ok (.node (a.key / 2 ^ (n + 1) * 2 ^ (n + 1)) n a b) := by
  have hB := Nat.two_pow_pos n
  have e2 := pow_succ2 n
  have hM : 0 < 2 ^ (n + 1) := Nat.two_pow_pos _
  have hd : 2 ^ (n + 1) ∣ a.key / 2 ^ (n + 1) * 2 ^ (n + 1) := ⟨_, Nat.mul_comm _ _⟩
  have fa := (fits_iff (k := a.key) (key := a.key / 2 ^ (n + 1) * 2 ^ (n + 1)) hM hd).1 rfl
  have fb := (fits_iff (k := b.key) (key := a.key / 2 ^ (n + 1) * 2 ^ (n + 1)) hM hd).1 (by rw [he])
  obtain ⟨P, hP⟩ : ∃ P, P = a.key / 2 ^ (n + 1) * 2 ^ (n + 1) := ⟨_, rfl⟩
  rw [← hP] at hd fa fb ⊢
  have hd2 : 2 * 2 ^ n ∣ P := by rw [← e2]; exact hd
  have ba := (bit_iff hB hd2 fa.1 (by omega)).1 h0
  have hb1 : ¬ b.key / 2 ^ n % 2 = 0 := by
    intro h
    apply hne
    have x1 : a.key / 2 ^ n / 2 = b.key / 2 ^ n / 2 := by rw [Nat.div_div_eq_div_mul, Nat.div_div_eq_div_mul, ← Nat.pow_succ]; exact he
    omega
  have bb : P + 2 ^ n ≤ b.key := by
    rcases Nat.lt_or_ge b.key (P + 2 ^ n) with h | h
    · exact absurd ((bit_iff hB hd2 fb.1 (by omega)).2 h) hb1
    · exact h
  have dPn : 2 ^ n ∣ P := Nat.dvd_trans ⟨2, Nat.mul_comm _ _⟩ hd2
  have da : 2 ^ a.lev ∣ P + 2 ^ n := Nat.dvd_add (Nat.dvd_trans (Nat.pow_dvd_pow 2 la) dPn) (Nat.pow_dvd_pow 2 la)
  have db : 2 ^ b.lev ∣ P + 2 ^ (n + 1) := Nat.dvd_add (Nat.dvd_trans (Nat.pow_dvd_pow 2 (by omega)) hd) (Nat.pow_dvd_pow 2 (by omega))
  have sa := step_le ha.dvd da ba
  have sb := step_le hb.dvd db fb.2
  have d64 : 2 ^ (n + 1) ∣ 2 ^ 64 := Nat.pow_dvd_pow 2 (by omega)
  have s64 := step_le hd d64 (Nat.lt_of_le_of_lt fa.1 ha.lt)
  exact ⟨s64, hd, ha, hb, ⟨fa.1, sa⟩, ⟨bb, sb⟩⟩

theorem hb_comm (x y : Nat) : hb x y = hb y x := by unfold hb; rw [Nat.xor_comm]
theorem both_ok {a b : PT} (ha : Ok a) (hb' : Ok b) (h : Apart a b) : Ok (both a b) := by
  obtain ⟨h64, _, he, hne⟩ := hb_spec ha hb' h
  have la := lev_le ha h he
  have lb := lev_le hb' h.symm he.symm
  unfold both
  split
  · rename_i h0
    exact part ha hb' la lb h64 he hne h0
  · rename_i h0
    refine part hb' ha lb la h64 he.symm (Ne.symm hne) ?_
    have x1 : a.key / 2 ^ hb a.key b.key / 2 = b.key / 2 ^ hb a.key b.key / 2 := by rw [Nat.div_div_eq_div_mul, Nat.div_div_eq_div_mul, ← Nat.pow_succ]; exact he
    omega
/-- it lies wherever both lie -/
theorem both_sub {a b : PT} (ha : Ok a) (hb' : Ok b) (h : Apart a b) {lo e : Nat} (hd : 2 ^ e ∣ lo) (sa : Sub a lo (lo + 2 ^ e)) (sb : Sub b lo (lo + 2 ^ e)) : Sub (both a b) lo (lo + 2 ^ e) := by
  obtain ⟨h64, _, he, hne⟩ := hb_spec ha hb' h
  have hok := both_ok ha hb' h
  have hM := Nat.two_pow_pos e
  have pa := Nat.two_pow_pos a.lev
  have pb := Nat.two_pow_pos b.lev
  have fa := (fits_iff (k := a.key) hM hd).2 ⟨sa.1, by have := sa.2; omega⟩
  have fb := (fits_iff (k := b.key) hM hd).2 ⟨sb.1, by have := sb.2; omega⟩
  have e1 : a.key / 2 ^ e = b.key / 2 ^ e := Nat.eq_of_mul_eq_mul_right hM (fa.trans fb.symm)
  have hlt : hb a.key b.key + 1 ≤ e := by
    rcases Nat.lt_or_ge (hb a.key b.key) e with hl | hl
    · exact hl
    · exfalso
      apply hne
      obtain ⟨d, hd'⟩ : ∃ d, hb a.key b.key = e + d := ⟨hb a.key b.key - e, by omega⟩
      rw [hd', Nat.pow_add, ← Nat.div_div_eq_div_mul, ← Nat.div_div_eq_div_mul, e1]
  obtain ⟨n, hn⟩ : ∃ n, n = hb a.key b.key := ⟨_, rfl⟩
  have key_lev : (both a b).lev = n + 1 ∧ (both a b).key = a.key / 2 ^ (n + 1) * 2 ^ (n + 1) := by
    unfold both
    rw [← hn]
    split
    · exact ⟨rfl, rfl⟩
    · rw [← hn] at he; exact ⟨rfl, by show b.key / 2 ^ (n + 1) * 2 ^ (n + 1) = a.key / 2 ^ (n + 1) * 2 ^ (n + 1); rw [he]⟩
  obtain ⟨k1, k2⟩ := key_lev
  unfold Sub
  rw [k1, k2]
  rw [← hn] at hlt
  have dn : 2 ^ (n + 1) ∣ lo := Nat.dvd_trans (Nat.pow_dvd_pow 2 hlt) hd
  have dhi : 2 ^ (n + 1) ∣ lo + 2 ^ e := Nat.dvd_add dn (Nat.pow_dvd_pow 2 hlt)
  have hMn : 0 < 2 ^ (n + 1) := Nat.two_pow_pos _
  have f := (fits_iff (k := a.key) (key := a.key / 2 ^ (n + 1) * 2 ^ (n + 1)) hMn ⟨_, Nat.mul_comm _ _⟩).1 rfl
  constructor
  · obtain ⟨q, hq⟩ := dn
    rw [hq, Nat.mul_comm]
    refine Nat.mul_le_mul_right _ ?_
    rw [Nat.le_div_iff_mul_le hMn, Nat.mul_comm, ← hq]
    exact sa.1
  · exact step_le ⟨_, Nat.mul_comm _ _⟩ dhi (by have := sa.2; omega)
theorem both_lk {a b : PT} (ha : Ok a) (hb' : Ok b) (h : Apart a b) (k : Nat) : lk (both a b).list k = (lk a.list k).or (lk b.list k) := by
  unfold both
  split
  · exact lk_append _ _ _
  · rw [PT.list, lk_append]
    cases h1 : lk b.list k with
    | none => simp
    | some v =>
      have hm := keys_in hb' _ (lk_mem h1)
      have : lk a.list k = none := lk_out ha (by unfold Apart at h; simp at hm; omega)
      rw [this]
      rfl
end Go.Proofs.Ytenaddjnaeebbaa.pat
