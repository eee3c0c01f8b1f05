/- Plain laws of keys by their bits: no program stands here. -/
import Derived.Test.YtenaddjnaeebbaaBase
import Derived.Lib.BitFns
namespace Go.Proofs.Ytenaddjnaeebbaa.pat

/-- lists of keys with values -/
abbrev KL := List (Nat × Int)
def lk : KL → Nat → Option Int
  | [], _ => none
  | (a, v) :: t, k => if a = k then some v else lk t k
theorem lk_append (l r : KL) (k : Nat) : lk (l ++ r) k = (lk l k).or (lk r k) := by
  induction l with
  | nil => rfl
  | cons p l ih =>
    obtain ⟨a, v⟩ := p
    simp only [List.cons_append, lk]
    split
    · rfl
    · exact ih
theorem lk_none {l : KL} {k : Nat} (h : ∀ p ∈ l, p.1 ≠ k) : lk l k = none := by
  induction l with
  | nil => rfl
  | cons p l ih =>
    obtain ⟨a, v⟩ := p
    have h1 : a ≠ k := h (a, v) (by simp)
    simp only [lk, if_neg h1]
    exact ih fun q hq => h q (by simp [hq])
theorem lk_mem {l : KL} {k : Nat} {v : Int} (h : lk l k = some v) : (k, v) ∈ l := by
  induction l with
  | nil => simp [lk] at h
  | cons p l ih =>
    obtain ⟨a, u⟩ := p
    simp only [lk] at h
    by_cases e : a = k
    · rw [if_pos e] at h; cases h; subst e; simp
    · rw [if_neg e] at h; simp [ih h]

/-- a tree: a key, or two parts by a bit -/
inductive PT where
  | leaf (k : Nat) (v : Int)
  | node (key b : Nat) (l r : PT)
namespace PT
def key : PT → Nat
  | leaf k _ => k
  | node key _ _ _ => key
def lev : PT → Nat
  | leaf _ _ => 0
  | node _ b _ _ => b + 1
def list : PT → KL
  | leaf k v => [(k, v)]
  | node _ _ l r => l.list ++ r.list
def cnt : PT → Nat
  | leaf _ _ => 1
  | node _ _ l r => l.cnt + r.cnt
def sz : PT → Nat
  | leaf _ _ => 1
  | node _ _ l r => 1 + l.sz + r.sz
end PT
open PT
theorem cnt_eq (t : PT) : t.list.length = t.cnt := by
  induction t with
  | leaf => rfl
  | node key b l r ihl ihr => simp only [list, cnt, List.length_append, ihl, ihr]
/-- a tree lies between two numbers -/
def Sub (t : PT) (lo hi : Nat) : Prop := lo ≤ t.key ∧ t.key + 2 ^ t.lev ≤ hi
def Ok : PT → Prop
  | leaf k _ => k < 2 ^ 64
  | node key b l r => key + 2 ^ (b + 1) ≤ 2 ^ 64 ∧ 2 ^ (b + 1) ∣ key ∧ Ok l ∧ Ok r ∧ Sub l key (key + 2 ^ b) ∧ Sub r (key + 2 ^ b) (key + 2 ^ (b + 1))
theorem Ok.dvd {t : PT} (h : Ok t) : 2 ^ t.lev ∣ t.key := by
  cases t with
  | leaf k v => exact ⟨k, by simp [lev, key]⟩
  | node key b l r => exact h.2.1
theorem Ok.top {t : PT} (h : Ok t) : t.key + 2 ^ t.lev ≤ 2 ^ 64 := by
  cases t with
  | leaf k v => simp only [key, lev]; have : k < 2 ^ 64 := h; omega
  | node key b l r => exact h.1
theorem Ok.lt {t : PT} (h : Ok t) : t.key < 2 ^ 64 := by
  have h1 := h.top
  have h2 := Nat.two_pow_pos t.lev
  omega
theorem Ok.lev {t : PT} (h : Ok t) : t.lev ≤ 64 := by
  have h1 := h.top
  rcases Nat.lt_or_ge 64 t.lev with h2 | h2
  · have h3 : 2 ^ 65 ≤ 2 ^ t.lev := Nat.pow_le_pow_right (by decide) h2
    omega
  · exact h2
/-- each key lies in its tree's span -/
theorem keys_in {t : PT} (h : Ok t) : ∀ p ∈ t.list, t.key ≤ p.1 ∧ p.1 < t.key + 2 ^ t.lev := by
  induction t with
  | leaf k v => intro p hp; simp [list] at hp; subst hp; simp [key, PT.lev]
  | node key b l r ihl ihr =>
    intro p hp
    have e : 2 ^ (b + 1) = 2 * 2 ^ b := by rw [Nat.pow_succ, Nat.mul_comm]
    obtain ⟨_, _, hl, hr, sl, sr⟩ := h
    simp only [PT.key, PT.lev]
    unfold Sub at sl sr
    rcases List.mem_append.1 hp with hp | hp
    · have := ihl hl p hp; omega
    · have := ihr hr p hp; omega
theorem lk_out {t : PT} (h : Ok t) {k : Nat} (hk : k < t.key ∨ t.key + 2 ^ t.lev ≤ k) : lk t.list k = none :=
  lk_none fun p hp => by have := keys_in h p hp; omega

/-- rising keys -/
def Rising : KL → Prop
  | [] => True
  | p :: l => (∀ q ∈ l, p.1 < q.1) ∧ Rising l
theorem Rising.append {l r : KL} (hl : Rising l) (hr : Rising r) (h : ∀ p ∈ l, ∀ q ∈ r, p.1 < q.1) : Rising (l ++ r) := by
  induction l with
  | nil => exact hr
  | cons p l ih =>
    refine ⟨fun q hq => ?_, ih hl.2 fun x hx => h x (by simp [hx])⟩
    rcases List.mem_append.1 hq with hq | hq
    · exact hl.1 q hq
    · exact h p (by simp) q hq
theorem rising {t : PT} (h : Ok t) : Rising t.list := by
  induction t with
  | leaf k v => exact ⟨fun q hq => by simp at hq, trivial⟩
  | node key b l r ihl ihr =>
    obtain ⟨_, _, hl, hr, sl, sr⟩ := h
    refine (ihl hl).append (ihr hr) fun p hp q hq => ?_
    have h1 := keys_in hl p hp
    have h2 := keys_in hr q hq
    unfold Sub at sl sr
    omega
/-- rising keys with the same values are the same -/
theorem rising_ext : ∀ {l r : KL}, Rising l → Rising r → (∀ k, lk l k = lk r k) → l = r
  | [], [], _, _, _ => rfl
  | [], (a, v) :: r, _, _, h => by have := h a; simp [lk] at this
  | (a, v) :: l, [], _, _, h => by have := h a; simp [lk] at this
  | (a, v) :: l, (b, u) :: r, hl, hr, h => by
    have hab : a = b := by
      rcases Nat.lt_trichotomy a b with hlt | e | hlt
      · have h1 := h a
        have h2 : lk ((b, u) :: r) a = none := lk_none fun p hp => by
          rcases List.mem_cons.1 hp with rfl | hp
          · simp; omega
          · have := hr.1 p hp; simp at this; omega
        rw [h2] at h1
        simp [lk] at h1
      · exact e
      · have h1 := h b
        have h2 : lk ((a, v) :: l) b = none := lk_none fun p hp => by
          rcases List.mem_cons.1 hp with rfl | hp
          · simp; omega
          · have := hl.1 p hp; simp at this; omega
        rw [h2] at h1
        simp [lk] at h1
    subst hab
    have hv : v = u := by have := h a; simpa [lk] using this
    subst hv
    rw [rising_ext hl.2 hr.2 fun k => ?_]
    have h1 := h k
    simp only [lk] at h1
    by_cases e : a = k
    · subst e
      rw [lk_none fun p hp => by have := hl.1 p hp; simp at this; omega, lk_none fun p hp => by have := hr.1 p hp; simp at this; omega]
    · rwa [if_neg e, if_neg e] at h1

/-! ### bits -/
theorem fits_iff {k key M : Nat} (hM : 0 < M) (hd : M ∣ key) : k / M * M = key ↔ key ≤ k ∧ k < key + M := by
  obtain ⟨q, rfl⟩ := hd
  have h1 := Nat.div_add_mod k M
  have h2 := Nat.mod_lt k hM
  rw [Nat.mul_comm (k / M) M]
  constructor
  · intro h; omega
  · rintro ⟨h3, h4⟩
    have : k / M = q := by
      apply Nat.div_eq_of_lt_le
      · rw [Nat.mul_comm]; exact h3
      · rw [Nat.add_mul, Nat.one_mul, Nat.mul_comm q M]; exact h4
    rw [this]
theorem bit_iff {k key B : Nat} (hB : 0 < B) (hd : 2 * B ∣ key) (h1 : key ≤ k) (h2 : k < key + 2 * B) : k / B % 2 = 0 ↔ k < key + B := by
  obtain ⟨q, rfl⟩ := hd
  have e : k / B = 2 * q + (k - 2 * B * q) / B := by
    have : k = B * (2 * q) + (k - 2 * B * q) := by have : B * (2 * q) = 2 * B * q := by rw [← Nat.mul_assoc, Nat.mul_comm B 2]
                                                   omega
    calc k / B = (B * (2 * q) + (k - 2 * B * q)) / B := by rw [← this]
      _ = 2 * q + (k - 2 * B * q) / B := by rw [Nat.mul_add_div hB]
  rw [e]
  constructor
  · intro h
    rcases Nat.lt_or_ge k (2 * B * q + B) with h3 | h3
    · exact h3
    · have : (k - 2 * B * q) / B = 1 := by
        apply Nat.div_eq_of_lt_le
        · omega
        · omega
      omega
  · intro h
    have : (k - 2 * B * q) / B = 0 := Nat.div_eq_of_lt (by omega)
    omega
theorem step_le {d a b : Nat} (ha : d ∣ a) (hb : d ∣ b) (h : a < b) : a + d ≤ b := by
  obtain ⟨x, rfl⟩ := ha
  obtain ⟨y, rfl⟩ := hb
  have : x < y := Nat.lt_of_mul_lt_mul_left h
  calc d * x + d = d * (x + 1) := by rw [Nat.mul_succ]
    _ ≤ d * y := Nat.mul_le_mul_left d this

/-- the highest bit in which two numbers differ -/
theorem high : ∀ (f x y : Nat), f ≤ 64 → x < 2 ^ f → y < 2 ^ f → x ≠ y → ∃ h, Lib.bitLen (x ^^^ y) = h + 1 ∧ h < f ∧ x / 2 ^ (h + 1) = y / 2 ^ (h + 1) ∧ x / 2 ^ h ≠ y / 2 ^ h := by
  intro f
  induction f with
  | zero => intro x y _ hx hy hne; simp at hx hy; omega
  | succ f ih =>
    intro x y hf hx hy hne
    have hlt : x ^^^ y < 2 ^ 64 := Nat.lt_of_lt_of_le (Nat.xor_lt_two_pow hx hy) (Nat.pow_le_pow_right (by decide) hf)
    have hx0 : x ^^^ y ≠ 0 := by
      intro h
      apply hne
      have h2 : (x ^^^ y) ^^^ y = 0 ^^^ y := by rw [h]
      rwa [Nat.xor_assoc, Nat.xor_self, Nat.xor_zero, Nat.zero_xor] at h2
    have hdiv : (x ^^^ y) / 2 = (x / 2) ^^^ (y / 2) := Nat.xor_div_two
    rw [Nat.pow_succ] at hx hy
    by_cases e : x / 2 = y / 2
    · refine ⟨0, ?_, by omega, by simpa using e, by simpa using hne⟩
      rw [Lib.bitLen_half _ hx0 hlt, hdiv, e, Nat.xor_self]
      rfl
    · obtain ⟨h, h1, h2, h3, h4⟩ := ih (x / 2) (y / 2) (by omega) (by omega) (by omega) e
      refine ⟨h + 1, ?_, by omega, ?_, ?_⟩
      · rw [Lib.bitLen_half _ hx0 hlt, hdiv, h1]; omega
      · rw [Nat.div_div_eq_div_mul, Nat.div_div_eq_div_mul] at h3
        rw [show 2 ^ (h + 1 + 1) = 2 * 2 ^ (h + 1) by rw [Nat.pow_succ, Nat.mul_comm]]
        exact h3
      · rw [Nat.div_div_eq_div_mul, Nat.div_div_eq_div_mul] at h4
        rw [show 2 ^ (h + 1) = 2 * 2 ^ h by rw [Nat.pow_succ, Nat.mul_comm]]
        exact h4
end Go.Proofs.Ytenaddjnaeebbaa.pat
