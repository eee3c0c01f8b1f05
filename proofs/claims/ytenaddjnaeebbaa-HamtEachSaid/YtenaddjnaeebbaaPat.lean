/- Package pat in memory; what only computes. -/
import Derived.Test.YtenaddjnaeebbaaPatP4
import Derived.Test.YtenaddjnaeebbaaMore
import Derived.Test.YtenaddjnaeebbaaRows
import Derived.Laws.BitsAllLaws
import Derived.Laws.BitsLemmas
import Derived.Deep.QuietTactic
import Derived.BigQuiet
import Derived.IntWalk
namespace Go.Proofs.Ytenaddjnaeebbaa.pat
open Go.RowKit

/-- block b has a tree -/
def HP (B : Nat) (w : World) : Nat → PT → Prop
  | b, .leaf k v => B ≤ b ∧ w.heap[b]? = some (.cells #[.int .u64 (k : Nat), .int .u64 0, .int .i64 v, .int .i64 1, .pointer none, .pointer none] 71 (0, 0))
  | b, .node key n l r => B ≤ b ∧ ∃ bl br, w.heap[b]? = some (.cells #[.int .u64 (key : Nat), .int .u64 ((2 ^ n : Nat) : Int), .int .i64 0, .int .i64 ((l.cnt + r.cnt : Nat) : Int), .pointer (some ⟨bl, 0, none⟩), .pointer (some ⟨br, 0, none⟩)] 71 (0, 0)) ∧
      HP B w bl l ∧ HP B w br r
theorem HP.up {B : Nat} {w w' : World} (hb : Below w.heap.size w w') : ∀ {t : PT} {b : Nat}, HP B w b t → HP B w' b t
  | .leaf _ _, _, ⟨hB, h⟩ => ⟨hB, upb hb h⟩
  | .node _ _ _ _, _, ⟨hB, bl, br, h, hl, hr⟩ => ⟨hB, bl, br, upb hb h, HP.up hb hl, HP.up hb hr⟩
theorem HP.lower {B B' : Nat} {w : World} (h' : B' ≤ B) : ∀ {t : PT} {b : Nat}, HP B w b t → HP B' w b t
  | .leaf _ _, _, ⟨hB, h⟩ => ⟨Nat.le_trans h' hB, h⟩
  | .node _ _ _ _, _, ⟨hB, bl, br, h, hl, hr⟩ => ⟨Nat.le_trans h' hB, bl, br, h, HP.lower h' hl, HP.lower h' hr⟩
theorem HP.le {B : Nat} {w : World} : ∀ {t : PT} {b : Nat}, HP B w b t → B ≤ b
  | .leaf _ _, _, h => h.1
  | .node _ _ _ _, _, h => h.1

/-- the cells of a node, by places -/
structure Cells (w : World) (b : Nat) (key bit : Nat) (v n : Int) (pl pr : Option Addr) : Prop where
  c0 : w.cell? ⟨b, 0, none⟩ = some (.int .u64 (key : Nat))
  c1 : w.cell? ⟨b, 1, none⟩ = some (.int .u64 (bit : Nat))
  c2 : w.cell? ⟨b, 2, none⟩ = some (.int .i64 v)
  c3 : w.cell? ⟨b, 3, none⟩ = some (.int .i64 n)
  c4 : w.cell? ⟨b, 4, none⟩ = some (.pointer pl)
  c5 : w.cell? ⟨b, 5, none⟩ = some (.pointer pr)
theorem cells6 {w : World} {b : Nat} {v0 v1 v2 v3 v4 v5 : Value} {t : Nat} (h : w.heap[b]? = some (.cells #[v0, v1, v2, v3, v4, v5] t (0, 0))) :
    w.cell? ⟨b, 0, none⟩ = some v0 ∧ w.cell? ⟨b, 1, none⟩ = some v1 ∧ w.cell? ⟨b, 2, none⟩ = some v2 ∧ w.cell? ⟨b, 3, none⟩ = some v3 ∧ w.cell? ⟨b, 4, none⟩ = some v4 ∧ w.cell? ⟨b, 5, none⟩ = some v5 := by
  refine ⟨?_, ?_, ?_, ?_, ?_, ?_⟩ <;> simp [World.cell?, h]
/-- a tree's bit -/
def bit : PT → Nat
  | .leaf _ _ => 0
  | .node _ n _ _ => 2 ^ n
theorem HP.cells {B : Nat} {w : World} {t : PT} {b : Nat} (h : HP B w b t) : ∃ v pl pr, Cells w b t.key (bit t) v (t.cnt : Nat) pl pr := by
  cases t with
  | leaf k v =>
    obtain ⟨h0, h1, h2, h3, h4, h5⟩ := cells6 h.2
    exact ⟨v, _, _, ⟨h0, h1, h2, h3, h4, h5⟩⟩
  | node key n l r =>
    obtain ⟨_, bl, br, h, _, _⟩ := h
    obtain ⟨h0, h1, h2, h3, h4, h5⟩ := cells6 h
    exact ⟨0, _, _, ⟨h0, h1, h2, h3, h4, h5⟩⟩
theorem Cells.up {w w' : World} {b key bit : Nat} {v n : Int} {pl pr : Option Addr} (h : Cells w b key bit v n pl pr) (hb : Below w.heap.size w w') : Cells w' b key bit v n pl pr :=
  ⟨upc hb h.c0, upc hb h.c1, upc hb h.c2, upc hb h.c3, upc hb h.c4, upc hb h.c5⟩

theorem or_pred (n : Nat) : 2 ^ n ||| (2 ^ n - 1) = 2 ^ (n + 1) - 1 := by
  have h := nat_join n (2 ^ n) (2 ^ n - 1) (Nat.mod_self _) (Nat.sub_lt (Nat.two_pow_pos n) (by decide))
  rw [h]
  have := Nat.two_pow_pos n
  have := pow_succ2 n
  omega
theorem andNot_mask (k n : Nat) (hk : k < 2 ^ 64) (hn : n ≤ 64) : k &&& (18446744073709551615 - (2 ^ n - 1)) = k / 2 ^ n * 2 ^ n := by
  apply Nat.eq_of_testBit_eq
  intro i
  have h1 : 18446744073709551615 - (2 ^ n - 1) = (2 ^ (64 - n) - 1) * 2 ^ n := by
    have e : 2 ^ (64 - n) * 2 ^ n = 18446744073709551616 := by rw [← Nat.pow_add, show 64 - n + n = 64 by omega]
    have p := Nat.two_pow_pos n
    rw [Nat.sub_mul, e]
    omega
  rw [h1, Nat.testBit_and, Nat.testBit_mul_two_pow, Nat.testBit_mul_two_pow, Nat.testBit_two_pow_sub_one, Nat.testBit_div_two_pow]
  by_cases hi : n ≤ i
  · simp only [hi, decide_true, Bool.true_and]
    by_cases hi2 : i < 64
    · have e1 : decide (i - n < 64 - n) = true := by simp; omega
      rw [e1, Bool.and_true, show i - n + n = i by omega]
    · have : k.testBit i = false := Nat.testBit_lt_two_pow (Nat.lt_of_lt_of_le hk (Nat.pow_le_pow_right (by decide) (by omega)))
      rw [this, show i - n + n = i by omega, this]
      simp
  · simp [hi]

set_option maxHeartbeats 1000000 in
theorem above_any (k n : Nat) (w : World) (hk : k < 2 ^ 64) (hn : n < 64) :
    Calls Try.prog 75 #[.int .u64 (k : Nat), .int .u64 ((2 ^ n : Nat) : Int)] w fun e w' => e = .returned (.int .u64 ((k / 2 ^ (n + 1) * 2 ^ (n + 1) : Nat) : Int)) ∧ w = w' := by
  obtain ⟨M, hM⟩ : ∃ M, M = 2 ^ n := ⟨_, rfl⟩
  have hM0 : 0 < M := by rw [hM]; exact Nat.two_pow_pos n
  have hM1 : M ≤ 9223372036854775808 := by rw [hM]; exact Nat.pow_le_pow_right (by decide) (show n ≤ 63 by omega)
  have e1 : IntKind.u64.wrap ((M : Int) - 1) = ((M - 1 : Nat) : Int) := by rw [show ((M : Int) - 1) = ((M - 1 : Nat) : Int) by omega]; simp [IntKind.wrap, IntKind.bits, IntKind.signed]; omega
  have e2 : bits .or .u64 (M : Int) ((M - 1 : Nat) : Int) = ((2 ^ (n + 1) - 1 : Nat) : Int) := by rw [u64_or_nat _ _ (by omega) (by omega), hM, or_pred]
  have e3 : bits .andNot .u64 (k : Int) ((2 ^ (n + 1) - 1 : Nat) : Int) = ((k / 2 ^ (n + 1) * 2 ^ (n + 1) : Nat) : Int) := by
    have hp : 2 ^ (n + 1) ≤ 18446744073709551616 := Nat.pow_le_pow_right (by decide) (show n + 1 ≤ 64 by omega)
    rw [u64_andNot_nat _ _ (by omega) (by omega), andNot_mask k (n + 1) hk (by omega)]
  obtain ⟨Q, hQ⟩ : ∃ Q, Q = 2 ^ (n + 1) - 1 := ⟨_, rfl⟩
  obtain ⟨R, hR⟩ : ∃ R, R = k / 2 ^ (n + 1) * 2 ^ (n + 1) := ⟨_, rfl⟩
  rw [← hM, ← hR]
  rw [← hQ] at e2 e3
  rw [← hR] at e3
  clear hM hQ hR
  go_enter Try.func75, Try.ntmps75
  go_wp2_with fail
  go_ret
  exact ⟨rfl, rfl⟩
end Go.Proofs.Ytenaddjnaeebbaa.pat
