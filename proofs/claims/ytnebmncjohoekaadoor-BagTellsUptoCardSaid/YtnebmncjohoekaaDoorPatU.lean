/- Package pat: within; the union of trees. -/
import Derived.Test.YtnebmncjohoekaaDoorPatMap
namespace Go.Proofs.YtnebmncjohoekaaDoor.pat
open Go.RowKit

theorem bit_lt (a b : PT) : bit b < bit a ↔ b.lev < a.lev := by
  cases a with
  | leaf k v => simp [bit, PT.lev]
  | node key n l r =>
    cases b with
    | leaf k v =>
      have := Nat.two_pow_pos n
      simp only [bit, PT.lev]
      omega
    | node key' m l' r' =>
      simp only [bit, PT.lev]
      rw [Nat.pow_lt_pow_iff_right (by decide)]
      omega
theorem bit_eq (a b : PT) : bit a = bit b ↔ a.lev = b.lev := by
  have h1 := bit_lt a b
  have h2 := bit_lt b a
  omega
theorem bit_lt64 {a : PT} (h : Ok a) : bit a < 18446744073709551616 := by
  cases a with
  | leaf k v => exact Nat.zero_lt_succ _
  | node key n l r =>
    have := (node_facts h).1
    exact Nat.lt_of_le_of_lt (Nat.pow_le_pow_right (by decide) (show n ≤ 63 by omega)) (by decide)

set_option maxHeartbeats 2000000 in
theorem within_any (B : Nat) (w : World) (pa pb : Nat) (a b : PT) (ha : HP B w pa a) (hb : HP B w pb b) (oa : Ok a) (ob : Ok b) (r : Bool) (hr : decide (within a b) = r) :
    Calls Tryd.prog 53 #[.pointer (some ⟨pa, 0, none⟩), .pointer (some ⟨pb, 0, none⟩)] w fun e w' => e = .returned (.bool r) ∧ ∃ m, w' = w.drewN m := by
  obtain ⟨va, la, ra, ca⟩ := ha.cells
  obtain ⟨vb, lb, rb, cb⟩ := hb.cells
  have k1 := ca.c1
  have k0 := cb.c0
  have k1b := cb.c1
  by_cases hl : b.lev < a.lev
  · cases a with
    | leaf k v => simp [PT.lev] at hl
    | node key n l r' =>
      have hn := (node_facts oa).1
      have hbit := (bit_lt (.node key n l r') b).2 hl
      have hf : decide (b.key / 2 ^ (n + 1) * 2 ^ (n + 1) = key) = r := by
        rw [← hr]
        apply decide_eq_decide.2
        exact ⟨fun h => ⟨hl, h⟩, fun h => h.2⟩
      have HF := Lib.hid (fun m => fits_any (w.drewN m) pa key n b.key va _ la ra (ca.up (belowDrewN w m)) ob.lt hn r hf)
      have e1 : bit (.node key n l r') = 2 ^ n := rfl
      rw [e1] at hbit k1
      obtain ⟨M, hM⟩ : ∃ M, M = 2 ^ n := ⟨_, rfl⟩
      rw [← hM] at hbit k1
      obtain ⟨y, hy⟩ : ∃ y, y = b.key := ⟨_, rfl⟩
      obtain ⟨z, hz⟩ : ∃ z, z = bit b := ⟨_, rfl⟩
      rw [← hy] at k0 HF
      rw [← hz] at k1b hbit
      have hd : decide (z < M) = true := by simpa using hbit
      clear ha hb ca cb oa ob hr hl hM hy hz hf e1
      go_enter Tryd.func53, Tryd.ntmps53
      go_wp2_with fail
      go_quiet ((go_at_call 55; exact Calls.quiet_of (HF.out _)))
      go_wp2_with fail
      go_ret
      exact ⟨rfl, _, rfl⟩
  · have hbit : ¬ bit b < bit a := fun h => hl ((bit_lt a b).1 h)
    have hr' : r = false := by rw [← hr]; exact decide_eq_false (fun h => hl h.1)
    subst hr'
    obtain ⟨x, hx⟩ : ∃ x, x = bit a := ⟨_, rfl⟩
    obtain ⟨z, hz⟩ : ∃ z, z = bit b := ⟨_, rfl⟩
    rw [← hx] at k1 hbit
    rw [← hz] at k1b hbit
    have hd : decide (z < x) = false := by simpa using hbit
    clear ha hb ca cb oa ob hr hl hx hz hbit
    go_enter Tryd.func53, Tryd.ntmps53
    go_wp2_with fail
    go_quiet (fail)
    go_wp2_with fail
    go_ret
    exact ⟨rfl, _, rfl⟩

theorem cnt_union_le : ∀ (m : Nat) (a b : PT), a.sz + b.sz ≤ m → (union a b).cnt ≤ a.cnt + b.cnt := by
  have hboth : ∀ a b : PT, (both a b).cnt = a.cnt + b.cnt := by
    intro a b
    unfold both
    split
    · rfl
    · simp only [PT.cnt]; omega
  intro m
  induction m with
  | zero => intro a b h; have := sz_pos a; omega
  | succ m ih =>
    intro a b hm
    by_cases h1 : a.key = b.key ∧ a.lev = b.lev
    · match a, b, hm, h1 with
      | .leaf k v, b, _, h1 => rw [union_leaf h1]; omega
      | .node _ _ _ _, .leaf _ _, _, h1 => exact absurd h1.2 (by simp [PT.lev])
      | .node key n al ar, .node key' n' bl br, hm, h1 =>
        rw [union_same h1]
        simp only [PT.sz] at hm
        have i1 := ih al bl (by omega)
        have i2 := ih ar br (by omega)
        simp only [PT.cnt]
        omega
    · by_cases h2 : within a b
      · match a, hm, h1, h2 with
        | .leaf _ _, _, _, h2 => exact absurd h2.1 (by simp [PT.lev])
        | .node key n al ar, hm, h1, h2 =>
          rw [union_in h1 h2]
          simp only [PT.sz] at hm
          have i1 := ih al b (by omega)
          have i2 := ih ar b (by omega)
          split <;> simp only [PT.cnt] <;> omega
      · by_cases h3 : within b a
        · match b, hm, h1, h2, h3 with
          | .leaf _ _, _, _, _, h3 => exact absurd h3.1 (by simp [PT.lev])
          | .node key n bl br, hm, h1, h2, h3 =>
            rw [union_under h1 h2 h3]
            simp only [PT.sz] at hm
            have i1 := ih a bl (by omega)
            have i2 := ih a br (by omega)
            split <;> simp only [PT.cnt] <;> omega
        · rw [union_both h1 h2 h3, hboth]
          omega
theorem cnt_union (a b : PT) : (union a b).cnt ≤ a.cnt + b.cnt := cnt_union_le _ a b (Nat.le_refl _)

set_option maxRecDepth 100000 in
set_option maxHeartbeats 1000000 in
theorem union_none (w : World) (p : Option Addr) :
    Calls Tryd.prog 45 #[.pointer none, .pointer p] w fun e w' => e = .returned (.pointer p) ∧ w = w' := by
  go_enter Tryd.func45, Tryd.ntmps45
  go_wp2_with fail
  go_ret
  exact ⟨rfl, rfl⟩
set_option maxRecDepth 100000 in
set_option maxHeartbeats 1000000 in
theorem union_left (w : World) (b : Nat) :
    Calls Tryd.prog 45 #[.pointer (some ⟨b, 0, none⟩), .pointer none] w fun e w' => e = .returned (.pointer (some ⟨b, 0, none⟩)) ∧ w = w' := by
  go_enter Tryd.func45, Tryd.ntmps45
  go_wp2_with fail
  go_ret
  exact ⟨rfl, rfl⟩

/-- the bits of two trees in the walk's words -/
structure Bits (a b : PT) (x y : Nat) (s : Bool) : Prop where
  hx : bit a = x
  hy : bit b = y
  hs : decide (a.key = b.key ∧ a.lev = b.lev) = s

set_option maxRecDepth 100000 in
set_option maxHeartbeats 4000000 in
theorem union_lf (B : Nat) (w : World) (pa pb k : Nat) (v : Int) (b : PT) (ha : HP B w pa (.leaf k v)) (hb : HP B w pb b) (h1 : (PT.leaf k v).key = b.key ∧ (PT.leaf k v).lev = b.lev) :
    Calls Tryd.prog 45 #[.pointer (some ⟨pa, 0, none⟩), .pointer (some ⟨pb, 0, none⟩)] w (RetP B w (union (.leaf k v) b)) := by
  rw [union_leaf h1]
  cases b with
  | node key n l r => exact absurd h1.2 (by simp [PT.lev])
  | leaf k' v' =>
    obtain rfl : k = k' := h1.1
    obtain ⟨a0, a1, _, _, _, _⟩ := cells6 ha.2
    obtain ⟨b0, b1, _, _, _, _⟩ := cells6 hb.2
    have Ha := Lib.hid ha
    clear ha hb h1
    go_enter Tryd.func45, Tryd.ntmps45
    go_wp2_with fail
    go_quiet (fail)
    go_wp2_with fail
    go_ret
    exact ⟨pa, rfl, HP.up (belowDrewN _ _) Ha.out, belowDrewN _ _⟩
end Go.Proofs.YtnebmncjohoekaaDoor.pat
