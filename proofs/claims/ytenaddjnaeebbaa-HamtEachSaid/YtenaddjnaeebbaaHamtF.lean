/- The place of a key among pairs. -/
import Derived.Test.YtenaddjnaeebbaaHamtN
namespace Go.Proofs.Ytenaddjnaeebbaa.hamt
open Go.RowKit

/-- where a key stands -/
def Idx (xs : PL) (k : Int) : Option Nat → Prop
  | some i => i < xs.length ∧ (xs.getD i (0, 0)).1 = k ∧ ∀ j, j < i → (xs.getD j (0, 0)).1 ≠ k
  | none => ∀ j, j < xs.length → (xs.getD j (0, 0)).1 ≠ k
def idxV : Option Nat → Int
  | some i => (i : Int)
  | none => -1
theorem idx_from (xs : PL) (k : Int) : ∀ n, n ≤ xs.length → (∃ i, i < n ∧ (xs.getD i (0, 0)).1 = k ∧ ∀ j, j < i → (xs.getD j (0, 0)).1 ≠ k) ∨ ∀ j, j < n → (xs.getD j (0, 0)).1 ≠ k
  | 0, _ => .inr fun j hj => by omega
  | n + 1, h => by
    rcases idx_from xs k n (by omega) with ⟨i, hi, h1, h2⟩ | h1
    · exact .inl ⟨i, by omega, h1, h2⟩
    · by_cases e : (xs.getD n (0, 0)).1 = k
      · exact .inl ⟨n, by omega, e, h1⟩
      · refine .inr fun j hj => ?_
        by_cases ej : j = n
        · rw [ej]; exact e
        · exact h1 j (by omega)
theorem idx_exists (xs : PL) (k : Int) : ∃ r, Idx xs k r := by
  rcases idx_from xs k xs.length (Nat.le_refl _) with ⟨i, hi, h1, h2⟩ | h1
  · exact ⟨some i, hi, h1, h2⟩
  · exact ⟨none, h1⟩
def fEq (K : Nat) : Value := .func (.func 56) #[] #[.pointer (some ⟨K, 0, none⟩)]
set_option maxHeartbeats 1000000 in
theorem eq_walk (K : Nat) (k x y : Int) (w : World) (hK : w.heap[K]? = some (.cells #[.int .i64 k] 3 (0, 0))) :
    Calls Try.prog 56 #[.agg #[.int .i64 x, .int .i64 y], .pointer (some ⟨K, 0, none⟩)] w fun e w' => e = .returned (.bool (x == k)) ∧ Below w.heap.size w w' := by
  have hb := belowAlloc w (.cells #[.int .i64 x, .int .i64 y] 31)
  have kK := cell_of_one (upb hb hK)
  have n0 := two_c0 (heap_alloc_new w (.cells #[.int .i64 x, .int .i64 y] 31))
  have HB := Lib.hid hb
  clear hb hK
  go_enter Try.func56, Try.ntmps56
  go_wp2_with fail
  go_ret
  exact ⟨rfl, HB.out⟩
set_option maxHeartbeats 2000000 in
theorem index_walk (a : Option Addr) (c n K : Nat) (xs : PL) (k : Int) (w : World) (hl : xs.length = n) (hn : n ≤ 8796093022208) (hr : ReadsP w a xs) (hK : w.heap[K]? = some (.cells #[.int .i64 k] 3 (0, 0))) (r : Option Nat) (hi : Idx xs k r) :
    Calls Try.prog 55 #[.slice a n c, fEq K] w fun e w' => e = .returned (.int .i64 (idxV r)) ∧ Below w.heap.size w w' := by
  have HL := Lib.hid hl
  have HR := Lib.hid hr
  have HK := Lib.hid hK
  have HI := Lib.hid hi
  unfold fEq
  clear hl hr hK hi
  go_enter Try.func55, Try.ntmps55
  go_wp2_with fail
  go_loopw [8] (fun jv wr => ∃ j : Nat, jv = .int .i64 j ∧ j ≤ n ∧ Hid (Below w.heap.size w wr ∧ ∀ i, i < j → (xs.getD i (0, 0)).1 ≠ k)) (fun jv _ => n - (intOf jv).toNat)
  case atStart => exact ⟨0, rfl, Nat.zero_le _, Lib.hid ⟨Below.refl _ _, fun i hi => by omega⟩⟩
  case round =>
    obtain ⟨j, rfl, hj, HS⟩ := hrel
    have j0 : (0 : Int) ≤ (j : Int) := by omega
    by_cases hlt : j < n
    · have j1 : (j : Int) < (n : Int) := by omega
      obtain ⟨b, o, hab, z1, z2⟩ := HR.out.at (k := j) (by rw [HL.out]; exact hlt)
      subst hab
      obtain ⟨x, hx⟩ : ∃ x, x = (xs.getD j (0, 0)).1 := ⟨_, rfl⟩
      obtain ⟨y, hy⟩ : ∃ x, x = (xs.getD j (0, 0)).2 := ⟨_, rfl⟩
      rw [← hx] at z1
      rw [← hy] at z2
      have k1 := upc HS.out.1 z1
      have k2 := upc HS.out.1 z2
      have HX := Lib.hid hx
      have HE := Lib.hid (eq_walk K k x y wr (upb HS.out.1 HK.out))
      clear hx hy z1 z2
      go_wp2_with fail
      refine HE.out.mono ?_
      rintro e w2 ⟨rfl, hb2⟩
      have HB2 := Lib.hid (HS.out.1.trans (hb2.mono HS.out.1.size))
      clear hb2 HE k1 k2
      by_cases hxk : x = k
      · have hq : (x == k) = true := by simp [hxk]
        have HV : Hid (idxV r = (j : Int)) := by
          have h := HI.out
          cases r with
          | none => exact absurd (by rw [← HX.out]; exact hxk) (h j (by rw [HL.out]; exact hlt))
          | some i =>
            obtain ⟨h1, h2, h3⟩ := h
            refine Lib.hid ?_
            show (i : Int) = (j : Int)
            by_cases e1 : i < j
            · exact absurd h2 (HS.out.2 i e1)
            · by_cases e2 : j < i
              · exact absurd (by rw [← HX.out]; exact hxk) (h3 j e2)
              · omega
        rw [hq]
        clear hq hxk
        go_wp2_with fail
        go_ret
        exact ⟨by rw [HV.out]; rfl, HB2.out⟩
      · have hq : (x == k) = false := by simp [hxk]
        have HN : Hid (Below w.heap.size w w2 ∧ ∀ i, i < j + 1 → (xs.getD i (0, 0)).1 ≠ k) := Lib.hid ⟨HB2.out, fun i hi => by
          by_cases e : i = j
          · rw [e, ← HX.out]; exact hxk
          · exact HS.out.2 i (by omega)⟩
        rw [hq]
        clear hq hxk HS HB2
        go_wp2_with fail
        go_roundw
        case rel => exact ⟨j + 1, by go_num, hlt, HN⟩
        case measure => simp [intOf]; omega
    · obtain rfl : j = n := by omega
      have HV : Hid (idxV r = -1) := by
        have h := HI.out
        cases r with
        | none => exact Lib.hid rfl
        | some i =>
          obtain ⟨h1, h2, h3⟩ := h
          exact absurd h2 (HS.out.2 i (by rw [HL.out] at h1; exact h1))
      go_wp2_with fail
      go_ret
      exact ⟨by rw [HV.out]; rfl, HS.out.1⟩
set_option maxHeartbeats 2000000 in
theorem find_walk (b m : Nat) (kv : Value) (a : Option Addr) (c n : Nat) (xs : PL) (k : Int) (w : World) (hb : w.heap[b]? = some (.cells (nodeC m kv (.slice a n c) n) 62 (0, 0))) (hl : xs.length = n) (hn : n ≤ 8796093022208) (hr : ReadsP w a xs) (r : Option Nat) (hi : Idx xs k r) :
    Calls Try.prog 39 #[.pointer (some ⟨b, 0, none⟩), .int .i64 k] w fun e w' => e = .returned (.int .i64 (idxV r)) ∧ Below w.heap.size w w' := by
  have hb1 := belowAlloc w (.cells #[.int .i64 k] 3)
  have k2 := node_c2 (upb hb1 hb)
  have HI := Lib.hid (index_walk a c n w.heap.size xs k _ hl hn (hr.up hb1) (heap_alloc_new w (.cells #[.int .i64 k] 3)) r hi)
  have HB := Lib.hid hb1
  unfold fEq at HI
  clear hb hl hr hi hb1
  go_enter Try.func39, Try.ntmps39
  go_wp2_with fail
  refine HI.out.mono ?_
  rintro e w2 ⟨rfl, hb2⟩
  have HB2 := Lib.hid (belowTrans HB.out hb2)
  clear hb2
  go_wp2_with fail
  go_ret
  exact ⟨rfl, HB2.out⟩
end Go.Proofs.Ytenaddjnaeebbaa.hamt
