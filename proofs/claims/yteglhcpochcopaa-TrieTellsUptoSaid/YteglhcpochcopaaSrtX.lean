/- (*slices.xorshift).Next, slices.nextPowerOfTwo. -/
import Derived.Test.YteglhcpochcopaaSrtH
import Derived.Test.YteglhcpochcopaaLen64
import Derived.Lib.ItoaNum
namespace Go.Proofs.Yteglhcpochcopaa.srt
open Go.RowKit

/-- a number in a box of its own -/
def Box (w : World) (R : Nat) (x : Int) : Prop := w.heap[R]? = some (.cells #[.int .u64 x] 80 (0, 0))
set_option maxRecDepth 100000 in
set_option maxHeartbeats 8000000 in
theorem next_any (w : World) (R : Nat) (x : Int) (h : Box w R x) :
    Calls Try.prog 51 #[.pointer (some ⟨R, 0, none⟩)] w fun e w' => ∃ y, e = .returned (.int .u64 y) ∧ On R w w' ∧ Box w' R y := by
  have c0 := cell_of_one h
  have f0 := free_of_one h
  have H0 := Lib.hid h
  clear h
  go_enter Try.func51, Try.ntmps51
  go_wp2_with fail
  go_still_tail 9, (by kernel_rfl)
  change wpList _ _ _ _ _ w.drew
  go_wp2_with fail
  generalize hx1 : bits .xor .u64 x (IntKind.u64.wrap (x * 8192)) = x1
  obtain ⟨W1, hW1⟩ : ∃ W, W = (w.setCell ⟨R, 0, none⟩ (.int .u64 x1)).drew := ⟨_, rfl⟩
  have hb1 : Box W1 R x1 := by rw [hW1]; exact one_setCell H0.out
  have hO1 : On R w W1 := by rw [hW1]; exact (On.set R 0 _ _).trans (On.drew R _)
  rw [← hW1]
  have c1 := cell_of_one hb1
  have f1 := free_of_one hb1
  have H1 := Lib.hid hb1
  have O1 := Lib.hid hO1
  clear hx1 hW1 hb1 hO1 c0 f0
  go_still_tail 9, (by kernel_rfl)
  change wpList _ _ _ _ _ W1.drew
  go_wp2_with fail
  generalize hx2 : bits .xor .u64 x1 (x1 / 128) = x2
  obtain ⟨W2, hW2⟩ : ∃ W, W = (W1.setCell ⟨R, 0, none⟩ (.int .u64 x2)).drew := ⟨_, rfl⟩
  have hb2 : Box W2 R x2 := by rw [hW2]; exact one_setCell H1.out
  have hO2 : On R W1 W2 := by rw [hW2]; exact (On.set R 0 _ _).trans (On.drew R _)
  rw [← hW2]
  have c2 := cell_of_one hb2
  have f2 := free_of_one hb2
  have H2 := Lib.hid hb2
  have O2 := Lib.hid hO2
  clear hx2 hW2 hb2 hO2 c1 f1
  go_still_tail 9, (by kernel_rfl)
  change wpList _ _ _ _ _ W2.drew
  go_wp2_with fail
  generalize hx3 : bits .xor .u64 x2 (IntKind.u64.wrap (x2 * 131072)) = x3
  obtain ⟨W3, hW3⟩ : ∃ W, W = (W2.setCell ⟨R, 0, none⟩ (.int .u64 x3)).drew := ⟨_, rfl⟩
  have hb3 : Box W3 R x3 := by rw [hW3]; exact one_setCell H2.out
  have hO3 : On R W2 W3 := by rw [hW3]; exact (On.set R 0 _ _).trans (On.drew R _)
  rw [← hW3]
  have c3 := cell_of_one hb3
  have f3 := free_of_one hb3
  have H3 := Lib.hid hb3
  have O3 := Lib.hid hO3
  clear hx3 hW3 hb3 hO3 c2 f2
  go_wp2_with fail
  go_ret
  exact ⟨_, rfl, (O1.out.trans O2.out).trans O3.out, H3.out⟩
set_option maxHeartbeats 2000000 in
theorem len_any (x : Nat) (w : World) (h1 : x < 18446744073709551616) : Calls Try.prog 37 #[.int .u64 (x : Int)] w fun e w' => e = .returned (.int .i64 (Lib.bitLen x : Nat)) ∧ w = w' := by
  have HL := Lib.hid (fun W => len64_any x W h1)
  have w1 : IntKind.u64.wrap (x : Int) = (x : Int) := by rw [IntKind.wrap_u64]; omega
  go_enter Try.func37, Try.ntmps37
  go_wp2_with fail
  refine (HL.out _).mono ?_
  rintro e w' ⟨rfl, rfl⟩
  go_wp2_with fail
  go_ret
  exact ⟨rfl, rfl⟩
theorem pow_len (x : Nat) (h0 : 0 < x) (h : x < 1099511627777) : Lib.bitLen x ≤ 41 ∧ 0 < 2 ^ Lib.bitLen x ∧ 2 ^ Lib.bitLen x ≤ 2 * x := by
  obtain ⟨h1, h2, h3⟩ := Lib.bitLenAux_bounds 64 x (by omega) (by omega)
  have h4 := Lib.bitLen_le x 41 (by decide) (by omega)
  refine ⟨h4, Nat.two_pow_pos _, ?_⟩
  unfold Lib.bitLen
  obtain ⟨m, hm⟩ : ∃ m, Lib.bitLenAux 64 x = m + 1 := ⟨Lib.bitLenAux 64 x - 1, by omega⟩
  rw [hm] at h2 ⊢
  rw [Nat.add_sub_cancel] at h2
  rw [Nat.pow_succ]
  omega
set_option maxHeartbeats 2000000 in
theorem power_any (x : Nat) (w : World) (h0 : 0 < x) (h : x < 1099511627777) : Calls Try.prog 50 #[.int .i64 (x : Int)] w fun e w' => e = .returned (.int .u64 (2 ^ Lib.bitLen x : Nat)) ∧ w = w' := by
  have HL := Lib.hid (fun W => len_any x W (by omega))
  obtain ⟨h1, h2, h3⟩ := pow_len x h0 h
  obtain ⟨k, hk⟩ : ∃ k, k = Lib.bitLen x := ⟨_, rfl⟩
  rw [← hk] at HL h1 h2 h3 ⊢
  have w1 : IntKind.u64.wrap (x : Int) = (x : Int) := by rw [IntKind.wrap_u64]; omega
  obtain ⟨M, hM⟩ : ∃ M, M = 2 ^ k := ⟨_, rfl⟩
  rw [← hM] at h2 h3 ⊢
  have w2 : IntKind.u64.wrap (2 ^ k) = (M : Int) := by rw [show (2 : Int) ^ k = (M : Int) by rw [hM]; simp, IntKind.wrap_u64]; omega
  have k0 : (0 : Int) ≤ (k : Int) := by omega
  have k1 : k < 64 := by omega
  clear hk hM
  go_enter Try.func50, Try.ntmps50
  go_wp2_with fail
  refine (HL.out _).mono ?_
  rintro e w' ⟨rfl, rfl⟩
  go_wp2_with fail
  go_ret
  exact ⟨rfl, rfl⟩
theorem u64_and_any (A : Int) (m : Nat) (hm : m < 18446744073709551616) : ∃ p : Nat, bits .and .u64 A (m : Int) = (p : Int) ∧ p ≤ m := by
  have hx : (BitVec.ofInt 64 A).toNat &&& m ≤ m := Nat.and_le_right
  refine ⟨(BitVec.ofInt 64 A).toNat &&& m, ?_, hx⟩
  show IntKind.u64.wrap ((BitVec.ofInt 64 A &&& BitVec.ofInt 64 (m : Int)).toNat : Int) = _
  have e : (BitVec.ofInt 64 (m : Int)).toNat = m := by simp; omega
  rw [BitVec.toNat_and, e, IntKind.wrap_u64]
  omega
end Go.Proofs.Yteglhcpochcopaa.srt
