/- Bits: how many are set; the way of a key. -/
import Derived.Test.YtenaddjnaeebbaaHamtP
import Derived.Test.YtenaddjnaeebbaaMore
import Derived.Test.YtenaddjnaeebbaaRows
import Derived.Lib.Tables
import Derived.Laws.BitsAllLaws
import Derived.Deep.QuietTactic
import Derived.BigQuiet
namespace Go.Proofs.Ytenaddjnaeebbaa.hamt
open Go.RowKit

theorem tab (l : List UInt8) (h : l.toArray = Lib.pop8tab.data) : ({ data := l.toArray } : ByteArray) = Lib.pop8tab := by rw [h]
/-- the bits of a byte -/
theorem pop8_ones (b : Nat) (h : b < 256) : Lib.pop8 (b : Int) = ((List.range 8).countP fun i => b.testBit i : Nat) := by
  have h1 : ∀ n : Fin 256, Lib.pop8 (n.val : Int) = (((List.range 8).countP fun i => n.val.testBit i : Nat) : Int) := by decide +kernel
  exact h1 ⟨b, h⟩
theorem ones_byte (b : Nat) : ((List.range 8).countP fun i => b.testBit i) ≤ 8 := by
  have := List.countP_le_length (p := fun i => b.testBit i) (l := List.range 8)
  simpa using this
theorem ones_bytes (x : Nat) (hx : x < 4294967296) : ones x = ((List.range 8).countP fun i => (x / 16777216).testBit i) + ((List.range 8).countP fun i => (x / 65536 % 256).testBit i) + ((List.range 8).countP fun i => (x / 256 % 256).testBit i) + ((List.range 8).countP fun i => (x % 256).testBit i) := by
  unfold ones
  have e : List.range 32 = List.range 8 ++ (List.range 8).map (· + 8) ++ (List.range 8).map (· + 16) ++ (List.range 8).map (· + 24) := by decide
  rw [e]
  simp only [List.countP_append, List.countP_map]
  have h0 : (List.range 8).countP (fun i => x.testBit i) = (List.range 8).countP fun i => (x % 256).testBit i := by
    refine List.countP_congr fun i hi => ?_
    have := List.mem_range.1 hi
    rw [show (256 : Nat) = 2 ^ 8 from rfl, Nat.testBit_mod_two_pow]
    simp [this]
  have hk : ∀ k, (List.range 8).countP ((fun i => x.testBit i) ∘ fun i => i + k) = (List.range 8).countP fun i => (x / 2 ^ k % 256).testBit i := by
    intro k
    refine List.countP_congr fun i hi => ?_
    have := List.mem_range.1 hi
    rw [show (256 : Nat) = 2 ^ 8 from rfl, Nat.testBit_mod_two_pow, Nat.testBit_div_two_pow]
    simp [this]
  rw [h0, hk 8, hk 16, hk 24]
  simp only [show (2 : Nat) ^ 8 = 256 from rfl, show (2 : Nat) ^ 16 = 65536 from rfl, show (2 : Nat) ^ 24 = 16777216 from rfl]
  rw [Nat.mod_eq_of_lt (show x / 16777216 < 256 by omega)]
  omega
theorem u8_small (c : Nat) (h : c < 256) : IntKind.u8.wrap ((c : Nat) : Int) = ((c : Nat) : Int) := by
  simp [IntKind.wrap, IntKind.bits, IntKind.signed]
  omega
set_option maxHeartbeats 1000000 in
theorem ones_walk (x : Nat) (w : World) (hx : x < 4294967296) :
    Calls Try.prog 53 #[.int .u32 (x : Nat)] w fun e w' => e = .returned (.int .i64 (ones x : Nat)) ∧ Below w.heap.size w w' := by
  have HO := Lib.hid (ones_bytes x hx)
  have p3 := pop8_ones (x / 16777216) (by omega)
  have p2 := pop8_ones (x / 65536 % 256) (by omega)
  have p1 := pop8_ones (x / 256 % 256) (by omega)
  have p0 := pop8_ones (x % 256) (by omega)
  have e2 : bits .and .u32 ((x : Int) / 65536) 255 = ((x / 65536 % 256 : Nat) : Int) := by
    have h := u32_and_nat (x / 65536) 255 (by omega) (by decide)
    rw [show (x / 65536) &&& 255 = x / 65536 % 256 from Nat.and_two_pow_sub_one_eq_mod _ 8] at h
    simpa using h
  have e1 : bits .and .u32 ((x : Int) / 256) 255 = ((x / 256 % 256 : Nat) : Int) := by
    have h := u32_and_nat (x / 256) 255 (by omega) (by decide)
    rw [show (x / 256) &&& 255 = x / 256 % 256 from Nat.and_two_pow_sub_one_eq_mod _ 8] at h
    simpa using h
  have e0 : bits .and .u32 (x : Int) 255 = ((x % 256 : Nat) : Int) := by
    have h := u32_and_nat x 255 (by omega) (by decide)
    rw [show x &&& 255 = x % 256 from Nat.and_two_pow_sub_one_eq_mod _ 8] at h
    simpa using h
  have e3 : (x : Int) / 16777216 = ((x / 16777216 : Nat) : Int) := by simp
  obtain ⟨b3, hb3⟩ : ∃ b, b = x / 16777216 := ⟨_, rfl⟩
  obtain ⟨b2, hb2⟩ : ∃ b, b = x / 65536 % 256 := ⟨_, rfl⟩
  obtain ⟨b1, hb1⟩ : ∃ b, b = x / 256 % 256 := ⟨_, rfl⟩
  obtain ⟨b0, hb0⟩ : ∃ b, b = x % 256 := ⟨_, rfl⟩
  rw [← hb3, ← hb2, ← hb1, ← hb0] at HO
  rw [← hb3] at p3 e3
  rw [← hb2] at p2 e2
  rw [← hb1] at p1 e1
  rw [← hb0] at p0 e0
  have l3 := ones_byte b3; have l2 := ones_byte b2; have l1 := ones_byte b1; have l0 := ones_byte b0
  obtain ⟨c3, hc3⟩ : ∃ c, c = (List.range 8).countP fun i => b3.testBit i := ⟨_, rfl⟩
  obtain ⟨c2, hc2⟩ : ∃ c, c = (List.range 8).countP fun i => b2.testBit i := ⟨_, rfl⟩
  obtain ⟨c1, hc1⟩ : ∃ c, c = (List.range 8).countP fun i => b1.testBit i := ⟨_, rfl⟩
  obtain ⟨c0, hc0⟩ : ∃ c, c = (List.range 8).countP fun i => b0.testBit i := ⟨_, rfl⟩
  rw [← hc3, ← hc2, ← hc1, ← hc0] at HO
  rw [← hc3] at p3 l3
  rw [← hc2] at p2 l2
  rw [← hc1] at p1 l1
  rw [← hc0] at p0 l0
  have f3 : b3 ≤ 255 := by omega
  have f2 : b2 ≤ 255 := by omega
  have f1 : b1 ≤ 255 := by omega
  have f0 : b0 ≤ 255 := by omega
  have s1 : IntKind.u8.wrap ((c3 : Int) + (c2 : Int)) = ((c3 + c2 : Nat) : Int) := by rw [← Int.natCast_add]; exact u8_small _ (by omega)
  have s2 : IntKind.u8.wrap (((c3 + c2 : Nat) : Int) + (c1 : Int)) = ((c3 + c2 + c1 : Nat) : Int) := by rw [← Int.natCast_add]; exact u8_small _ (by omega)
  have s3 : IntKind.u8.wrap (((c3 + c2 + c1 : Nat) : Int) + (c0 : Int)) = ((c3 + c2 + c1 + c0 : Nat) : Int) := by rw [← Int.natCast_add]; exact u8_small _ (by omega)
  have ix : ∀ (b c : Nat) (_ : b ≤ 255) (_ : Lib.pop8 (b : Int) = (c : Int)) (W : World), (Instr.index 9 (.string Lib.pop8tab) (.int .u32 (b : Int))).run Try.prog W = .ok (.int .u8 (c : Int)) W := fun b c hb hc W => by
    rw [Lib.run_index_pop8tab W 9 .u32 (b : Int) Try.underlying9 (by omega) (by omega), hc]
  have i3 := ix b3 c3 f3 p3
  have i2 := ix b2 c2 f2 p2
  have i1 := ix b1 c1 f1 p1
  have i0 := ix b0 c0 f0 p0
  clear hx hb3 hb2 hb1 hb0 hc3 hc2 hc1 hc0 ix p3 p2 p1 p0
  rw [HO.out]
  go_enter Try.func53, Try.ntmps53
  go_wp2_with fail
  rw [tab]
  case h => kernel_rfl
  go_quiet (fail)
  go_wp2_with fail
  go_ret
  exact ⟨by simp, belowDrewN _ _⟩
theorem low64 (A : Int) : ∃ p : Nat, wrap64 (bits .and .u64 A 4294967295) = (p : Int) ∧ p < 4294967296 := by
  have hx : (BitVec.ofInt 64 A).toNat &&& 4294967295 ≤ 4294967295 := Nat.and_le_right
  refine ⟨(BitVec.ofInt 64 A).toNat &&& 4294967295, ?_, by omega⟩
  have h : bits .and .u64 A 4294967295 = (((BitVec.ofInt 64 A).toNat &&& 4294967295 : Nat) : Int) := by
    show IntKind.u64.wrap ((BitVec.ofInt 64 A &&& BitVec.ofInt 64 4294967295).toNat : Int) = _
    rw [BitVec.toNat_and, show (BitVec.ofInt 64 4294967295).toNat = 4294967295 from rfl, IntKind.wrap_u64]
    omega
  rw [h]
  unfold wrap64
  omega
def prC (k : Int) : Int := IntKind.u64.wrap (bits .xor .u64 (IntKind.u64.wrap (IntKind.u64.wrap k * 11400714819323198485)) (IntKind.u64.wrap (IntKind.u64.wrap k * 11400714819323198485) / 536870912) * 13787848793156543929)
/-- what a key is mixed to -/
noncomputable def pr (k : Int) : Nat := Classical.choose (low64 (bits .xor .u64 (prC k) (prC k / 4294967296)))
theorem pr_lt (k : Int) : pr k < 4294967296 := (Classical.choose_spec (low64 (bits .xor .u64 (prC k) (prC k / 4294967296)))).2
set_option maxHeartbeats 1000000 in
theorem prio_walk (k : Int) (w : World) :
    Calls Try.prog 54 #[.int .i64 k] w fun e w' => e = .returned (.int .i64 (pr k : Nat)) ∧ w = w' := by
  have h := (Classical.choose_spec (low64 (bits .xor .u64 (prC k) (prC k / 4294967296)))).1
  go_enter Try.func54, Try.ntmps54
  go_wp2_with fail
  go_ret
  exact ⟨congrArg (fun z => Ending.returned (.int .i64 z)) h, rfl⟩
/-- the way of a key at a node that u bits are above -/
noncomputable def wy (u : Nat) (k : Int) : Nat := pr k / 2 ^ u % 32
theorem wy_lt (u : Nat) (k : Int) : wy u k < 32 := Nat.mod_lt _ (by decide)
set_option maxHeartbeats 1000000 in
theorem way_walk (k : Int) (u : Nat) (hu : u < 35) (w : World) :
    Calls Try.prog 38 #[.int .i64 k, .int .i64 (u : Nat)] w fun e w' => e = .returned (.int .u32 (2 ^ wy u k : Nat)) ∧ w = w' := by
  have hp := pr_lt k
  have e1 : bits .and .u64 ((pr k : Int) / 2 ^ u) 31 = ((wy u k : Nat) : Int) := by
    have hq : pr k / 2 ^ u < 18446744073709551616 := Nat.lt_of_le_of_lt (Nat.div_le_self _ _) (by omega)
    have h := u64_and_nat (pr k / 2 ^ u) 31 hq (by decide)
    rw [show (pr k / 2 ^ u) &&& 31 = pr k / 2 ^ u % 32 from Nat.and_two_pow_sub_one_eq_mod _ 5] at h
    simpa [wy] using h
  obtain ⟨y, hy⟩ : ∃ y, y = wy u k := ⟨_, rfl⟩
  have hl := wy_lt u k
  rw [← hy] at e1 hl ⊢
  have hw2 : IntKind.u32.wrap ((2 : Int) ^ y) = ((2 ^ y : Nat) : Int) := by
    have hp : 2 ^ y < 4294967296 := Nat.lt_of_le_of_lt (Nat.pow_le_pow_right (by decide) (show y ≤ 31 by omega)) (by decide)
    have e : ((2 : Int) ^ y) = ((2 ^ y : Nat) : Int) := by simp
    rw [e]
    obtain ⟨z, hz⟩ : ∃ z, z = 2 ^ y := ⟨_, rfl⟩
    rw [← hz] at hp ⊢
    simp [IntKind.wrap, IntKind.bits, IntKind.signed]
    omega
  obtain ⟨z, hz⟩ : ∃ z, z = 2 ^ y := ⟨_, rfl⟩
  rw [← hz] at hw2 ⊢
  clear hy hz
  go_enter Try.func38, Try.ntmps38
  go_wp2_with fail
  refine (prio_walk k w).mono ?_
  rintro e w' ⟨rfl, rfl⟩
  go_wp2_with fail
  go_ret
  exact ⟨rfl, rfl⟩
end Go.Proofs.Ytenaddjnaeebbaa.hamt
