/- Package pat: fits, leaf, two, both. -/
import Derived.Test.YtenaddjnaeebbaaPat
import Derived.Test.YtenaddjnaeebbaaLen64
namespace Go.Proofs.Ytenaddjnaeebbaa.pat
open Go.RowKit

theorem and0 {k n : Nat} (hk : k < 2 ^ 64) (hn : n < 64) (h : k / 2 ^ n % 2 = 0) : bits .and .u64 (k : Int) ((2 ^ n : Nat) : Int) = 0 := by
  have hp : 2 ^ n < 18446744073709551616 := Nat.lt_of_le_of_lt (Nat.pow_le_pow_right (by decide) (show n ≤ 63 by omega)) (by decide)
  rw [u64_and_nat _ _ hk hp, nat_bit, h]
  simp
theorem and1 {k n : Nat} (hk : k < 2 ^ 64) (hn : n < 64) (h : ¬ k / 2 ^ n % 2 = 0) : bits .and .u64 (k : Int) ((2 ^ n : Nat) : Int) = ((2 ^ n : Nat) : Int) := by
  have hp : 2 ^ n < 18446744073709551616 := Nat.lt_of_le_of_lt (Nat.pow_le_pow_right (by decide) (show n ≤ 63 by omega)) (by decide)
  have h1 : k / 2 ^ n % 2 = 1 := by omega
  rw [u64_and_nat _ _ hk hp, nat_bit, h1]
  simp

set_option maxHeartbeats 1000000 in
theorem fits_any (w : World) (b key n k : Nat) (v c : Int) (pl pr : Option Addr) (h : Cells w b key (2 ^ n) v c pl pr) (hk : k < 2 ^ 64) (hn : n < 64) (x : Bool) (hx : decide (k / 2 ^ (n + 1) * 2 ^ (n + 1) = key) = x) :
    Calls Try.prog 60 #[.pointer (some ⟨b, 0, none⟩), .int .u64 (k : Nat)] w fun e w' => e = .returned (.bool x) ∧ ∃ m, w' = w.drewN m := by
  have k0 := h.c0
  have k1 := h.c1
  have HA := Lib.hid (fun W => above_any k n W hk hn)
  obtain ⟨R, hR⟩ : ∃ R, R = k / 2 ^ (n + 1) * 2 ^ (n + 1) := ⟨_, rfl⟩
  have hxx : ((R : Int) == (key : Int)) = x := by
    rw [← hx, ← hR]
    by_cases e : R = key
    · simp [e]
    · have : ¬ ((R : Int) = (key : Int)) := by omega
      simp [e, this]
  rw [← hR] at HA
  obtain ⟨M, hM⟩ : ∃ M, M = 2 ^ n := ⟨_, rfl⟩
  rw [← hM] at k1 HA
  have Hx := Lib.hid hxx
  clear h hx hR hM hxx
  go_enter Try.func60, Try.ntmps60
  go_wp2_with fail
  go_quiet ((go_at_call 75; exact quietOf (HA.out _)))
  go_wp2_with fail
  go_ret
  exact ⟨by rw [← Hx.out]; rfl, _, rfl⟩

def leafCells (k : Nat) (v : Int) : Array Value := #[.int .u64 (k : Nat), .int .u64 0, .int .i64 v, .int .i64 1, .pointer none, .pointer none]
set_option maxHeartbeats 1000000 in
theorem leaf_any (w : World) (k : Nat) (v : Int) :
    Calls Try.prog 59 #[.int .u64 (k : Nat), .int .i64 v] w fun e w' => e = .returned (.pointer (some ⟨w.heap.size, 0, none⟩)) ∧ w' = w.alloc (.cells #[.int .u64 (k : Nat), .int .u64 0, .int .i64 v, .int .i64 1, .pointer none, .pointer none] 71) := by
  go_enter Try.func59, Try.ntmps59
  go_wp2_with fail
  go_ret
  exact ⟨rfl, rfl⟩
theorem HP.leaf {B : Nat} {w : World} {k : Nat} {v : Int} (hB : B ≤ w.heap.size) : HP B (w.alloc (.cells #[.int .u64 (k : Nat), .int .u64 0, .int .i64 v, .int .i64 1, .pointer none, .pointer none] 71)) w.heap.size (.leaf k v) :=
  ⟨hB, heap_alloc_new _ _⟩

/-- what a call that hands back a tree leaves -/
def RetP (B : Nat) (w : World) (t : PT) (e : Ending) (w' : World) : Prop := ∃ c, e = .returned (.pointer (some ⟨c, 0, none⟩)) ∧ HP B w' c t ∧ Below w.heap.size w w'

set_option maxHeartbeats 2000000 in
theorem two_some (B : Nat) (w : World) (key n pa pb : Nat) (a b : PT) (hB : B ≤ w.heap.size) (ha : HP B w pa a) (hb : HP B w pb b) (hc : a.cnt + b.cnt ≤ 1152921504606844000) :
    Calls Try.prog 62 #[.int .u64 (key : Nat), .int .u64 ((2 ^ n : Nat) : Int), .pointer (some ⟨pa, 0, none⟩), .pointer (some ⟨pb, 0, none⟩)] w (RetP B w (.node key n a b)) := by
  obtain ⟨va, la, ra, ca⟩ := ha.cells
  obtain ⟨vb, lb, rb, cb⟩ := hb.cells
  have k1 := ca.c3
  have k2 := cb.c3
  have hw : IntKind.i64.wrap ((a.cnt : Int) + (b.cnt : Int)) = ((a.cnt + b.cnt : Nat) : Int) := by rw [IntWalk.i64_in _ (by omega)]; omega
  have HA := Lib.hid (And.intro ha (And.intro hb hB))
  obtain ⟨N, hN⟩ : ∃ N, N = a.cnt + b.cnt := ⟨_, rfl⟩
  obtain ⟨M, hM⟩ : ∃ M, M = 2 ^ n := ⟨_, rfl⟩
  obtain ⟨x, hx⟩ : ∃ x, x = a.cnt := ⟨_, rfl⟩
  obtain ⟨y, hy⟩ : ∃ y, y = b.cnt := ⟨_, rfl⟩
  rw [← hN, ← hx, ← hy] at hw
  rw [← hx] at k1
  rw [← hy] at k2
  rw [← hM]
  have HN := Lib.hid (And.intro hN hM)
  clear ca cb ha hb hB hN hM hx hy hc
  go_enter Try.func62, Try.ntmps62
  go_wp2_with fail
  go_region_held3 (fun w' => w'.cell? ⟨pa, 3, none⟩ = some (.int .i64 (x : Nat)) ∧ w'.cell? ⟨pb, 3, none⟩ = some (.int .i64 (y : Nat))) (go_keep) (fail)
  go_wp2_with fail
  go_ret
  have hd := belowDrew w
  have h2 := belowAlloc w.drew (.cells #[.int .u64 (key : Nat), .int .u64 (M : Nat), .int .i64 0, .int .i64 (N : Nat), .pointer (some ⟨pa, 0, none⟩), .pointer (some ⟨pb, 0, none⟩)] 71)
  refine ⟨w.heap.size, rfl, ⟨HA.out.2.2, pa, pb, ?_, HP.up (belowTrans hd h2) HA.out.1, HP.up (belowTrans hd h2) HA.out.2.1⟩, belowTrans hd h2⟩
  rw [← HN.out.1, ← HN.out.2]
  exact heap_alloc_new w.drew _

theorem xor_lt {x y : Nat} (hx : x < 2 ^ 64) (hy : y < 2 ^ 64) : x ^^^ y < 18446744073709551616 := Nat.xor_lt_two_pow hx hy

set_option maxHeartbeats 4000000 in
theorem both_lo (B : Nat) (w : World) (pa pb : Nat) (a b : PT) (hB : B ≤ w.heap.size) (ha : HP B w pa a) (hb' : HP B w pb b) (oa : Ok a) (ob : Ok b) (hap : Apart a b) (hc : a.cnt + b.cnt ≤ 1152921504606844000) (h0 : a.key / 2 ^ hb a.key b.key % 2 = 0) :
    Calls Try.prog 61 #[.pointer (some ⟨pa, 0, none⟩), .pointer (some ⟨pb, 0, none⟩)] w (RetP B w (both a b)) := by
  obtain ⟨va, la, ra, ca⟩ := ha.cells
  obtain ⟨vb, lb, rb, cb⟩ := hb'.cells
  obtain ⟨h64, hlen, _, _⟩ := hb_spec oa ob hap
  have k1 := ca.c0
  have k2 := cb.c0
  have e : both a b = .node (a.key / 2 ^ (hb a.key b.key + 1) * 2 ^ (hb a.key b.key + 1)) (hb a.key b.key) a b := if_pos h0
  rw [e]
  have hx := u64_xor_nat a.key b.key oa.lt ob.lt
  have HL := Lib.hid (fun W => len64_any (a.key ^^^ b.key) W (xor_lt oa.lt ob.lt))
  have ha0 := and0 oa.lt h64 h0
  have HAb := Lib.hid (fun W => above_any a.key (hb a.key b.key) W oa.lt h64)
  have HT := Lib.hid (fun W (hW : Below w.heap.size w W) => two_some B W (a.key / 2 ^ (hb a.key b.key + 1) * 2 ^ (hb a.key b.key + 1)) (hb a.key b.key) pa pb a b (szle hW hB) (HP.up hW ha) (HP.up hW hb') hc)
  rw [hlen] at HL
  obtain ⟨n, hn⟩ : ∃ n, n = hb a.key b.key := ⟨_, rfl⟩
  obtain ⟨P, hP⟩ : ∃ P, P = a.key / 2 ^ (n + 1) * 2 ^ (n + 1) := ⟨_, rfl⟩
  rw [← hn] at h64 ha0 HAb HT HL h0 ⊢
  rw [← hP] at HAb HT ⊢
  obtain ⟨X, hX⟩ : ∃ X, X = a.key ^^^ b.key := ⟨_, rfl⟩
  rw [← hX] at hx HL
  obtain ⟨M, hM⟩ : ∃ M, M = 2 ^ n := ⟨_, rfl⟩
  rw [← hM] at ha0 HAb HT
  have hw1 : IntKind.i64.wrap (((n + 1 : Nat) : Int) - 1) = (n : Int) := by rw [IntWalk.i64_in _ (by omega)]; omega
  obtain ⟨L, hL⟩ : ∃ L, L = n + 1 := ⟨_, rfl⟩
  rw [← hL] at hw1 HL
  obtain ⟨x, hxx⟩ : ∃ x, x = a.key := ⟨_, rfl⟩
  obtain ⟨y, hyy⟩ : ∃ x, x = b.key := ⟨_, rfl⟩
  rw [← hxx] at k1 hx ha0 HAb
  rw [← hyy] at k2 hx
  have hw2 : IntKind.u64.wrap ((2 : Int) ^ n) = (M : Int) := by
    have hp : 2 ^ n < 18446744073709551616 := Nat.lt_of_le_of_lt (Nat.pow_le_pow_right (by decide) (show n ≤ 63 by omega)) (by decide)
    have e : ((2 : Int) ^ n) = ((2 ^ n : Nat) : Int) := by simp
    rw [e, ← hM]
    rw [← hM] at hp
    simp [IntKind.wrap, IntKind.bits, IntKind.signed]
    omega
  have hM0 : (0 : Int) < (M : Int) := by have := Nat.two_pow_pos n; rw [← hM] at this; omega
  clear ca cb ha hb' e hlen hn hP hX hL hxx hyy h0 hc hap oa ob hM
  go_enter Try.func61, Try.ntmps61
  go_wp2_with fail
  go_quiet ((go_at_call 74; exact quietOf (HL.out _)))
  have k1' := upc (belowDrewN w nq) k1
  have k2' := upc (belowDrewN w nq) k2
  obtain ⟨V, hV⟩ : ∃ V, V = w.drewN nq := ⟨_, rfl⟩
  have HV := Lib.hid (show Below w.heap.size w V by rw [hV]; exact belowDrewN w nq)
  rw [← hV] at k1' k2' ⊢
  clear hV
  go_wp2_with ((go_at_call 75; (with_reducible refine (HAb.out _).mono ?_); rintro e w1 ⟨rfl, rfl⟩))
  refine (HT.out _ HV.out).mono ?_
  rintro e w2 ⟨c, rfl, hp, hb2⟩
  have Hp := Lib.hid (And.intro hp hb2)
  clear hp hb2
  go_wp2_with fail
  go_ret
  exact ⟨c, rfl, Hp.out.1, belowTrans HV.out Hp.out.2⟩
set_option maxHeartbeats 4000000 in
theorem both_hi (B : Nat) (w : World) (pa pb : Nat) (a b : PT) (hB : B ≤ w.heap.size) (ha : HP B w pa a) (hb' : HP B w pb b) (oa : Ok a) (ob : Ok b) (hap : Apart a b) (hc : a.cnt + b.cnt ≤ 1152921504606844000) (h0 : ¬ a.key / 2 ^ hb a.key b.key % 2 = 0) :
    Calls Try.prog 61 #[.pointer (some ⟨pa, 0, none⟩), .pointer (some ⟨pb, 0, none⟩)] w (RetP B w (both a b)) := by
  obtain ⟨va, la, ra, ca⟩ := ha.cells
  obtain ⟨vb, lb, rb, cb⟩ := hb'.cells
  obtain ⟨h64, hlen, _, _⟩ := hb_spec oa ob hap
  have k1 := ca.c0
  have k2 := cb.c0
  have e : both a b = .node (b.key / 2 ^ (hb a.key b.key + 1) * 2 ^ (hb a.key b.key + 1)) (hb a.key b.key) b a := if_neg h0
  rw [e]
  have hx := u64_xor_nat a.key b.key oa.lt ob.lt
  have HL := Lib.hid (fun W => len64_any (a.key ^^^ b.key) W (xor_lt oa.lt ob.lt))
  have ha0 := and1 oa.lt h64 h0
  have HAb := Lib.hid (fun W => above_any b.key (hb a.key b.key) W ob.lt h64)
  have HT := Lib.hid (fun W (hW : Below w.heap.size w W) => two_some B W (b.key / 2 ^ (hb a.key b.key + 1) * 2 ^ (hb a.key b.key + 1)) (hb a.key b.key) pb pa b a (szle hW hB) (HP.up hW hb') (HP.up hW ha) (by omega))
  rw [hlen] at HL
  obtain ⟨n, hn⟩ : ∃ n, n = hb a.key b.key := ⟨_, rfl⟩
  obtain ⟨P, hP⟩ : ∃ P, P = b.key / 2 ^ (n + 1) * 2 ^ (n + 1) := ⟨_, rfl⟩
  rw [← hn] at h64 ha0 HAb HT HL h0 ⊢
  rw [← hP] at HAb HT ⊢
  obtain ⟨X, hX⟩ : ∃ X, X = a.key ^^^ b.key := ⟨_, rfl⟩
  rw [← hX] at hx HL
  obtain ⟨M, hM⟩ : ∃ M, M = 2 ^ n := ⟨_, rfl⟩
  rw [← hM] at ha0 HAb HT
  have hw1 : IntKind.i64.wrap (((n + 1 : Nat) : Int) - 1) = (n : Int) := by rw [IntWalk.i64_in _ (by omega)]; omega
  obtain ⟨L, hL⟩ : ∃ L, L = n + 1 := ⟨_, rfl⟩
  rw [← hL] at hw1 HL
  obtain ⟨x, hxx⟩ : ∃ x, x = a.key := ⟨_, rfl⟩
  obtain ⟨y, hyy⟩ : ∃ x, x = b.key := ⟨_, rfl⟩
  rw [← hxx] at k1 hx ha0
  rw [← hyy] at k2 hx HAb
  have hw2 : IntKind.u64.wrap ((2 : Int) ^ n) = (M : Int) := by
    have hp : 2 ^ n < 18446744073709551616 := Nat.lt_of_le_of_lt (Nat.pow_le_pow_right (by decide) (show n ≤ 63 by omega)) (by decide)
    have e : ((2 : Int) ^ n) = ((2 ^ n : Nat) : Int) := by simp
    rw [e, ← hM]
    rw [← hM] at hp
    simp [IntKind.wrap, IntKind.bits, IntKind.signed]
    omega
  have hM0 : (0 : Int) < (M : Int) := by have := Nat.two_pow_pos n; rw [← hM] at this; omega
  clear ca cb ha hb' e hlen hn hP hX hL hxx hyy h0 hc hap oa ob hM
  go_enter Try.func61, Try.ntmps61
  go_wp2_with fail
  go_quiet ((go_at_call 74; exact quietOf (HL.out _)))
  have k1' := upc (belowDrewN w nq) k1
  have k2' := upc (belowDrewN w nq) k2
  obtain ⟨V, hV⟩ : ∃ V, V = w.drewN nq := ⟨_, rfl⟩
  have HV := Lib.hid (show Below w.heap.size w V by rw [hV]; exact belowDrewN w nq)
  rw [← hV] at k1' k2' ⊢
  clear hV
  go_wp2_with ((go_at_call 75; (with_reducible refine (HAb.out _).mono ?_); rintro e w1 ⟨rfl, rfl⟩))
  refine (HT.out _ HV.out).mono ?_
  rintro e w2 ⟨c, rfl, hp, hb2⟩
  have Hp := Lib.hid (And.intro hp hb2)
  clear hp hb2
  go_wp2_with fail
  go_ret
  exact ⟨c, rfl, Hp.out.1, belowTrans HV.out Hp.out.2⟩
theorem both_any (B : Nat) (w : World) (pa pb : Nat) (a b : PT) (hB : B ≤ w.heap.size) (ha : HP B w pa a) (hb' : HP B w pb b) (oa : Ok a) (ob : Ok b) (hap : Apart a b) (hc : a.cnt + b.cnt ≤ 1152921504606844000) :
    Calls Try.prog 61 #[.pointer (some ⟨pa, 0, none⟩), .pointer (some ⟨pb, 0, none⟩)] w (RetP B w (both a b)) := by
  by_cases h0 : a.key / 2 ^ hb a.key b.key % 2 = 0
  · exact both_lo B w pa pb a b hB ha hb' oa ob hap hc h0
  · exact both_hi B w pa pb a b hB ha hb' oa ob hap hc h0
end Go.Proofs.Ytenaddjnaeebbaa.pat
