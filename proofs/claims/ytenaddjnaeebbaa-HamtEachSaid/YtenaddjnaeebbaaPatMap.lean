/- Package pat: the map's methods: Put, Drop, Get, Len. -/
import Derived.Test.YtenaddjnaeebbaaPat4
namespace Go.Proofs.Ytenaddjnaeebbaa.pat
open Go.RowKit

/-- numbers with a sign, that fit -/
def I64 (k : Int) : Prop := -9223372036854775808 ≤ k ∧ k ≤ 9223372036854775807
/-- a key, turned -/
def tk (k : Int) : Nat := (k + 9223372036854775808).toNat
theorem tk_lt {k : Int} (h : I64 k) : tk k < 2 ^ 64 := by unfold tk I64 at *; omega
theorem tk_inj {a b : Int} (ha : I64 a) (hb : I64 b) (h : tk a = tk b) : a = b := by unfold tk I64 at *; omega
theorem xor_low {x : Nat} (h : x < 9223372036854775808) : x ^^^ 9223372036854775808 = x + 9223372036854775808 := by
  have e : (2 : Nat) ^ 63 * 1 + x = 2 ^ 63 * 1 ||| x := Nat.two_pow_add_eq_or_of_lt (show x < 2 ^ 63 from h) 1
  rw [Nat.add_comm, show (9223372036854775808 : Nat) = 2 ^ 63 * 1 from rfl, e]
  apply Nat.eq_of_testBit_eq
  intro i
  rw [Nat.testBit_xor, Nat.testBit_or, Nat.mul_one, Nat.testBit_two_pow]
  by_cases hi : 63 = i
  · subst hi
    have : x.testBit 63 = false := Nat.testBit_lt_two_pow h
    simp [this]
  · simp [hi]
theorem xor_high {x : Nat} (h : 9223372036854775808 ≤ x) (h2 : x < 18446744073709551616) : x ^^^ 9223372036854775808 = x - 9223372036854775808 := by
  obtain ⟨y, rfl⟩ : ∃ y, x = y + 9223372036854775808 := ⟨x - 9223372036854775808, by omega⟩
  have e : (y ^^^ 9223372036854775808) ^^^ 9223372036854775808 = y := by rw [Nat.xor_assoc, Nat.xor_self, Nat.xor_zero]
  rw [xor_low (x := y) (by omega)] at e
  rw [e]
  omega
theorem turn_eq {k : Int} (h : I64 k) : bits .xor .u64 (IntKind.u64.wrap k) 9223372036854775808 = (tk k : Int) := by
  unfold I64 at h
  have e : IntKind.u64.wrap k = ((if 0 ≤ k then k.toNat else (k + 18446744073709551616).toNat : Nat) : Int) := by
    have e0 : IntKind.u64.wrap k = k % 18446744073709551616 := by simp [IntKind.wrap, IntKind.bits, IntKind.signed]
    rw [e0]
    split <;> omega
  rw [e, show (9223372036854775808 : Int) = ((9223372036854775808 : Nat) : Int) from rfl, u64_xor_nat _ _ (by split <;> omega) (by decide)]
  congr 1
  unfold tk
  split
  · rw [xor_low (by omega)]; omega
  · rw [xor_high (by omega) (by omega)]; omega
theorem back_eq {x : Nat} (h : x < 2 ^ 64) : IntKind.i64.wrap (bits .xor .u64 (x : Int) 9223372036854775808) = (x : Int) - 9223372036854775808 := by
  rw [show (9223372036854775808 : Int) = ((9223372036854775808 : Nat) : Int) from rfl, u64_xor_nat _ _ h (by decide), IntKind.wrap_i64]
  rcases Nat.lt_or_ge x 9223372036854775808 with hx | hx
  · rw [xor_low hx]; omega
  · rw [xor_high hx (by omega)]; omega

set_option maxHeartbeats 1000000 in
theorem turned_any (k : Int) (w : World) (h : I64 k) : Calls Try.prog 42 #[.int .i64 k] w fun e w' => e = .returned (.int .u64 (tk k : Nat)) ∧ w = w' := by
  have ht := turn_eq h
  obtain ⟨x, hx⟩ : ∃ x, x = tk k := ⟨_, rfl⟩
  rw [← hx] at ht ⊢
  clear hx h
  go_enter Try.func42, Try.ntmps42
  go_wp2_with fail
  go_ret
  exact ⟨rfl, rfl⟩

/-- putting into a map, perhaps the empty one -/
def oput (o : Option PT) (k : Nat) (v : Int) : PT := match o with
  | none => .leaf k v
  | some t => put t k v
def odrop (o : Option PT) (k : Nat) : Option PT := match o with
  | none => none
  | some t => drop t k

set_option maxHeartbeats 1000000 in
theorem put_nil (B : Nat) (w : World) (k : Nat) (v : Int) (hB : B ≤ w.heap.size) :
    Calls Try.prog 41 #[.pointer none, .int .u64 (k : Nat), .int .i64 v] w (RetP B w (.leaf k v)) := by
  go_enter Try.func41, Try.ntmps41
  go_wp2_with fail
  refine (leaf_any w k v).mono ?_
  rintro e w1 ⟨rfl, rfl⟩
  go_wp2_with fail
  go_ret
  exact ⟨w.heap.size, rfl, HP.leaf hB, belowAlloc _ _⟩
theorem oput_any (B : Nat) (w : World) (p : Option Addr) (o : Option PT) (k : Nat) (v : Int) (hB : B ≤ w.heap.size) (h : HO B w p o) (ho : OOk o) (hk : k < 2 ^ 64) (hc : ocnt o ≤ 1152921504606843999) :
    Calls Try.prog 41 #[.pointer p, .int .u64 (k : Nat), .int .i64 v] w (RetP B w (oput o k v)) := by
  cases o with
  | none => obtain rfl : p = none := h; exact put_nil B w k v hB
  | some t => obtain ⟨b, rfl, h⟩ := h; exact put_any B k v hk t w b hB h ho hc
theorem odrop_any (B : Nat) (w : World) (p : Option Addr) (o : Option PT) (k : Nat) (hB : B ≤ w.heap.size) (h : HO B w p o) (ho : OOk o) (hk : k < 2 ^ 64) (hc : ocnt o ≤ 1152921504606843999) :
    Calls Try.prog 43 #[.pointer p, .int .u64 (k : Nat)] w (RetO B w (odrop o k)) := by
  cases o with
  | none =>
    obtain rfl : p = none := h
    refine (drop_nil w _).mono ?_
    rintro e w' ⟨rfl, rfl⟩
    exact ⟨none, rfl, rfl, Below.refl _ _⟩
  | some t => obtain ⟨b, rfl, h⟩ := h; exact drop_any B k hk t w b hB h ho hc
theorem oget_any (B : Nat) (w : World) (p : Option Addr) (o : Option PT) (k : Nat) (h : HO B w p o) (ho : OOk o) (hk : k < 2 ^ 64) (r : Option Int) (hr : oget o k = r) :
    Calls Try.prog 45 #[.pointer p, .int .u64 (k : Nat)] w (RetG w r) := by
  subst hr
  cases o with
  | none => obtain rfl : p = none := h; exact get_nil w _
  | some t => obtain ⟨b, rfl, h⟩ := h; exact get_any B k hk w t b h ho _ rfl

/-- what a call that hands back a map leaves -/
def RetM (B : Nat) (w : World) (o : Option PT) (e : Ending) (w' : World) : Prop := ∃ p, e = .returned (.agg #[.pointer p]) ∧ HO B w' p o ∧ Below w.heap.size w w'

theorem HP.store {B : Nat} {w : World} {k off : Nat} {c : Array Value} {ty' : Nat} {fz : Nat × Nat} {u : Value} (hk : w.heap[k]? = some (.cells c ty' fz)) (hne : ty' ≠ 71) : ∀ {t : PT} {b : Nat}, HP B w b t → HP B (w.setCell ⟨k, off, none⟩ u) b t
  | .leaf _ _, b, ⟨hB, h⟩ => ⟨hB, (Below.heap_setCell w _ u b (by rintro rfl; rw [hk] at h; cases h; exact hne rfl)).trans h⟩
  | .node _ _ _ _, b, ⟨hB, bl, br, h, hl, hr⟩ => ⟨hB, bl, br, (Below.heap_setCell w _ u b (by rintro rfl; rw [hk] at h; cases h; exact hne rfl)).trans h, HP.store hk hne hl, HP.store hk hne hr⟩
theorem HO.store {B : Nat} {w : World} {k off : Nat} {c : Array Value} {ty' : Nat} {fz : Nat × Nat} {u : Value} (hk : w.heap[k]? = some (.cells c ty' fz)) (hne : ty' ≠ 71) {p : Option Addr} {o : Option PT} (h : HO B w p o) : HO B (w.setCell ⟨k, off, none⟩ u) p o := by
  cases o with
  | none => exact h
  | some t => obtain ⟨b, e, h⟩ := h; exact ⟨b, e, HP.store hk hne h⟩

set_option maxHeartbeats 4000000 in
theorem Put_any (B : Nat) (w : World) (p : Option Addr) (o : Option PT) (k : Int) (v : Int) (hB : B ≤ w.heap.size) (h : HO B w p o) (ho : OOk o) (hk : I64 k) (hc : ocnt o ≤ 1152921504606843999) :
    Calls Try.prog 24 #[.agg #[.pointer p], .int .i64 k, .int .i64 v] w (RetM B w (some (oput o (tk k) v))) := by
  have h1 := belowTrans (belowAlloc w (.cells #[.pointer p] 49)) (belowAlloc _ (.cells #[.pointer none] 49))
  have hz := heapNew2 w (.cells #[.pointer p] 49) (.cells #[.pointer none] 49)
  have hz0 := heapNew1 w (.cells #[.pointer p] 49) (.cells #[.pointer none] 49)
  obtain ⟨W, hW⟩ : ∃ W, W = (w.alloc (.cells #[.pointer p] 49)).alloc (.cells #[.pointer none] 49) := ⟨_, rfl⟩
  rw [← hW] at h1 hz hz0
  have hsz := h1.size
  have kz := cell_of_one hz0
  have HT := Lib.hid (fun W => turned_any k W hk)
  have HC := Lib.hid (fun W' (hW' : Below W.heap.size W W') => oput_any B W' p o (tk k) v (by have := hW'.size; omega) ((h.up h1).up hW') ho (tk_lt hk) hc)
  have HZ := Lib.hid hz
  have HW := Lib.hid hW
  have H1 := Lib.hid h1
  clear hW hz hz0 h1 h ho hk hc
  go_enter Try.func24, Try.ntmps24
  go_wp2_with fail
  rw [← HW.out]
  go_region_held3 (fun w' => w'.cell? ⟨w.heap.size, 0, none⟩ = some (.pointer p)) (first | exact kz1 | exact kz | go_keep)
    (first
    | (go_at_call 42; refine (HT.out _).mono ?_; rintro e w' ⟨rfl, rfl⟩)
    | (go_at_call 41; refine (HC.out _ (by exact belowDrew W)).mono ?_; rintro e w1 ⟨p1, rfl, hp1, hb1⟩; replace hb1 := belowTrans (belowDrew W) hb1; have kz1 := upc hb1 kz; have hz1 := upb hb1 HZ.out; have c1 := cell_of_one hz1; have f1 := free_of_one hz1))
  go_wp2_with fail
  have hst := one_setCell (u := .pointer (some ⟨p1, 0, none⟩)) hz1
  have kr := cell_of_one hst
  refine bodyPost_ret (v := .agg #[.pointer (some ⟨p1, 0, none⟩)]) (by simp only [results, Try.results24]; simp [go_sem, kr]) rfl ?_
  exact ⟨_, rfl, HO.store (k := w.heap.size + 1) (off := 0) hz1 (by decide) ⟨p1, rfl, hp1⟩, belowSet (a := ⟨w.heap.size + 1, 0, none⟩) (belowTrans H1.out hb1) (Nat.le_succ _) _⟩

set_option maxHeartbeats 4000000 in
theorem Drop_any (B : Nat) (w : World) (p : Option Addr) (o : Option PT) (k : Int) (hB : B ≤ w.heap.size) (h : HO B w p o) (ho : OOk o) (hk : I64 k) (hc : ocnt o ≤ 1152921504606843999) :
    Calls Try.prog 25 #[.agg #[.pointer p], .int .i64 k] w (RetM B w (odrop o (tk k))) := by
  have h1 := belowTrans (belowAlloc w (.cells #[.pointer p] 49)) (belowAlloc _ (.cells #[.pointer none] 49))
  have hz := heapNew2 w (.cells #[.pointer p] 49) (.cells #[.pointer none] 49)
  have hz0 := heapNew1 w (.cells #[.pointer p] 49) (.cells #[.pointer none] 49)
  obtain ⟨W, hW⟩ : ∃ W, W = (w.alloc (.cells #[.pointer p] 49)).alloc (.cells #[.pointer none] 49) := ⟨_, rfl⟩
  rw [← hW] at h1 hz hz0
  have hsz := h1.size
  have kz := cell_of_one hz0
  have HT := Lib.hid (fun W => turned_any k W hk)
  have HC := Lib.hid (fun W' (hW' : Below W.heap.size W W') => odrop_any B W' p o (tk k) (by have := hW'.size; omega) ((h.up h1).up hW') ho (tk_lt hk) hc)
  have HZ := Lib.hid hz
  have HW := Lib.hid hW
  have H1 := Lib.hid h1
  clear hW hz hz0 h1 h ho hk hc
  go_enter Try.func25, Try.ntmps25
  go_wp2_with fail
  rw [← HW.out]
  go_region_held3 (fun w' => w'.cell? ⟨w.heap.size, 0, none⟩ = some (.pointer p)) (first | exact kz1 | exact kz | go_keep)
    (first
    | (go_at_call 42; refine (HT.out _).mono ?_; rintro e w' ⟨rfl, rfl⟩)
    | (go_at_call 43; refine (HC.out _ (by exact belowDrew W)).mono ?_; rintro e w1 ⟨p1, rfl, hp1, hb1⟩; replace hb1 := belowTrans (belowDrew W) hb1; have kz1 := upc hb1 kz; have hz1 := upb hb1 HZ.out; have c1 := cell_of_one hz1; have f1 := free_of_one hz1))
  go_wp2_with fail
  have hst := one_setCell (u := .pointer p1) hz1
  have kr := cell_of_one hst
  refine bodyPost_ret (v := .agg #[.pointer p1]) (by simp only [results, Try.results25]; simp [go_sem, kr]) rfl ?_
  exact ⟨_, rfl, HO.store (k := w.heap.size + 1) (off := 0) hz1 (by decide) hp1, belowSet (a := ⟨w.heap.size + 1, 0, none⟩) (belowTrans H1.out hb1) (Nat.le_succ _) _⟩

def RetV (w : World) (r : Option Int) (e : Ending) (w' : World) : Prop := e = .returned (.tuple #[.int .i64 (r.getD 0), .bool r.isSome]) ∧ Below w.heap.size w w'
set_option maxHeartbeats 4000000 in
theorem Get_any (B : Nat) (w : World) (p : Option Addr) (o : Option PT) (k : Int) (h : HO B w p o) (ho : OOk o) (hk : I64 k) (r : Option Int) (hr : oget o (tk k) = r) :
    Calls Try.prog 27 #[.agg #[.pointer p], .int .i64 k] w (RetV w r) := by
  have h1 := belowAlloc w (.cells #[.pointer p] 49)
  have hz0 := heap_alloc_new w (.cells #[.pointer p] 49)
  obtain ⟨W, hW⟩ : ∃ W, W = w.alloc (.cells #[.pointer p] 49) := ⟨_, rfl⟩
  rw [← hW] at h1 hz0
  have kz := cell_of_one hz0
  have HT := Lib.hid (fun W => turned_any k W hk)
  have HC := Lib.hid (fun W' (hW' : Below W.heap.size W W') => oget_any B W' p o (tk k) ((h.up h1).up hW') ho (tk_lt hk) r hr)
  have HW := Lib.hid hW
  have H1 := Lib.hid h1
  clear hW hz0 h1 h ho hk hr
  go_enter Try.func27, Try.ntmps27
  go_wp2_with fail
  rw [← HW.out]
  cases r with
  | none =>
    go_region_held3 (fun w' => w'.cell? ⟨w.heap.size, 0, none⟩ = some (.pointer p)) (first | exact kz | go_keep)
      (first
      | (go_at_call 42; refine (HT.out _).mono ?_; rintro e w' ⟨rfl, rfl⟩)
      | (go_at_call 45; refine (HC.out _ (by exact belowDrew W)).mono ?_; rintro e w1 ⟨rfl, rfl⟩))
    go_wp2_with fail
    go_ret2
    exact ⟨rfl, belowTrans H1.out (belowDrew _)⟩
  | some v =>
    go_region_held3 (fun w' => w'.cell? ⟨w.heap.size, 0, none⟩ = some (.pointer p)) (first | exact kz | go_keep)
      (first
      | (go_at_call 42; refine (HT.out _).mono ?_; rintro e w' ⟨rfl, rfl⟩)
      | (go_at_call 45; refine (HC.out _ (by exact belowDrew W)).mono ?_; rintro e w1 ⟨rfl, b, rfl, hv⟩))
    go_wp2_with fail
    go_ret2
    exact ⟨rfl, belowTrans H1.out (belowDrew _)⟩

set_option maxHeartbeats 1000000 in
theorem Len_any (B : Nat) (w : World) (p : Option Addr) (o : Option PT) (h : HO B w p o) :
    Calls Try.prog 28 #[.agg #[.pointer p]] w fun e w' => e = .returned (.int .i64 (ocnt o : Nat)) ∧ Below w.heap.size w w' := by
  have HS := Lib.hid (size_any B _ p o (h.up (belowAlloc w (.cells #[.pointer p] 49))))
  clear h
  go_enter Try.func28, Try.ntmps28
  go_wp2_with ((with_reducible refine HS.out.mono ?_); rintro e w' ⟨rfl, rfl⟩)
  go_ret
  exact ⟨rfl, belowAlloc _ _⟩
end Go.Proofs.Ytenaddjnaeebbaa.pat
