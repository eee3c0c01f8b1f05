/- The walks of package avl: each function hands back a tree of as many numbers as it must have; what was there stays. -/
import Derived.Test.YtcjhbpnmkahkeaaBase
import Derived.Test.YtcjhbpnmkahkeaaRows
import Derived.Lib.MinMax
import Derived.Deep.QuietTactic
import Derived.BigQuiet
namespace Go.Proofs.Ytcjhbpnmkahkeaa.avl
open Go.RowKit

def ht : BT Int → Nat
  | .nil => 0
  | .node _ l r => 1 + max (ht l) (ht r)
def cs (x : Int) (l r : BT Int) : List Value := [.int .i64 x, .int .i64 (ht (.node x l r)), .int .i64 (BT.size (.node x l r))]
abbrev A := Int
abbrev key (x : A) : Int := x
abbrev In := Holds cs 98
abbrev Ret := RetQ cs 98

theorem ht_le (t : BT Int) : ht t ≤ t.size := by
  induction t with
  | nil => simp [ht]
  | node x l r ihl ihr => simp only [ht, BT.size]; omega

section
variable {w : World} {b B : Nat} {x : Int} {l r : BT Int} {pl pr : Option Addr}
  (h : w.heap[b]? = some (.cells (cs x l r ++ [Value.pointer pl, Value.pointer pr]).toArray 98 (0, 0)))
include h
theorem c0 : w.cell? ⟨b, 0, none⟩ = some (.int .i64 x) := by simp [World.cell?, h, cs]
theorem c1 : w.cell? ⟨b, 1, none⟩ = some (.int .i64 (ht (.node x l r))) := by simp [World.cell?, h, cs]
theorem c2 : w.cell? ⟨b, 2, none⟩ = some (.int .i64 (BT.size (.node x l r))) := by simp [World.cell?, h, cs]
theorem c3 : w.cell? ⟨b, 3, none⟩ = some (.pointer pl) := by simp [World.cell?, h, cs]
theorem cx : w.cell? ⟨b, 0, none⟩ = some (.int .i64 (key x)) := c0 h
theorem cl : w.cell? ⟨b, 3, none⟩ = some (.pointer pl) := by simp [World.cell?, h, cs]
theorem cr : w.cell? ⟨b, 4, none⟩ = some (.pointer pr) := by simp [World.cell?, h, cs]
theorem c4 : w.cell? ⟨b, 4, none⟩ = some (.pointer pr) := by simp [World.cell?, h, cs]
end

set_option maxHeartbeats 400000 in
theorem height_any {B : Nat} {w : World} {p : Option Addr} {t : BT Int} (h : In B w p t) :
    Calls Try.prog 122 #[.pointer p] w fun e w' => e = .returned (.int .i64 (ht t)) ∧ w = w' := by
  cases t with
  | nil =>
    obtain rfl : p = none := h
    go_enter Try.func122, Try.ntmps122
    go_wp2
    go_ret
    exact ⟨rfl, rfl⟩
  | node x l r =>
    obtain ⟨b, pl, pr, rfl, _, hb, _, _⟩ := h
    have h1 := c1 hb
    clear hb
    go_enter Try.func122, Try.ntmps122
    go_wp2
    go_ret
    exact ⟨rfl, rfl⟩

set_option maxHeartbeats 400000 in
theorem size_any {B : Nat} {w : World} {p : Option Addr} {t : BT Int} (h : In B w p t) :
    Calls Try.prog 63 #[.pointer p] w fun e w' => e = .returned (.int .i64 (t.size : Nat)) ∧ w = w' := by
  cases t with
  | nil =>
    obtain rfl : p = none := h
    go_enter Try.func63, Try.ntmps63
    go_wp2
    go_ret
    exact ⟨rfl, rfl⟩
  | node x l r =>
    obtain ⟨b, pl, pr, rfl, _, hb, _, _⟩ := h
    have h1 := c2 hb
    clear hb
    go_enter Try.func63, Try.ntmps63
    go_wp2
    go_ret
    exact ⟨rfl, rfl⟩

theorem new_any {B : Nat} {w : World} {pl : Option Addr} {l : BT Int} {x : Int} {pr : Option Addr} {r : BT Int} (hB : B ≤ w.heap.size) (hl : In B w pl l) (hr : In B w pr r) (m n : Int) (hm : m = (ht (.node x l r) : Nat)) (hn : n = (BT.size (.node x l r) : Nat)) :
    Ret B w (· = .node x l r) (.returned (.pointer (some ⟨w.heap.size, 0, none⟩))) (w.alloc (.cells #[.int .i64 x, .int .i64 m, .int .i64 n, .pointer pl, .pointer pr] 98)) := by
  subst hm hn
  exact RetQ.mk rfl (Holds.new hB hl hr) (belowAlloc _ _)

set_option maxHeartbeats 400000 in
theorem made_any (B : Nat) (w : World) (pl : Option Addr) (l : BT Int) (x : Int) (pr : Option Addr) (r : BT Int) (hB : B ≤ w.heap.size) (hl : In B w pl l) (hr : In B w pr r) (hs : l.size + r.size ≤ 1152921504606846976) :
    Calls Try.prog 108 #[.pointer pl, .int .i64 x, .pointer pr] w (Ret B w (· = .node x l r)) := by
  have h1 := ht_le l
  have h2 := ht_le r
  go_enter Try.func108, Try.ntmps108
  go_wp2_with fail
  refine (height_any hl).mono ?_; rintro e w' ⟨rfl, rfl⟩
  go_wp2_with fail
  refine (height_any hr).mono ?_; rintro e w' ⟨rfl, rfl⟩
  go_wp2_with fail
  refine (size_any hl).mono ?_; rintro e w' ⟨rfl, rfl⟩
  go_wp2_with fail
  refine (size_any hr).mono ?_; rintro e w' ⟨rfl, rfl⟩
  go_wp2_with fail
  go_ret
  exact new_any hB hl hr _ _ (by simp only [ht]; omega) (by simp only [BT.size]; omega)

set_option maxRecDepth 100000 in
set_option maxHeartbeats 1000000 in
theorem even_a1 (B : Nat) (w : World) (b : Nat) (pll plr : Option Addr) (ll : BT Int) (lx : Int) (lr : BT Int) (x : Int) (pr : Option Addr) (r : BT Int) (hB : B ≤ w.heap.size)
    (hb : w.heap[b]? = some (.cells (cs lx ll lr ++ [Value.pointer pll, Value.pointer plr]).toArray 98 (0, 0))) (hl : In B w (some ⟨b, 0, none⟩) (.node lx ll lr)) (hll : In B w pll ll) (hlr : In B w plr lr) (hr : In B w pr r)
    (hs : ll.size + lr.size + r.size ≤ 1152921504606846900) (hd : ht r + 1 < ht (.node lx ll lr)) (hh : ht lr ≤ ht ll) :
    Calls Try.prog 109 #[.pointer (some ⟨b, 0, none⟩), .int .i64 x, .pointer pr] w (Ret B w fun t => t.size = 2 + ll.size + lr.size + r.size) := by
  have k0 := c0 hb
  have k3 := c3 hb
  have k4 := c4 hb
  clear hb
  have hz1 := ht_le (.node lx ll lr)
  have hz2 := ht_le r
  have hz3 : (BT.node lx ll lr).size = 1 + ll.size + lr.size := rfl
  have hz1 : ht (.node lx ll lr) ≤ 1152921504606846976 := by omega
  have hz4 : ht r ≤ 1152921504606846976 := by omega
  obtain ⟨H, hH⟩ : ∃ H, H = ht (.node lx ll lr) := ⟨_, rfl⟩
  have hHl := height_any hl
  rw [← hH] at hHl hz1 hd
  have d1 : (1 : Int) < (H : Int) - (ht r : Int) := by omega
  have d2 : ((ht lr : Int) ≤ (ht ll : Int)) := by omega
  clear hH hz3
  go_enter Try.func109, Try.ntmps109
  go_wp2_with fail
  refine hHl.mono ?_; rintro e w' ⟨rfl, rfl⟩
  go_wp2_with fail
  refine (height_any hr).mono ?_; rintro e w' ⟨rfl, rfl⟩
  go_wp2_with fail
  go_quiet ((first | (go_at_call_of 122 (Value.pointer pll); exact quietOf (height_any (hll.up (belowDrewN _ _)))) | (go_at_call_of 122 (Value.pointer plr); exact quietOf (height_any (hlr.up (belowDrewN _ _))))))
  go_wp2_with fail
  go_region_held3 (fun w' => w'.cell? ⟨b, 0, none⟩ = some (.int .i64 lx) ∧ w'.cell? ⟨b, 3, none⟩ = some (.pointer pll) ∧ w'.cell? ⟨b, 4, none⟩ = some (.pointer plr)) (go_keep)
    (first
      | (go_at_call_of 108 (Value.pointer plr); refine (made_any B _ _ lr x _ r (by exact hB) (by exact hlr.up (belowDrewN _ _)) (by exact hr.up (belowDrewN _ _)) (by omega)).mono ?_; rintro e w1 ⟨p1, _, rfl, rfl, hp1, hb1⟩; replace hb1 := belowTrans (belowDrewN w _) hb1; have m0 := upc hb1 k0; have m3 := upc hb1 k3; have m4 := upc hb1 k4)
      | (go_at_call_of 108 (Value.pointer pll); refine (made_any B _ _ ll lx _ (.node x lr r) (by exact szle hb1 hB) (by exact hll.up hb1) (by exact hp1) (by simp only [BT.size]; omega)).mono ?_; rintro e w2 ⟨p2, _, rfl, rfl, hp2, hb2⟩; have n0 := upc hb2 m0; have n3 := upc hb2 m3; have n4 := upc hb2 m4))
  go_wp2_with fail
  go_ret
  exact RetQ.mk (by simp only [BT.size]; omega) hp2 (belowTrans hb1 hb2)

set_option maxRecDepth 100000 in
set_option maxHeartbeats 2000000 in
theorem even_a2 (B : Nat) (w : World) (b m : Nat) (pll pml pmr : Option Addr) (ll : BT Int) (lx : Int) (ml : BT Int) (mx : Int) (mr : BT Int) (x : Int) (pr : Option Addr) (r : BT Int) (hB : B ≤ w.heap.size)
    (hb : w.heap[b]? = some (.cells (cs lx ll (.node mx ml mr) ++ [Value.pointer pll, Value.pointer (some ⟨m, 0, none⟩)]).toArray 98 (0, 0)))
    (hm : w.heap[m]? = some (.cells (cs mx ml mr ++ [Value.pointer pml, Value.pointer pmr]).toArray 98 (0, 0)))
    (hl : In B w (some ⟨b, 0, none⟩) (.node lx ll (.node mx ml mr))) (hll : In B w pll ll) (hlr : In B w (some ⟨m, 0, none⟩) (.node mx ml mr)) (hml : In B w pml ml) (hmr : In B w pmr mr) (hr : In B w pr r)
    (hs : ll.size + (ml.size + mr.size) + r.size ≤ 1152921504606846900) (hd : ht r + 1 < ht (.node lx ll (.node mx ml mr))) (hh : ht ll < ht (.node mx ml mr)) :
    Calls Try.prog 109 #[.pointer (some ⟨b, 0, none⟩), .int .i64 x, .pointer pr] w (Ret B w fun t => t.size = 3 + ll.size + ml.size + mr.size + r.size) := by
  have k0 := c0 hb
  have k3 := c3 hb
  have k4 := c4 hb
  have q0 := c0 hm
  have q3 := c3 hm
  have q4 := c4 hm
  clear hb hm
  have hz1 := ht_le (.node lx ll (.node mx ml mr))
  have hz2 := ht_le r
  have hz3 : (BT.node lx ll (.node mx ml mr)).size = 1 + ll.size + (1 + ml.size + mr.size) := rfl
  have hz1 : ht (.node lx ll (.node mx ml mr)) ≤ 1152921504606846976 := by omega
  have hz4 : ht r ≤ 1152921504606846976 := by omega
  have hHl := height_any hl
  have hHm := fun n => height_any (hlr.up (belowDrewN w n))
  obtain ⟨H, hH⟩ : ∃ H, H = ht (.node lx ll (.node mx ml mr)) := ⟨_, rfl⟩
  obtain ⟨M, hM⟩ : ∃ M, M = ht (.node mx ml mr) := ⟨_, rfl⟩
  rw [← hH] at hHl hz1 hd
  rw [← hM] at hh
  simp only [← hM] at hHm
  have d1 : (1 : Int) < (H : Int) - (ht r : Int) := by omega
  have d2 : ((ht ll : Int) < (M : Int)) := by omega
  clear hH hM hz3
  go_enter Try.func109, Try.ntmps109
  go_wp2_with fail
  refine hHl.mono ?_; rintro e w' ⟨rfl, rfl⟩
  go_wp2_with fail
  refine (height_any hr).mono ?_; rintro e w' ⟨rfl, rfl⟩
  go_wp2_with fail
  go_quiet ((first | (go_at_call_of 122 (Value.pointer pll); exact quietOf (height_any (hll.up (belowDrewN _ _)))) | (go_at_call_of 122 (Value.pointer (some ⟨m, 0, none⟩)); exact quietOf (hHm _))))
  go_wp2_with fail
  go_region_held3 (fun w' => w'.cell? ⟨b, 0, none⟩ = some (.int .i64 lx) ∧ w'.cell? ⟨b, 3, none⟩ = some (.pointer pll) ∧ w'.cell? ⟨m, 0, none⟩ = some (.int .i64 mx) ∧ w'.cell? ⟨m, 3, none⟩ = some (.pointer pml) ∧ w'.cell? ⟨m, 4, none⟩ = some (.pointer pmr)) (go_keep)
    (first
      | (go_at_call_of 108 (Value.pointer pll); refine (made_any B _ _ ll lx _ ml (by exact hB) (by exact hll.up (belowDrewN _ _)) (by exact hml.up (belowDrewN _ _)) (by omega)).mono ?_; rintro e w1 ⟨p1, _, rfl, rfl, hp1, hb1⟩; replace hb1 := belowTrans (belowDrewN w _) hb1; have k01 := upc hb1 k0; have k31 := upc hb1 k3; have q01 := upc hb1 q0; have q31 := upc hb1 q3; have q41 := upc hb1 q4)
      | (go_at_call_of 108 (Value.pointer pmr); refine (made_any B _ _ mr x _ r (by exact szle hb1 hB) (by exact hmr.up hb1) (by exact hr.up hb1) (by omega)).mono ?_; rintro e w2 ⟨p2, _, rfl, rfl, hp2, hb2⟩; have k02 := upc hb2 k01; have k32 := upc hb2 k31; have q02 := upc hb2 q01; have q32 := upc hb2 q31; have q42 := upc hb2 q41)
      | (go_at_call_of 108 (Value.int IntKind.i64 mx); refine (made_any B _ _ (.node lx ll ml) mx _ (.node x mr r) (by exact szle hb2 (szle hb1 hB)) (by exact hp1.up hb2) (by exact hp2) (by simp only [BT.size]; omega)).mono ?_; rintro e w3 ⟨p3, _, rfl, rfl, hp3, hb3⟩; have k03 := upc hb3 k02; have k33 := upc hb3 k32; have q03 := upc hb3 q02; have q33 := upc hb3 q32; have q43 := upc hb3 q42))
  go_wp2_with fail
  go_ret
  exact RetQ.mk (by simp only [BT.size]; omega) hp3 (belowTrans (belowTrans hb1 hb2) hb3)

set_option maxRecDepth 100000 in
set_option maxHeartbeats 2000000 in
theorem even_b1 (B : Nat) (w : World) (b : Nat) (prl prr : Option Addr) (rl : BT Int) (rx : Int) (rr : BT Int) (x : Int) (pl : Option Addr) (l : BT Int) (hB : B ≤ w.heap.size)
    (hb : w.heap[b]? = some (.cells (cs rx rl rr ++ [Value.pointer prl, Value.pointer prr]).toArray 98 (0, 0))) (hr : In B w (some ⟨b, 0, none⟩) (.node rx rl rr)) (hrl : In B w prl rl) (hrr : In B w prr rr) (hl : In B w pl l)
    (hs : rl.size + rr.size + l.size ≤ 1152921504606846900) (hd : ht l + 1 < ht (.node rx rl rr)) (hh : ht rl ≤ ht rr) :
    Calls Try.prog 109 #[.pointer pl, .int .i64 x, .pointer (some ⟨b, 0, none⟩)] w (Ret B w fun t => t.size = 2 + rl.size + rr.size + l.size) := by
  have k0 := c0 hb
  have k3 := c3 hb
  have k4 := c4 hb
  clear hb
  have hz1 := ht_le (.node rx rl rr)
  have hz2 := ht_le l
  have hz3 : (BT.node rx rl rr).size = 1 + rl.size + rr.size := rfl
  have hz1 : ht (.node rx rl rr) ≤ 1152921504606846976 := by omega
  have hz4 : ht l ≤ 1152921504606846976 := by omega
  have hHr := height_any hr
  obtain ⟨H, hH⟩ : ∃ H, H = ht (.node rx rl rr) := ⟨_, rfl⟩
  rw [← hH] at hHr hz1 hd
  have d0 : decide ((1 : Int) < (ht l : Int) - (H : Int)) = false := by simp; omega
  have d1 : (ht l : Int) - (H : Int) < -1 := by omega
  have d2 : ((ht rl : Int) ≤ (ht rr : Int)) := by omega
  clear hH hz3
  go_enter Try.func109, Try.ntmps109
  go_wp2_with fail
  refine (height_any hl).mono ?_; rintro e w' ⟨rfl, rfl⟩
  go_wp2_with fail
  refine hHr.mono ?_; rintro e w' ⟨rfl, rfl⟩
  go_wp2_with fail
  go_quiet (fail)
  go_wp2_with fail
  go_quiet ((first | (go_at_call_of 122 (Value.pointer prr); exact quietOf2 (height_any (hrr.up (belowDrewN _ _)))) | (go_at_call_of 122 (Value.pointer prl); exact quietOf2 (height_any (hrl.up (belowDrewN _ _))))))
  go_wp2_with fail
  go_region_held3 (fun w' => w'.cell? ⟨b, 0, none⟩ = some (.int .i64 rx) ∧ w'.cell? ⟨b, 3, none⟩ = some (.pointer prl) ∧ w'.cell? ⟨b, 4, none⟩ = some (.pointer prr)) (go_keep)
    (first
      | (go_at_call_of 108 (Value.pointer prl); refine (made_any B _ _ l x _ rl (by exact hB) (by exact hl.up (belowDrewN _ _)) (by exact hrl.up (belowDrewN _ _)) (by omega)).mono ?_; rintro e w1 ⟨p1, _, rfl, rfl, hp1, hb1⟩; replace hb1 := belowTrans (belowDrewN w _) hb1; have m0 := upc hb1 k0; have m3 := upc hb1 k3; have m4 := upc hb1 k4)
      | (go_at_call_of 108 (Value.pointer prr); refine (made_any B _ _ (.node x l rl) rx _ rr (by exact szle hb1 hB) (by exact hp1) (by exact hrr.up hb1) (by simp only [BT.size]; omega)).mono ?_; rintro e w2 ⟨p2, _, rfl, rfl, hp2, hb2⟩; have n0 := upc hb2 m0; have n3 := upc hb2 m3; have n4 := upc hb2 m4))
  go_wp2_with fail
  go_ret
  exact RetQ.mk (by simp only [BT.size]; omega) hp2 (belowTrans hb1 hb2)

set_option maxRecDepth 100000 in
set_option maxHeartbeats 2000000 in
theorem even_b2 (B : Nat) (w : World) (b m : Nat) (pml pmr prr : Option Addr) (ml : BT Int) (mx : Int) (mr : BT Int) (rx : Int) (rr : BT Int) (x : Int) (pl : Option Addr) (l : BT Int) (hB : B ≤ w.heap.size)
    (hb : w.heap[b]? = some (.cells (cs rx (.node mx ml mr) rr ++ [Value.pointer (some ⟨m, 0, none⟩), Value.pointer prr]).toArray 98 (0, 0)))
    (hm : w.heap[m]? = some (.cells (cs mx ml mr ++ [Value.pointer pml, Value.pointer pmr]).toArray 98 (0, 0)))
    (hr : In B w (some ⟨b, 0, none⟩) (.node rx (.node mx ml mr) rr)) (hrl : In B w (some ⟨m, 0, none⟩) (.node mx ml mr)) (hml : In B w pml ml) (hmr : In B w pmr mr) (hrr : In B w prr rr) (hl : In B w pl l)
    (hs : (ml.size + mr.size) + rr.size + l.size ≤ 1152921504606846900) (hd : ht l + 1 < ht (.node rx (.node mx ml mr) rr)) (hh : ht rr < ht (.node mx ml mr)) :
    Calls Try.prog 109 #[.pointer pl, .int .i64 x, .pointer (some ⟨b, 0, none⟩)] w (Ret B w fun t => t.size = 3 + ml.size + mr.size + rr.size + l.size) := by
  have k0 := c0 hb
  have k3 := c3 hb
  have k4 := c4 hb
  have q0 := c0 hm
  have q3 := c3 hm
  have q4 := c4 hm
  clear hb hm
  have hz1 := ht_le (.node rx (.node mx ml mr) rr)
  have hz2 := ht_le l
  have hz3 : (BT.node rx (.node mx ml mr) rr).size = 1 + (1 + ml.size + mr.size) + rr.size := rfl
  have hz1 : ht (.node rx (.node mx ml mr) rr) ≤ 1152921504606846976 := by omega
  have hz4 : ht l ≤ 1152921504606846976 := by omega
  have hHr := height_any hr
  have hHm := fun n => height_any (hrl.up (belowDrewN w n))
  obtain ⟨H, hH⟩ : ∃ H, H = ht (.node rx (.node mx ml mr) rr) := ⟨_, rfl⟩
  obtain ⟨M, hM⟩ : ∃ M, M = ht (.node mx ml mr) := ⟨_, rfl⟩
  rw [← hH] at hHr hz1 hd
  rw [← hM] at hh
  simp only [← hM] at hHm
  have d0 : decide ((1 : Int) < (ht l : Int) - (H : Int)) = false := by simp; omega
  have d1 : (ht l : Int) - (H : Int) < -1 := by omega
  have d2 : ((ht rr : Int) < (M : Int)) := by omega
  clear hH hM hz3
  go_enter Try.func109, Try.ntmps109
  go_wp2_with fail
  refine (height_any hl).mono ?_; rintro e w' ⟨rfl, rfl⟩
  go_wp2_with fail
  refine hHr.mono ?_; rintro e w' ⟨rfl, rfl⟩
  go_wp2_with fail
  go_quiet (fail)
  go_wp2_with fail
  go_quiet ((first | (go_at_call_of 122 (Value.pointer prr); exact quietOf2 (height_any (hrr.up (belowDrewN _ _)))) | (go_at_call_of 122 (Value.pointer (some ⟨m, 0, none⟩)); exact quietOf2 (hHm _))))
  go_wp2_with fail
  go_region_held3 (fun w' => w'.cell? ⟨b, 0, none⟩ = some (.int .i64 rx) ∧ w'.cell? ⟨b, 4, none⟩ = some (.pointer prr) ∧ w'.cell? ⟨m, 0, none⟩ = some (.int .i64 mx) ∧ w'.cell? ⟨m, 3, none⟩ = some (.pointer pml) ∧ w'.cell? ⟨m, 4, none⟩ = some (.pointer pmr)) (go_keep)
    (first
      | (go_at_call_of 108 (Value.pointer pml); refine (made_any B _ _ l x _ ml (by exact hB) (by exact hl.up (belowDrewN _ _)) (by exact hml.up (belowDrewN _ _)) (by omega)).mono ?_; rintro e w1 ⟨p1, _, rfl, rfl, hp1, hb1⟩; replace hb1 := belowTrans (belowDrewN w _) hb1; have k01 := upc hb1 k0; have k41 := upc hb1 k4; have q01 := upc hb1 q0; have q31 := upc hb1 q3; have q41 := upc hb1 q4)
      | (go_at_call_of 108 (Value.pointer pmr); refine (made_any B _ _ mr rx _ rr (by exact szle hb1 hB) (by exact hmr.up hb1) (by exact hrr.up hb1) (by omega)).mono ?_; rintro e w2 ⟨p2, _, rfl, rfl, hp2, hb2⟩; have k02 := upc hb2 k01; have k42 := upc hb2 k41; have q02 := upc hb2 q01; have q32 := upc hb2 q31; have q42 := upc hb2 q41)
      | (go_at_call_of 108 (Value.int IntKind.i64 mx); refine (made_any B _ _ (.node x l ml) mx _ (.node rx mr rr) (by exact szle hb2 (szle hb1 hB)) (by exact hp1.up hb2) (by exact hp2) (by simp only [BT.size]; omega)).mono ?_; rintro e w3 ⟨p3, _, rfl, rfl, hp3, hb3⟩; have k03 := upc hb3 k02; have k43 := upc hb3 k42; have q03 := upc hb3 q02; have q33 := upc hb3 q32; have q43 := upc hb3 q42))
  go_wp2_with fail
  go_ret
  exact RetQ.mk (by simp only [BT.size]; omega) hp3 (belowTrans (belowTrans hb1 hb2) hb3)

set_option maxRecDepth 100000 in
set_option maxHeartbeats 1000000 in
theorem even_c (B : Nat) (w : World) (pl : Option Addr) (l : BT Int) (x : Int) (pr : Option Addr) (r : BT Int) (hB : B ≤ w.heap.size) (hl : In B w pl l) (hr : In B w pr r)
    (hs : l.size + r.size ≤ 1152921504606846900) (h1 : ht l ≤ ht r + 1) (h2 : ht r ≤ ht l + 1) :
    Calls Try.prog 109 #[.pointer pl, .int .i64 x, .pointer pr] w (Ret B w fun t => t.size = 1 + l.size + r.size) := by
  have hz1 := ht_le l
  have hz2 := ht_le r
  have hz4 : ht l ≤ 1152921504606846976 := by omega
  have hz5 : ht r ≤ 1152921504606846976 := by omega
  have d0 : decide ((1 : Int) < (ht l : Int) - (ht r : Int)) = false := by simp; omega
  have d1 : decide ((ht l : Int) - (ht r : Int) < -1) = false := by simp; omega
  go_enter Try.func109, Try.ntmps109
  go_wp2_with fail
  refine (height_any hl).mono ?_; rintro e w' ⟨rfl, rfl⟩
  go_wp2_with fail
  refine (height_any hr).mono ?_; rintro e w' ⟨rfl, rfl⟩
  go_wp2_with fail
  go_quiet (fail)
  go_wp2_with fail
  go_quiet (fail)
  go_wp2_with fail
  refine (made_any B _ _ l x _ r (by exact hB) (by exact hl.up (belowDrewN _ _)) (by exact hr.up (belowDrewN _ _)) (by omega)).mono ?_
  rintro e w1 ⟨p1, _, rfl, rfl, hp1, hb1⟩
  replace hb1 := belowTrans (belowDrewN w _) hb1
  go_wp2_with fail
  go_ret
  exact RetQ.mk (by simp only [BT.size]) hp1 hb1

theorem even_any (B : Nat) (w : World) (pl : Option Addr) (l : BT Int) (x : Int) (pr : Option Addr) (r : BT Int) (hB : B ≤ w.heap.size) (hl : In B w pl l) (hr : In B w pr r) (hs : l.size + r.size ≤ 1152921504606846900) :
    Calls Try.prog 109 #[.pointer pl, .int .i64 x, .pointer pr] w (Ret B w fun t => t.size = 1 + l.size + r.size) := by
  by_cases h1 : ht r + 1 < ht l
  · cases l with
    | nil => simp [ht] at h1
    | node lx ll lr =>
      obtain ⟨b, pll, plr, rfl, hBb, hb, hll, hlr⟩ := id hl
      by_cases hh : ht lr ≤ ht ll
      · refine (even_a1 B w b pll plr ll lx lr x pr r hB hb hl hll hlr hr (by simp only [BT.size] at hs; omega) h1 hh).mono ?_
        intro e w' h
        exact h.imp fun t ht => by simp only [BT.size]; omega
      · cases lr with
        | nil => simp [ht] at hh
        | node mx ml mr =>
          obtain ⟨m, pml, pmr, rfl, _, hm, hml, hmr⟩ := id hlr
          refine (even_a2 B w b m pll pml pmr ll lx ml mx mr x pr r hB hb hm hl hll hlr hml hmr hr (by simp only [BT.size] at hs; omega) h1 (by omega)).mono ?_
          intro e w' h
          exact h.imp fun t ht => by simp only [BT.size]; omega
  · by_cases h2 : ht l + 1 < ht r
    · cases r with
      | nil => simp [ht] at h2
      | node rx rl rr =>
        obtain ⟨b, prl, prr, rfl, hBb, hb, hrl, hrr⟩ := id hr
        by_cases hh : ht rl ≤ ht rr
        · refine (even_b1 B w b prl prr rl rx rr x pl l hB hb hr hrl hrr hl (by simp only [BT.size] at hs; omega) h2 hh).mono ?_
          intro e w' h
          exact h.imp fun t ht => by simp only [BT.size]; omega
        · cases rl with
          | nil => simp [ht] at hh
          | node mx ml mr =>
            obtain ⟨m, pml, pmr, rfl, _, hm, hml, hmr⟩ := id hrl
            refine (even_b2 B w b m pml pmr prr ml mx mr rx rr x pl l hB hb hm hr hrl hml hmr hrr hl (by simp only [BT.size] at hs; omega) h2 (by omega)).mono ?_
            intro e w' h
            exact h.imp fun t ht => by simp only [BT.size]; omega
    · exact even_c B w pl l x pr r hB hl hr hs (by omega) (by omega)
end Go.Proofs.Ytcjhbpnmkahkeaa.avl
