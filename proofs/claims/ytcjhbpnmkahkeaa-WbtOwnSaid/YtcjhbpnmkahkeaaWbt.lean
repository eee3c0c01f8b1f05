/- The walks of package wbt: each function hands back a tree of as many numbers as it must have; what was there stays. -/
import Derived.Test.YtcjhbpnmkahkeaaBase
import Derived.Test.YtcjhbpnmkahkeaaMore
import Derived.Test.YtcjhbpnmkahkeaaRows
import Derived.Deep.QuietTactic
import Derived.BigQuiet
namespace Go.Proofs.Ytcjhbpnmkahkeaa.wbt
open Go.RowKit

abbrev A := Int
abbrev key (x : A) : Int := x
def cs (x : Int) (l r : BT A) : List Value := [.int .i64 x, .int .i64 (BT.size (.node x l r))]
abbrev In := Holds cs 149
abbrev Ret := RetQ cs 149

section
variable {w : World} {b : Nat} {x : Int} {l r : BT A} {pl pr : Option Addr}
  (h : w.heap[b]? = some (.cells (cs x l r ++ [Value.pointer pl, Value.pointer pr]).toArray 149 (0, 0)))
include h
theorem c0 : w.cell? ⟨b, 0, none⟩ = some (.int .i64 x) := by simp [World.cell?, h, cs]
theorem cx : w.cell? ⟨b, 0, none⟩ = some (.int .i64 (key x)) := c0 h
theorem cn : w.cell? ⟨b, 1, none⟩ = some (.int .i64 (BT.size (.node x l r))) := by simp [World.cell?, h, cs]
theorem cl : w.cell? ⟨b, 2, none⟩ = some (.pointer pl) := by simp [World.cell?, h, cs]
theorem cr : w.cell? ⟨b, 3, none⟩ = some (.pointer pr) := by simp [World.cell?, h, cs]
end

set_option maxHeartbeats 400000 in
theorem size_any {B : Nat} {w : World} {p : Option Addr} {t : BT A} (h : In B w p t) :
    Calls Try.prog 77 #[.pointer p] w fun e w' => e = .returned (.int .i64 (t.size : Nat)) ∧ w = w' := by
  cases t with
  | nil =>
    obtain rfl : p = none := h
    go_enter Try.func77, Try.ntmps77
    go_wp2
    go_ret
    exact ⟨rfl, rfl⟩
  | node x l r =>
    obtain ⟨b, pl, pr, rfl, _, hb, _, _⟩ := h
    have h1 := cn hb
    clear hb
    go_enter Try.func77, Try.ntmps77
    go_wp2
    go_ret
    exact ⟨rfl, rfl⟩

theorem new_any {B : Nat} {w : World} {pl : Option Addr} {l : BT A} {x : Int} {pr : Option Addr} {r : BT A} (hB : B ≤ w.heap.size) (hl : In B w pl l) (hr : In B w pr r) (n : Int) (hn : n = (BT.size (.node x l r) : Nat)) :
    Ret B w (· = .node x l r) (.returned (.pointer (some ⟨w.heap.size, 0, none⟩))) (w.alloc (.cells #[.int .i64 x, .int .i64 n, .pointer pl, .pointer pr] 149)) := by
  subst hn
  exact RetQ.mk rfl (Holds.new hB hl hr) (belowAlloc _ _)

set_option maxHeartbeats 400000 in
theorem made_any (B : Nat) (w : World) (pl : Option Addr) (l : BT A) (x : Int) (pr : Option Addr) (r : BT A) (hB : B ≤ w.heap.size) (hl : In B w pl l) (hr : In B w pr r) (hs : l.size + r.size ≤ 1152921504606846976) :
    Calls Try.prog 119 #[.pointer pl, .int .i64 x, .pointer pr] w (Ret B w (· = .node x l r)) := by
  go_enter Try.func119, Try.ntmps119
  go_wp2_with fail
  refine (size_any hl).mono ?_; rintro e w' ⟨rfl, rfl⟩
  go_wp2_with fail
  refine (size_any hr).mono ?_; rintro e w' ⟨rfl, rfl⟩
  go_wp2_with fail
  go_ret
  exact new_any hB hl hr _ (by simp only [BT.size]; omega)


set_option maxHeartbeats 400000 in
theorem weight_any {B : Nat} {w : World} {p : Option Addr} {t : BT A} (h : In B w p t) (hs : t.size ≤ 1152921504606846976) :
    Calls Try.prog 127 #[.pointer p] w fun e w' => e = .returned (.int .i64 ((t.size : Nat) + 1)) ∧ w = w' := by
  go_enter Try.func127, Try.ntmps127
  go_wp2_with fail
  refine (size_any h).mono ?_; rintro e w' ⟨rfl, rfl⟩
  go_wp2_with fail
  go_ret
  exact ⟨rfl, rfl⟩

/-- has a side too much? -/
def hvy (a b : BT A) : Bool := decide (3 * (b.size + 1) < a.size + 1)
theorem hvy_pos {a b : BT A} (h : hvy a b = true) : 3 ≤ a.size := by
  simp [hvy] at h
  omega

set_option maxHeartbeats 400000 in
theorem heavy_any {B : Nat} {w : World} {p q : Option Addr} {a b : BT A} (ha : In B w p a) (hb : In B w q b) (hs : a.size ≤ 1152921504606846000) (hs2 : b.size ≤ 1152921504606846000) :
    Calls Try.prog 117 #[.pointer p, .pointer q] w fun e w' => e = .returned (.bool (hvy a b)) ∧ w = w' := by
  have HE : Hid (decide (3 * ((b.size : Int) + 1) < (a.size : Int) + 1) = hvy a b) := Lib.hid (by
    unfold hvy
    exact decide_eq_decide.2 (by omega))
  go_enter Try.func117, Try.ntmps117
  go_wp2_with fail
  refine (weight_any ha (by omega)).mono ?_; rintro e w' ⟨rfl, rfl⟩
  go_wp2_with fail
  refine (weight_any hb (by omega)).mono ?_; rintro e w' ⟨rfl, rfl⟩
  go_wp2_with fail
  go_ret
  exact ⟨by rw [← HE.out]; rfl, rfl⟩

set_option maxHeartbeats 4000000 in
theorem turnLeft_1 (B : Nat) (w : World) (pl : Option Addr) (l : BT A) (x : Int) (p : Option Addr) (rl : BT A) (y : Int) (rr : BT A) (hB : B ≤ w.heap.size) (hl : In B w pl l) (h : In B w p (.node y rl rr)) (hs : l.size + rl.size + rr.size ≤ 1152921504606845000)
    (hc : rl.size + 1 < 2 * (rr.size + 1)) :
    Calls Try.prog 128 #[.pointer pl, .int .i64 x, .pointer p] w (Ret B w fun t => t.size = 2 + l.size + rl.size + rr.size) := by
  obtain ⟨b, prl, prr, rfl, _, hb, hrl, hrr⟩ := h
  have k0 : w.cell? ⟨b, 0, none⟩ = some (.int .i64 y) := c0 hb
  have kl := cl hb
  have kr := cr hb
  have d : (rl.size : Int) + 1 < 2 * ((rr.size : Int) + 1) := by omega
  clear hb
  go_enter Try.func128, Try.ntmps128
  go_wp2_with fail
  go_quiet ((first | (go_at_call_of 127 (Value.pointer prl); exact quietOf (weight_any (hrl.up (belowDrewN _ _)) (by omega))) | (go_at_call_of 127 (Value.pointer prr); exact quietOf (weight_any (hrr.up (belowDrewN _ _)) (by omega)))))
  go_wp2_with fail
  go_region_held3 (fun w' => w'.cell? ⟨b, 0, none⟩ = some (.int .i64 y) ∧ w'.cell? ⟨b, 2, none⟩ = some (.pointer prl) ∧ w'.cell? ⟨b, 3, none⟩ = some (.pointer prr)) (first | exact ⟨k0_2, kl_2, kr_2⟩ | exact ⟨k0_1, kl_1, kr_1⟩ | exact ⟨k0, kl, kr⟩ | go_keep)
    (first
      | (go_at_call_of 119 (Value.pointer prl); refine (made_any B _ _ l x _ rl (by exact szle (belowDrewN w _) hB) (by exact hl.up (belowDrewN w _)) (by exact hrl.up (belowDrewN w _)) (by first | omega | (simp only [BT.size]; omega))).mono ?_; rintro e w1 ⟨p1, _, rfl, rfl, hp1, hb1⟩; replace hb1 := belowTrans (belowDrewN w _) hb1; have k0_1 := upc hb1 k0; have kl_1 := upc hb1 kl; have kr_1 := upc hb1 kr)
      | (go_at_call_of 119 (Value.pointer prr); refine (made_any B _ _ (.node x l rl) y _ rr (by exact szle hb1 hB) (by exact hp1) (by exact hrr.up hb1) (by first | omega | (simp only [BT.size]; omega))).mono ?_; rintro e w2 ⟨p2, _, rfl, rfl, hp2, hb2⟩; have k0_2 := upc hb2 k0_1; have kl_2 := upc hb2 kl_1; have kr_2 := upc hb2 kr_1))
  have hbel2 := (belowTrans hb1 hb2)
  go_wp2_with fail
  go_ret
  exact RetQ.mk (by simp only [BT.size]; omega) hp2 hbel2

set_option maxHeartbeats 4000000 in
theorem turnLeft_2 (B : Nat) (w : World) (pl : Option Addr) (l : BT A) (x : Int) (p : Option Addr) (ml : BT A) (mx : Int) (mr : BT A) (y : Int) (rr : BT A) (hB : B ≤ w.heap.size) (hl : In B w pl l) (h : In B w p (.node y (.node mx ml mr) rr)) (hs : l.size + ml.size + mr.size + rr.size ≤ 1152921504606845000)
    (hc : 2 * (rr.size + 1) ≤ (1 + ml.size + mr.size) + 1) :
    Calls Try.prog 128 #[.pointer pl, .int .i64 x, .pointer p] w (Ret B w fun t => t.size = 3 + l.size + ml.size + mr.size + rr.size) := by
  obtain ⟨b, prl, prr, rfl, _, hb, hrl, hrr⟩ := h
  have hW := fun n => weight_any (hrl.up (belowDrewN w n)) (by simp only [BT.size]; omega)
  obtain ⟨m, pml, pmr, rfl, _, hm, hml, hmr⟩ := hrl
  have k0 : w.cell? ⟨b, 0, none⟩ = some (.int .i64 y) := c0 hb
  have kl := cl hb
  have kr := cr hb
  have m0 : w.cell? ⟨m, 0, none⟩ = some (.int .i64 mx) := c0 hm
  have ml' := cl hm
  have mr' := cr hm
  obtain ⟨M, hM⟩ : ∃ M, M = (BT.node mx ml mr : BT A).size := ⟨_, rfl⟩
  have d : 2 * ((rr.size : Int) + 1) ≤ (M : Int) + 1 := by simp only [BT.size] at hM; omega
  have hMs : M ≤ 1152921504606846000 := by simp only [BT.size] at hM; omega
  simp only [← hM] at hW
  clear hb hm hM
  go_enter Try.func128, Try.ntmps128
  go_wp2_with fail
  go_quiet ((first | (go_at_call_of 127 (Value.pointer (some ⟨m, 0, none⟩)); exact quietOf (hW _)) | (go_at_call_of 127 (Value.pointer prr); exact quietOf (weight_any (hrr.up (belowDrewN _ _)) (by omega)))))
  go_wp2_with fail
  go_region_held3 (fun w' => w'.cell? ⟨b, 0, none⟩ = some (.int .i64 y) ∧ w'.cell? ⟨b, 3, none⟩ = some (.pointer prr) ∧ w'.cell? ⟨m, 0, none⟩ = some (.int .i64 mx) ∧ w'.cell? ⟨m, 2, none⟩ = some (.pointer pml) ∧ w'.cell? ⟨m, 3, none⟩ = some (.pointer pmr)) (first | exact ⟨k0_3, kr_3, m0_3, ml'_3, mr'_3⟩ | exact ⟨k0_2, kr_2, m0_2, ml'_2, mr'_2⟩ | exact ⟨k0_1, kr_1, m0_1, ml'_1, mr'_1⟩ | exact ⟨k0, kr, m0, ml', mr'⟩ | go_keep)
    (first
      | (go_at_call_of 119 (Value.pointer pml); refine (made_any B _ _ l x _ ml (by exact szle (belowDrewN w _) hB) (by exact hl.up (belowDrewN w _)) (by exact hml.up (belowDrewN w _)) (by first | omega | (simp only [BT.size]; omega))).mono ?_; rintro e w1 ⟨p1, _, rfl, rfl, hp1, hb1⟩; replace hb1 := belowTrans (belowDrewN w _) hb1; have k0_1 := upc hb1 k0; have kr_1 := upc hb1 kr; have m0_1 := upc hb1 m0; have ml'_1 := upc hb1 ml'; have mr'_1 := upc hb1 mr')
      | (go_at_call_of 119 (Value.pointer pmr); refine (made_any B _ _ mr y _ rr (by exact szle hb1 hB) (by exact hmr.up hb1) (by exact hrr.up hb1) (by first | omega | (simp only [BT.size]; omega))).mono ?_; rintro e w2 ⟨p2, _, rfl, rfl, hp2, hb2⟩; have k0_2 := upc hb2 k0_1; have kr_2 := upc hb2 kr_1; have m0_2 := upc hb2 m0_1; have ml'_2 := upc hb2 ml'_1; have mr'_2 := upc hb2 mr'_1)
      | (go_at_call_of 119 (Value.int IntKind.i64 mx); refine (made_any B _ _ (.node x l ml) mx _ (.node y mr rr) (by exact szle (belowTrans hb1 hb2) hB) (by exact hp1.up hb2) (by exact hp2) (by first | omega | (simp only [BT.size]; omega))).mono ?_; rintro e w3 ⟨p3, _, rfl, rfl, hp3, hb3⟩; have k0_3 := upc hb3 k0_2; have kr_3 := upc hb3 kr_2; have m0_3 := upc hb3 m0_2; have ml'_3 := upc hb3 ml'_2; have mr'_3 := upc hb3 mr'_2))
  have hbel3 := (belowTrans (belowTrans hb1 hb2) hb3)
  go_wp2_with fail
  go_ret
  exact RetQ.mk (by simp only [BT.size]; omega) hp3 hbel3

set_option maxHeartbeats 4000000 in
theorem turnRight_1 (B : Nat) (w : World) (pr : Option Addr) (r : BT A) (x : Int) (p : Option Addr) (ll : BT A) (y : Int) (lr : BT A) (hB : B ≤ w.heap.size) (hr : In B w pr r) (h : In B w p (.node y ll lr)) (hs : r.size + ll.size + lr.size ≤ 1152921504606845000)
    (hc : lr.size + 1 < 2 * (ll.size + 1)) :
    Calls Try.prog 129 #[.pointer p, .int .i64 x, .pointer pr] w (Ret B w fun t => t.size = 2 + r.size + ll.size + lr.size) := by
  obtain ⟨b, pll, plr, rfl, _, hb, hll, hlr⟩ := h
  have k0 : w.cell? ⟨b, 0, none⟩ = some (.int .i64 y) := c0 hb
  have kl := cl hb
  have kr := cr hb
  have d : (lr.size : Int) + 1 < 2 * ((ll.size : Int) + 1) := by omega
  clear hb
  go_enter Try.func129, Try.ntmps129
  go_wp2_with fail
  go_quiet ((first | (go_at_call_of 127 (Value.pointer pll); exact quietOf (weight_any (hll.up (belowDrewN _ _)) (by omega))) | (go_at_call_of 127 (Value.pointer plr); exact quietOf (weight_any (hlr.up (belowDrewN _ _)) (by omega)))))
  go_wp2_with fail
  go_region_held3 (fun w' => w'.cell? ⟨b, 0, none⟩ = some (.int .i64 y) ∧ w'.cell? ⟨b, 2, none⟩ = some (.pointer pll) ∧ w'.cell? ⟨b, 3, none⟩ = some (.pointer plr)) (first | exact ⟨k0_2, kl_2, kr_2⟩ | exact ⟨k0_1, kl_1, kr_1⟩ | exact ⟨k0, kl, kr⟩ | go_keep)
    (first
      | (go_at_call_of 119 (Value.pointer plr); refine (made_any B _ _ lr x _ r (by exact szle (belowDrewN w _) hB) (by exact hlr.up (belowDrewN w _)) (by exact hr.up (belowDrewN w _)) (by first | omega | (simp only [BT.size]; omega))).mono ?_; rintro e w1 ⟨p1, _, rfl, rfl, hp1, hb1⟩; replace hb1 := belowTrans (belowDrewN w _) hb1; have k0_1 := upc hb1 k0; have kl_1 := upc hb1 kl; have kr_1 := upc hb1 kr)
      | (go_at_call_of 119 (Value.pointer pll); refine (made_any B _ _ ll y _ (.node x lr r) (by exact szle hb1 hB) (by exact hll.up hb1) (by exact hp1) (by first | omega | (simp only [BT.size]; omega))).mono ?_; rintro e w2 ⟨p2, _, rfl, rfl, hp2, hb2⟩; have k0_2 := upc hb2 k0_1; have kl_2 := upc hb2 kl_1; have kr_2 := upc hb2 kr_1))
  have hbel2 := (belowTrans hb1 hb2)
  go_wp2_with fail
  go_ret
  exact RetQ.mk (by simp only [BT.size]; omega) hp2 hbel2

set_option maxHeartbeats 4000000 in
theorem turnRight_2 (B : Nat) (w : World) (pr : Option Addr) (r : BT A) (x : Int) (p : Option Addr) (ml : BT A) (mx : Int) (mr : BT A) (y : Int) (ll : BT A) (hB : B ≤ w.heap.size) (hr : In B w pr r) (h : In B w p (.node y ll (.node mx ml mr))) (hs : r.size + ml.size + mr.size + ll.size ≤ 1152921504606845000)
    (hc : 2 * (ll.size + 1) ≤ (1 + ml.size + mr.size) + 1) :
    Calls Try.prog 129 #[.pointer p, .int .i64 x, .pointer pr] w (Ret B w fun t => t.size = 3 + r.size + ml.size + mr.size + ll.size) := by
  obtain ⟨b, pll, plr, rfl, _, hb, hll, hlr⟩ := h
  have hW := fun n => weight_any (hlr.up (belowDrewN w n)) (by simp only [BT.size]; omega)
  obtain ⟨m, pml, pmr, rfl, _, hm, hml, hmr⟩ := hlr
  have k0 : w.cell? ⟨b, 0, none⟩ = some (.int .i64 y) := c0 hb
  have kl := cl hb
  have kr := cr hb
  have m0 : w.cell? ⟨m, 0, none⟩ = some (.int .i64 mx) := c0 hm
  have ml' := cl hm
  have mr' := cr hm
  obtain ⟨M, hM⟩ : ∃ M, M = (BT.node mx ml mr : BT A).size := ⟨_, rfl⟩
  have d : 2 * ((ll.size : Int) + 1) ≤ (M : Int) + 1 := by simp only [BT.size] at hM; omega
  have hMs : M ≤ 1152921504606846000 := by simp only [BT.size] at hM; omega
  simp only [← hM] at hW
  clear hb hm hM
  go_enter Try.func129, Try.ntmps129
  go_wp2_with fail
  go_quiet ((first | (go_at_call_of 127 (Value.pointer (some ⟨m, 0, none⟩)); exact quietOf (hW _)) | (go_at_call_of 127 (Value.pointer pll); exact quietOf (weight_any (hll.up (belowDrewN _ _)) (by omega)))))
  go_wp2_with fail
  go_region_held3 (fun w' => w'.cell? ⟨b, 0, none⟩ = some (.int .i64 y) ∧ w'.cell? ⟨b, 2, none⟩ = some (.pointer pll) ∧ w'.cell? ⟨m, 0, none⟩ = some (.int .i64 mx) ∧ w'.cell? ⟨m, 2, none⟩ = some (.pointer pml) ∧ w'.cell? ⟨m, 3, none⟩ = some (.pointer pmr)) (first | exact ⟨k0_3, kl_3, m0_3, ml'_3, mr'_3⟩ | exact ⟨k0_2, kl_2, m0_2, ml'_2, mr'_2⟩ | exact ⟨k0_1, kl_1, m0_1, ml'_1, mr'_1⟩ | exact ⟨k0, kl, m0, ml', mr'⟩ | go_keep)
    (first
      | (go_at_call_of 119 (Value.pointer pml); refine (made_any B _ _ ll y _ ml (by exact szle (belowDrewN w _) hB) (by exact hll.up (belowDrewN w _)) (by exact hml.up (belowDrewN w _)) (by first | omega | (simp only [BT.size]; omega))).mono ?_; rintro e w1 ⟨p1, _, rfl, rfl, hp1, hb1⟩; replace hb1 := belowTrans (belowDrewN w _) hb1; have k0_1 := upc hb1 k0; have kl_1 := upc hb1 kl; have m0_1 := upc hb1 m0; have ml'_1 := upc hb1 ml'; have mr'_1 := upc hb1 mr')
      | (go_at_call_of 119 (Value.pointer pmr); refine (made_any B _ _ mr x _ r (by exact szle hb1 hB) (by exact hmr.up hb1) (by exact hr.up hb1) (by first | omega | (simp only [BT.size]; omega))).mono ?_; rintro e w2 ⟨p2, _, rfl, rfl, hp2, hb2⟩; have k0_2 := upc hb2 k0_1; have kl_2 := upc hb2 kl_1; have m0_2 := upc hb2 m0_1; have ml'_2 := upc hb2 ml'_1; have mr'_2 := upc hb2 mr'_1)
      | (go_at_call_of 119 (Value.int IntKind.i64 mx); refine (made_any B _ _ (.node y ll ml) mx _ (.node x mr r) (by exact szle (belowTrans hb1 hb2) hB) (by exact hp1.up hb2) (by exact hp2) (by first | omega | (simp only [BT.size]; omega))).mono ?_; rintro e w3 ⟨p3, _, rfl, rfl, hp3, hb3⟩; have k0_3 := upc hb3 k0_2; have kl_3 := upc hb3 kl_2; have m0_3 := upc hb3 m0_2; have ml'_3 := upc hb3 ml'_2; have mr'_3 := upc hb3 mr'_2))
  have hbel3 := (belowTrans (belowTrans hb1 hb2) hb3)
  go_wp2_with fail
  go_ret
  exact RetQ.mk (by simp only [BT.size]; omega) hp3 hbel3
end Go.Proofs.Ytcjhbpnmkahkeaa.wbt
