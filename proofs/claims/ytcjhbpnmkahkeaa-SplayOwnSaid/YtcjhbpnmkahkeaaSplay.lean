/- The walks of package splay: each function hands back a tree of as many numbers as it must have; what was there stays. -/
import Derived.Test.YtcjhbpnmkahkeaaBase
import Derived.Test.YtcjhbpnmkahkeaaMore
import Derived.Test.YtcjhbpnmkahkeaaRows
import Derived.Deep.QuietTactic
import Derived.BigQuiet
namespace Go.Proofs.Ytcjhbpnmkahkeaa.splay
open Go.RowKit

abbrev A := Int
abbrev key (x : A) : Int := x
def cs (x : Int) (l r : BT A) : List Value := [.int .i64 x, .int .i64 (BT.size (.node x l r))]
abbrev In := Holds cs 108
abbrev Ret := RetQ cs 108

section
variable {w : World} {b : Nat} {x : Int} {l r : BT A} {pl pr : Option Addr}
  (h : w.heap[b]? = some (.cells (cs x l r ++ [Value.pointer pl, Value.pointer pr]).toArray 108 (0, 0)))
include h
theorem c0 : w.cell? ⟨b, 0, none⟩ = some (.int .i64 x) := by simp [World.cell?, h, cs]
theorem cx : w.cell? ⟨b, 0, none⟩ = some (.int .i64 (key x)) := c0 h
theorem cn : w.cell? ⟨b, 1, none⟩ = some (.int .i64 (BT.size (.node x l r))) := by simp [World.cell?, h, cs]
theorem cl : w.cell? ⟨b, 2, none⟩ = some (.pointer pl) := by simp [World.cell?, h, cs]
theorem cr : w.cell? ⟨b, 3, none⟩ = some (.pointer pr) := by simp [World.cell?, h, cs]
end

set_option maxHeartbeats 400000 in
theorem size_any {B : Nat} {w : World} {p : Option Addr} {t : BT A} (h : In B w p t) :
    Calls Try.prog 71 #[.pointer p] w fun e w' => e = .returned (.int .i64 (t.size : Nat)) ∧ w = w' := by
  cases t with
  | nil =>
    obtain rfl : p = none := h
    go_enter Try.func71, Try.ntmps71
    go_wp2
    go_ret
    exact ⟨rfl, rfl⟩
  | node x l r =>
    obtain ⟨b, pl, pr, rfl, _, hb, _, _⟩ := h
    have h1 := cn hb
    clear hb
    go_enter Try.func71, Try.ntmps71
    go_wp2
    go_ret
    exact ⟨rfl, rfl⟩

theorem new_any {B : Nat} {w : World} {pl : Option Addr} {l : BT A} {x : Int} {pr : Option Addr} {r : BT A} (hB : B ≤ w.heap.size) (hl : In B w pl l) (hr : In B w pr r) (n : Int) (hn : n = (BT.size (.node x l r) : Nat)) :
    Ret B w (· = .node x l r) (.returned (.pointer (some ⟨w.heap.size, 0, none⟩))) (w.alloc (.cells #[.int .i64 x, .int .i64 n, .pointer pl, .pointer pr] 108)) := by
  subst hn
  exact RetQ.mk rfl (Holds.new hB hl hr) (belowAlloc _ _)

set_option maxHeartbeats 400000 in
theorem made_any (B : Nat) (w : World) (pl : Option Addr) (l : BT A) (x : Int) (pr : Option Addr) (r : BT A) (hB : B ≤ w.heap.size) (hl : In B w pl l) (hr : In B w pr r) (hs : l.size + r.size ≤ 1152921504606846976) :
    Calls Try.prog 95 #[.pointer pl, .int .i64 x, .pointer pr] w (Ret B w (· = .node x l r)) := by
  go_enter Try.func95, Try.ntmps95
  go_wp2_with fail
  refine (size_any hl).mono ?_; rintro e w' ⟨rfl, rfl⟩
  go_wp2_with fail
  refine (size_any hr).mono ?_; rintro e w' ⟨rfl, rfl⟩
  go_wp2_with fail
  go_ret
  exact new_any hB hl hr _ (by simp only [BT.size]; omega)

set_option maxHeartbeats 1000000 in
theorem right_any (B : Nat) (w : World) (p : Option Addr) (ll : BT A) (lx : Int) (lr : BT A) (x : Int) (r : BT A) (hB : B ≤ w.heap.size) (h : In B w p (.node x (.node lx ll lr) r)) (hs : ll.size + lr.size + r.size ≤ 1152921504606846900) :
    Calls Try.prog 123 #[.pointer p] w (Ret B w (· = .node lx ll (.node x lr r))) := by
  obtain ⟨b, pl, pr, rfl, _, hb, hl, hr⟩ := h
  obtain ⟨m, pll, plr, rfl, _, hm, hll, hlr⟩ := hl
  have kx := c0 hb
  have kl := cl hb
  have kr := cr hb
  have mx := c0 hm
  have ml := cl hm
  have mr := cr hm
  clear hb hm
  go_enter Try.func123, Try.ntmps123
  go_wp2_with fail
  go_region_held3 (fun w' => w'.cell? ⟨b, 0, none⟩ = some (.int .i64 x) ∧ w'.cell? ⟨b, 2, none⟩ = some (.pointer (some ⟨m, 0, none⟩)) ∧ w'.cell? ⟨b, 3, none⟩ = some (.pointer pr) ∧ w'.cell? ⟨m, 0, none⟩ = some (.int .i64 lx) ∧ w'.cell? ⟨m, 2, none⟩ = some (.pointer pll) ∧ w'.cell? ⟨m, 3, none⟩ = some (.pointer plr)) (first | exact ⟨kx_2, kl_2, kr_2, mx_2, ml_2, mr_2⟩ | exact ⟨kx_1, kl_1, kr_1, mx_1, ml_1, mr_1⟩ | exact ⟨kx, kl, kr, mx, ml, mr⟩ | go_keep)
    (first
      | (go_at_call_of 95 (Value.pointer plr); refine (made_any B _ _ lr x _ r (by exact szle (belowDrew w) hB) (by exact hlr.up (belowDrew w)) (by exact hr.up (belowDrew w)) (by first | omega | (simp only [BT.size]; omega))).mono ?_; rintro e w1 ⟨p1, _, rfl, rfl, hp1, hb1⟩; replace hb1 := belowTrans (belowDrew w) hb1; have kx_1 := upc hb1 kx; have kl_1 := upc hb1 kl; have kr_1 := upc hb1 kr; have mx_1 := upc hb1 mx; have ml_1 := upc hb1 ml; have mr_1 := upc hb1 mr)
      | (go_at_call_of 95 (Value.pointer pll); refine (made_any B _ _ ll lx _ (.node x lr r) (by exact szle hb1 hB) (by exact hll.up hb1) (by exact hp1) (by first | omega | (simp only [BT.size]; omega))).mono ?_; rintro e w2 ⟨p2, _, rfl, rfl, hp2, hb2⟩; have kx_2 := upc hb2 kx_1; have kl_2 := upc hb2 kl_1; have kr_2 := upc hb2 kr_1; have mx_2 := upc hb2 mx_1; have ml_2 := upc hb2 ml_1; have mr_2 := upc hb2 mr_1))
  have hbel2 := (belowTrans hb1 hb2)
  go_wp2_with fail
  go_ret
  exact RetQ.mk rfl hp2 hbel2

set_option maxHeartbeats 1000000 in
theorem left_any (B : Nat) (w : World) (p : Option Addr) (l : BT A) (x : Int) (rl : BT A) (rx : Int) (rr : BT A) (hB : B ≤ w.heap.size) (h : In B w p (.node x l (.node rx rl rr))) (hs : rl.size + rr.size + l.size ≤ 1152921504606846900) :
    Calls Try.prog 124 #[.pointer p] w (Ret B w (· = .node rx (.node x l rl) rr)) := by
  obtain ⟨b, pl, pr, rfl, _, hb, hl, hr⟩ := h
  obtain ⟨m, prl, prr, rfl, _, hm, hrl, hrr⟩ := hr
  have kx := c0 hb
  have kl := cl hb
  have kr := cr hb
  have mx := c0 hm
  have ml := cl hm
  have mr := cr hm
  clear hb hm
  go_enter Try.func124, Try.ntmps124
  go_wp2_with fail
  go_region_held3 (fun w' => w'.cell? ⟨b, 0, none⟩ = some (.int .i64 x) ∧ w'.cell? ⟨b, 2, none⟩ = some (.pointer pl) ∧ w'.cell? ⟨b, 3, none⟩ = some (.pointer (some ⟨m, 0, none⟩)) ∧ w'.cell? ⟨m, 0, none⟩ = some (.int .i64 rx) ∧ w'.cell? ⟨m, 2, none⟩ = some (.pointer prl) ∧ w'.cell? ⟨m, 3, none⟩ = some (.pointer prr)) (first | exact ⟨kx_2, kl_2, kr_2, mx_2, ml_2, mr_2⟩ | exact ⟨kx_1, kl_1, kr_1, mx_1, ml_1, mr_1⟩ | exact ⟨kx, kl, kr, mx, ml, mr⟩ | go_keep)
    (first
      | (go_at_call_of 95 (Value.pointer prl); refine (made_any B _ _ l x _ rl (by exact szle (belowDrew w) hB) (by exact hl.up (belowDrew w)) (by exact hrl.up (belowDrew w)) (by first | omega | (simp only [BT.size]; omega))).mono ?_; rintro e w1 ⟨p1, _, rfl, rfl, hp1, hb1⟩; replace hb1 := belowTrans (belowDrew w) hb1; have kx_1 := upc hb1 kx; have kl_1 := upc hb1 kl; have kr_1 := upc hb1 kr; have mx_1 := upc hb1 mx; have ml_1 := upc hb1 ml; have mr_1 := upc hb1 mr)
      | (go_at_call_of 95 (Value.pointer prr); refine (made_any B _ _ (.node x l rl) rx _ rr (by exact szle hb1 hB) (by exact hp1) (by exact hrr.up hb1) (by first | omega | (simp only [BT.size]; omega))).mono ?_; rintro e w2 ⟨p2, _, rfl, rfl, hp2, hb2⟩; have kx_2 := upc hb2 kx_1; have kl_2 := upc hb2 kl_1; have kr_2 := upc hb2 kr_1; have mx_2 := upc hb2 mx_1; have ml_2 := upc hb2 ml_1; have mr_2 := upc hb2 mr_1))
  have hbel2 := (belowTrans hb1 hb2)
  go_wp2_with fail
  go_ret
  exact RetQ.mk rfl hp2 hbel2
end Go.Proofs.Ytcjhbpnmkahkeaa.splay
