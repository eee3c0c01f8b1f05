/- The walks of package splay, the second part: up, Put. -/
import Derived.Test.YtcjhbpnmkahkeaaSplay
namespace Go.Proofs.Ytcjhbpnmkahkeaa.splay
open Go.RowKit

/-- a tree of as many numbers, with one on top -/
def UpQ (t t' : BT A) : Prop := ∃ ux ul ur, t' = .node ux ul ur ∧ 1 + ul.size + ur.size = t.size
def UpOK (x : Int) (t : BT A) : Prop := ∀ (B : Nat) (w : World) (p : Option Addr), B ≤ w.heap.size → In B w p t → t.size ≤ 1152921504606845000 → 0 < t.size →
  Calls Try.prog 94 #[.pointer p, .int .i64 x] w (Ret B w (UpQ t))

theorem ptr_of_pos {B : Nat} {w : World} {p : Option Addr} {t : BT A} (h : In B w p t) (ht : 0 < t.size) : ∃ a, p = some a := by
  cases t with
  | nil => simp [BT.size] at ht
  | node x l r =>
    obtain ⟨b, _, _, rfl, _⟩ := h
    exact ⟨_, rfl⟩
theorem ptr_of_zero {B : Nat} {w : World} {p : Option Addr} {t : BT A} (h : In B w p t) (ht : t.size = 0) : p = none := by
  cases t with
  | nil => exact h
  | node x l r => simp [BT.size] at ht

set_option maxHeartbeats 4000000 in
theorem upLeft_1 (x : Int) (B : Nat) (w : World) (p : Option Addr) (ll : BT A) (lx : Int) (lr : BT A) (y : Int) (r : BT A) (ihl : UpOK x ll) (hB : B ≤ w.heap.size) (h : In B w p (.node y (.node lx ll lr) r)) (hs : ll.size + lr.size + r.size ≤ 1152921504606845000)
    (hx : x < lx) (hp : 0 < ll.size) :
    Calls Try.prog 113 #[.pointer p, .int .i64 x] w (Ret B w (UpQ (.node y (.node lx ll lr) r))) := by
  obtain ⟨b, pl, pr, rfl, _, hb, hl, hr⟩ := h
  obtain ⟨m, pll, plr, rfl, _, hm, hll, hlr⟩ := hl
  obtain ⟨all, rfl⟩ := ptr_of_pos hll hp
  have kx := c0 hb
  have kl := cl hb
  have kr := cr hb
  have mx := c0 hm
  have ml := cl hm
  have mr := cr hm
  clear hb hm
  go_enter Try.func113, Try.ntmps113
  go_wp2_with fail
  go_region_held3 (fun w' => w'.cell? ⟨b, 0, none⟩ = some (.int .i64 y) ∧ w'.cell? ⟨b, 3, none⟩ = some (.pointer pr) ∧ w'.cell? ⟨m, 0, none⟩ = some (.int .i64 lx) ∧ w'.cell? ⟨m, 2, none⟩ = some (.pointer (some all)) ∧ w'.cell? ⟨m, 3, none⟩ = some (.pointer plr)) (first | exact ⟨kx_5, kr_5, mx_5, ml_5, mr_5⟩ | exact ⟨kx_4, kr_4, mx_4, ml_4, mr_4⟩ | exact ⟨kx_3, kr_3, mx_3, ml_3, mr_3⟩ | exact ⟨kx_2, kr_2, mx_2, ml_2, mr_2⟩ | exact ⟨kx_1, kr_1, mx_1, ml_1, mr_1⟩ | exact ⟨kx, kr, mx, ml, mr⟩ | go_keep)
    (first
      | (go_at_call 94; refine (ihl B _ _ (by exact szle (belowDrew w) hB) (by exact hll.up (belowDrew w)) (by first | omega | (simp only [BT.size]; omega)) (by first | omega | (simp only [BT.size]; omega))).mono ?_; rintro e w1 ⟨p1, _, rfl, ⟨ux, ul, ur, rfl, q1⟩, hp1, hb1⟩; replace hb1 := belowTrans (belowDrew w) hb1; have kx_1 := upc hb1 kx; have kr_1 := upc hb1 kr; have mx_1 := upc hb1 mx; have ml_1 := upc hb1 ml; have mr_1 := upc hb1 mr)
      | (go_at_call_of 95 (Value.pointer plr); refine (made_any B _ _ (.node ux ul ur) lx _ lr (by exact szle hb1 hB) (by exact hp1) (by exact hlr.up hb1) (by first | omega | (simp only [BT.size]; omega))).mono ?_; rintro e w2 ⟨p2, _, rfl, rfl, hp2, hb2⟩; have kx_2 := upc hb2 kx_1; have kr_2 := upc hb2 kr_1; have mx_2 := upc hb2 mx_1; have ml_2 := upc hb2 ml_1; have mr_2 := upc hb2 mr_1)
      | (go_at_call_of 95 (Value.pointer pr); refine (made_any B _ _ (.node lx (.node ux ul ur) lr) y _ r (by exact szle (belowTrans hb1 hb2) hB) (by exact hp2) (by exact hr.up (belowTrans hb1 hb2)) (by first | omega | (simp only [BT.size]; omega))).mono ?_; rintro e w3 ⟨p3, _, rfl, rfl, hp3, hb3⟩; have kx_3 := upc hb3 kx_2; have kr_3 := upc hb3 kr_2; have mx_3 := upc hb3 mx_2; have ml_3 := upc hb3 ml_2; have mr_3 := upc hb3 mr_2)
      | (go_at_call_of 123 (Value.pointer p3); refine (right_any B _ _ (.node ux ul ur) lx lr y r (by exact szle (belowTrans (belowTrans hb1 hb2) hb3) hB) (by exact hp3) (by first | omega | (simp only [BT.size]; omega))).mono ?_; rintro e w4 ⟨p4, _, rfl, rfl, hp4, hb4⟩; have kx_4 := upc hb4 kx_3; have kr_4 := upc hb4 kr_3; have mx_4 := upc hb4 mx_3; have ml_4 := upc hb4 ml_3; have mr_4 := upc hb4 mr_3)
      | (go_at_call_of 123 (Value.pointer p4); refine (right_any B _ _ ul ux ur lx (.node y lr r) (by exact szle (belowTrans (belowTrans (belowTrans hb1 hb2) hb3) hb4) hB) (by exact hp4) (by first | omega | (simp only [BT.size]; omega))).mono ?_; rintro e w5 ⟨p5, _, rfl, rfl, hp5, hb5⟩; have kx_5 := upc hb5 kx_4; have kr_5 := upc hb5 kr_4; have mx_5 := upc hb5 mx_4; have ml_5 := upc hb5 ml_4; have mr_5 := upc hb5 mr_4))
  have hbel5 := (belowTrans (belowTrans (belowTrans (belowTrans hb1 hb2) hb3) hb4) hb5)
  go_wp2_with fail
  go_ret
  exact RetQ.mk ⟨_, _, _, rfl, by simp only [BT.size]; omega⟩ hp5 hbel5

set_option maxHeartbeats 4000000 in
theorem upLeft_2 (x : Int) (B : Nat) (w : World) (p : Option Addr) (ll : BT A) (lx : Int) (lr : BT A) (y : Int) (r : BT A) (ihr : UpOK x lr) (hB : B ≤ w.heap.size) (h : In B w p (.node y (.node lx ll lr) r)) (hs : ll.size + lr.size + r.size ≤ 1152921504606845000)
    (hx : lx < x) (hp : 0 < lr.size) :
    Calls Try.prog 113 #[.pointer p, .int .i64 x] w (Ret B w (UpQ (.node y (.node lx ll lr) r))) := by
  obtain ⟨b, pl, pr, rfl, _, hb, hl, hr⟩ := h
  obtain ⟨m, pll, plr, rfl, _, hm, hll, hlr⟩ := hl
  obtain ⟨alr, rfl⟩ := ptr_of_pos hlr hp
  have kx := c0 hb
  have kl := cl hb
  have kr := cr hb
  have mx := c0 hm
  have ml := cl hm
  have mr := cr hm
  clear hb hm
  go_enter Try.func113, Try.ntmps113
  go_wp2_with fail
  go_region_held3 (fun w' => w'.cell? ⟨b, 0, none⟩ = some (.int .i64 y) ∧ w'.cell? ⟨b, 3, none⟩ = some (.pointer pr) ∧ w'.cell? ⟨m, 0, none⟩ = some (.int .i64 lx) ∧ w'.cell? ⟨m, 2, none⟩ = some (.pointer pll) ∧ w'.cell? ⟨m, 3, none⟩ = some (.pointer (some alr))) (first | exact ⟨kx_5, kr_5, mx_5, ml_5, mr_5⟩ | exact ⟨kx_4, kr_4, mx_4, ml_4, mr_4⟩ | exact ⟨kx_3, kr_3, mx_3, ml_3, mr_3⟩ | exact ⟨kx_2, kr_2, mx_2, ml_2, mr_2⟩ | exact ⟨kx_1, kr_1, mx_1, ml_1, mr_1⟩ | exact ⟨kx, kr, mx, ml, mr⟩ | go_keep)
    (first
      | (go_at_call 94; refine (ihr B _ _ (by exact szle (belowDrew w) hB) (by exact hlr.up (belowDrew w)) (by first | omega | (simp only [BT.size]; omega)) (by first | omega | (simp only [BT.size]; omega))).mono ?_; rintro e w1 ⟨p1, _, rfl, ⟨ux, ul, ur, rfl, q1⟩, hp1, hb1⟩; replace hb1 := belowTrans (belowDrew w) hb1; have kx_1 := upc hb1 kx; have kr_1 := upc hb1 kr; have mx_1 := upc hb1 mx; have ml_1 := upc hb1 ml; have mr_1 := upc hb1 mr)
      | (go_at_call_of 95 (Value.pointer pll); refine (made_any B _ _ ll lx _ (.node ux ul ur) (by exact szle hb1 hB) (by exact hll.up hb1) (by exact hp1) (by first | omega | (simp only [BT.size]; omega))).mono ?_; rintro e w2 ⟨p2, _, rfl, rfl, hp2, hb2⟩; have kx_2 := upc hb2 kx_1; have kr_2 := upc hb2 kr_1; have mx_2 := upc hb2 mx_1; have ml_2 := upc hb2 ml_1; have mr_2 := upc hb2 mr_1)
      | (go_at_call_of 124 (Value.pointer p2); refine (left_any B _ _ ll lx ul ux ur (by exact szle (belowTrans hb1 hb2) hB) (by exact hp2) (by first | omega | (simp only [BT.size]; omega))).mono ?_; rintro e w3 ⟨p3, _, rfl, rfl, hp3, hb3⟩; have kx_3 := upc hb3 kx_2; have kr_3 := upc hb3 kr_2; have mx_3 := upc hb3 mx_2; have ml_3 := upc hb3 ml_2; have mr_3 := upc hb3 mr_2)
      | (go_at_call_of 95 (Value.pointer pr); refine (made_any B _ _ (.node ux (.node lx ll ul) ur) y _ r (by exact szle (belowTrans (belowTrans hb1 hb2) hb3) hB) (by exact hp3) (by exact hr.up (belowTrans (belowTrans hb1 hb2) hb3)) (by first | omega | (simp only [BT.size]; omega))).mono ?_; rintro e w4 ⟨p4, _, rfl, rfl, hp4, hb4⟩; have kx_4 := upc hb4 kx_3; have kr_4 := upc hb4 kr_3; have mx_4 := upc hb4 mx_3; have ml_4 := upc hb4 ml_3; have mr_4 := upc hb4 mr_3)
      | (go_at_call_of 123 (Value.pointer p4); refine (right_any B _ _ (.node lx ll ul) ux ur y r (by exact szle (belowTrans (belowTrans (belowTrans hb1 hb2) hb3) hb4) hB) (by exact hp4) (by first | omega | (simp only [BT.size]; omega))).mono ?_; rintro e w5 ⟨p5, _, rfl, rfl, hp5, hb5⟩; have kx_5 := upc hb5 kx_4; have kr_5 := upc hb5 kr_4; have mx_5 := upc hb5 mx_4; have ml_5 := upc hb5 ml_4; have mr_5 := upc hb5 mr_4))
  have hbel5 := (belowTrans (belowTrans (belowTrans (belowTrans hb1 hb2) hb3) hb4) hb5)
  go_wp2_with fail
  go_ret
  exact RetQ.mk ⟨_, _, _, rfl, by simp only [BT.size]; omega⟩ hp5 hbel5

set_option maxHeartbeats 4000000 in
theorem upLeft_3 (x : Int) (B : Nat) (w : World) (p : Option Addr) (ll : BT A) (lx : Int) (lr : BT A) (y : Int) (r : BT A) (hB : B ≤ w.heap.size) (h : In B w p (.node y (.node lx ll lr) r)) (hs : ll.size + lr.size + r.size ≤ 1152921504606845000)
    (h1 : ¬ (x < lx ∧ 0 < ll.size)) (h2 : ¬ (lx < x ∧ 0 < lr.size)) :
    Calls Try.prog 113 #[.pointer p, .int .i64 x] w (Ret B w (UpQ (.node y (.node lx ll lr) r))) := by
  obtain ⟨b, pl, pr, rfl, hbB, hb, hl, hr⟩ := id h
  obtain ⟨m, pll, plr, rfl, _, hm, hll, hlr⟩ := id hl
  have kl := cl hb
  have mx := c0 hm
  have ml := cl hm
  have mr := cr hm
  clear hb hm
  have hR := right_any B w (some ⟨b, 0, none⟩) ll lx lr y r hB h (by omega)
  have HR := Lib.hid hR
  clear hR
  rcases Int.lt_trichotomy x lx with hlt | heq | hgt
  · have hz : ll.size = 0 := by
      rcases Nat.eq_zero_or_pos ll.size with e | e
      · exact e
      · exact absurd ⟨hlt, e⟩ h1
    obtain rfl := ptr_of_zero hll hz
    clear h1 h2 hz
    go_enter Try.func113, Try.ntmps113
    go_wp2_with fail
    refine HR.out.mono ?_
    rintro e w1 ⟨p1, _, rfl, rfl, hp1, hb1⟩
    go_wp2_with fail
    go_ret
    exact RetQ.mk ⟨_, _, _, rfl, by simp only [BT.size]; omega⟩ hp1 hb1
  · subst heq
    clear h1 h2
    go_enter Try.func113, Try.ntmps113
    go_wp2_with fail
    refine HR.out.mono ?_
    rintro e w1 ⟨p1, _, rfl, rfl, hp1, hb1⟩
    go_wp2_with fail
    go_ret
    exact RetQ.mk ⟨_, _, _, rfl, by simp only [BT.size]; omega⟩ hp1 hb1
  · have hz : lr.size = 0 := by
      rcases Nat.eq_zero_or_pos lr.size with e | e
      · exact e
      · exact absurd ⟨hgt, e⟩ h2
    obtain rfl := ptr_of_zero hlr hz
    clear h1 h2 hz
    go_enter Try.func113, Try.ntmps113
    go_wp2_with fail
    refine HR.out.mono ?_
    rintro e w1 ⟨p1, _, rfl, rfl, hp1, hb1⟩
    go_wp2_with fail
    go_ret
    exact RetQ.mk ⟨_, _, _, rfl, by simp only [BT.size]; omega⟩ hp1 hb1
end Go.Proofs.Ytcjhbpnmkahkeaa.splay
