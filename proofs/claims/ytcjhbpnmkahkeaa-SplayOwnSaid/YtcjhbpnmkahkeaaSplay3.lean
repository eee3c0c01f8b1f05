/- The walks of package splay, the third part: upRight, up, Put. -/
import Derived.Test.YtcjhbpnmkahkeaaSplay2
namespace Go.Proofs.Ytcjhbpnmkahkeaa.splay
open Go.RowKit

set_option maxHeartbeats 4000000 in
theorem upRight_1 (x : Int) (B : Nat) (w : World) (p : Option Addr) (l : BT A) (y : Int) (rl : BT A) (rx : Int) (rr : BT A) (ihr : UpOK x rr) (hB : B ≤ w.heap.size) (h : In B w p (.node y l (.node rx rl rr))) (hs : rl.size + rr.size + l.size ≤ 1152921504606845000)
    (hx : rx < x) (hp : 0 < rr.size) :
    Calls Try.prog 114 #[.pointer p, .int .i64 x] w (Ret B w (UpQ (.node y l (.node rx rl rr)))) := by
  obtain ⟨b, pl, pr, rfl, _, hb, hl, hr⟩ := h
  obtain ⟨m, prl, prr, rfl, _, hm, hrl, hrr⟩ := hr
  obtain ⟨arr, rfl⟩ := ptr_of_pos hrr hp
  have kx := c0 hb
  have kl := cl hb
  have kr := cr hb
  have mx := c0 hm
  have ml := cl hm
  have mr := cr hm
  clear hb hm
  go_enter Try.func114, Try.ntmps114
  go_wp2_with fail
  go_region_held3 (fun w' => w'.cell? ⟨b, 0, none⟩ = some (.int .i64 y) ∧ w'.cell? ⟨b, 2, none⟩ = some (.pointer pl) ∧ w'.cell? ⟨m, 0, none⟩ = some (.int .i64 rx) ∧ w'.cell? ⟨m, 2, none⟩ = some (.pointer prl) ∧ w'.cell? ⟨m, 3, none⟩ = some (.pointer (some arr))) (first | exact ⟨kx_5, kl_5, mx_5, ml_5, mr_5⟩ | exact ⟨kx_4, kl_4, mx_4, ml_4, mr_4⟩ | exact ⟨kx_3, kl_3, mx_3, ml_3, mr_3⟩ | exact ⟨kx_2, kl_2, mx_2, ml_2, mr_2⟩ | exact ⟨kx_1, kl_1, mx_1, ml_1, mr_1⟩ | exact ⟨kx, kl, mx, ml, mr⟩ | go_keep)
    (first
      | (go_at_call 94; refine (ihr B _ _ (by exact szle (belowDrew w) hB) (by exact hrr.up (belowDrew w)) (by first | omega | (simp only [BT.size]; omega)) (by first | omega | (simp only [BT.size]; omega))).mono ?_; rintro e w1 ⟨p1, _, rfl, ⟨ux, ul, ur, rfl, q1⟩, hp1, hb1⟩; replace hb1 := belowTrans (belowDrew w) hb1; have kx_1 := upc hb1 kx; have kl_1 := upc hb1 kl; have mx_1 := upc hb1 mx; have ml_1 := upc hb1 ml; have mr_1 := upc hb1 mr)
      | (go_at_call_of 95 (Value.pointer prl); refine (made_any B _ _ rl rx _ (.node ux ul ur) (by exact szle hb1 hB) (by exact hrl.up hb1) (by exact hp1) (by first | omega | (simp only [BT.size]; omega))).mono ?_; rintro e w2 ⟨p2, _, rfl, rfl, hp2, hb2⟩; have kx_2 := upc hb2 kx_1; have kl_2 := upc hb2 kl_1; have mx_2 := upc hb2 mx_1; have ml_2 := upc hb2 ml_1; have mr_2 := upc hb2 mr_1)
      | (go_at_call_of 95 (Value.pointer pl); refine (made_any B _ _ l y _ (.node rx rl (.node ux ul ur)) (by exact szle (belowTrans hb1 hb2) hB) (by exact hl.up (belowTrans hb1 hb2)) (by exact hp2) (by first | omega | (simp only [BT.size]; omega))).mono ?_; rintro e w3 ⟨p3, _, rfl, rfl, hp3, hb3⟩; have kx_3 := upc hb3 kx_2; have kl_3 := upc hb3 kl_2; have mx_3 := upc hb3 mx_2; have ml_3 := upc hb3 ml_2; have mr_3 := upc hb3 mr_2)
      | (go_at_call_of 124 (Value.pointer p3); refine (left_any B _ _ l y rl rx (.node ux ul ur) (by exact szle (belowTrans (belowTrans hb1 hb2) hb3) hB) (by exact hp3) (by first | omega | (simp only [BT.size]; omega))).mono ?_; rintro e w4 ⟨p4, _, rfl, rfl, hp4, hb4⟩; have kx_4 := upc hb4 kx_3; have kl_4 := upc hb4 kl_3; have mx_4 := upc hb4 mx_3; have ml_4 := upc hb4 ml_3; have mr_4 := upc hb4 mr_3)
      | (go_at_call_of 124 (Value.pointer p4); refine (left_any B _ _ (.node y l rl) rx ul ux ur (by exact szle (belowTrans (belowTrans (belowTrans hb1 hb2) hb3) hb4) hB) (by exact hp4) (by first | omega | (simp only [BT.size]; omega))).mono ?_; rintro e w5 ⟨p5, _, rfl, rfl, hp5, hb5⟩; have kx_5 := upc hb5 kx_4; have kl_5 := upc hb5 kl_4; have mx_5 := upc hb5 mx_4; have ml_5 := upc hb5 ml_4; have mr_5 := upc hb5 mr_4))
  have hbel5 := (belowTrans (belowTrans (belowTrans (belowTrans hb1 hb2) hb3) hb4) hb5)
  go_wp2_with fail
  go_ret
  exact RetQ.mk ⟨_, _, _, rfl, by simp only [BT.size]; omega⟩ hp5 hbel5

set_option maxHeartbeats 4000000 in
theorem upRight_2 (x : Int) (B : Nat) (w : World) (p : Option Addr) (l : BT A) (y : Int) (rl : BT A) (rx : Int) (rr : BT A) (ihl : UpOK x rl) (hB : B ≤ w.heap.size) (h : In B w p (.node y l (.node rx rl rr))) (hs : rl.size + rr.size + l.size ≤ 1152921504606845000)
    (hx : x < rx) (hp : 0 < rl.size) :
    Calls Try.prog 114 #[.pointer p, .int .i64 x] w (Ret B w (UpQ (.node y l (.node rx rl rr)))) := by
  obtain ⟨b, pl, pr, rfl, _, hb, hl, hr⟩ := h
  obtain ⟨m, prl, prr, rfl, _, hm, hrl, hrr⟩ := hr
  obtain ⟨arl, rfl⟩ := ptr_of_pos hrl hp
  have kx := c0 hb
  have kl := cl hb
  have kr := cr hb
  have mx := c0 hm
  have ml := cl hm
  have mr := cr hm
  clear hb hm
  go_enter Try.func114, Try.ntmps114
  go_wp2_with fail
  go_region_held3 (fun w' => w'.cell? ⟨b, 0, none⟩ = some (.int .i64 y) ∧ w'.cell? ⟨b, 2, none⟩ = some (.pointer pl) ∧ w'.cell? ⟨m, 0, none⟩ = some (.int .i64 rx) ∧ w'.cell? ⟨m, 2, none⟩ = some (.pointer (some arl)) ∧ w'.cell? ⟨m, 3, none⟩ = some (.pointer prr)) (first | exact ⟨kx_5, kl_5, mx_5, ml_5, mr_5⟩ | exact ⟨kx_4, kl_4, mx_4, ml_4, mr_4⟩ | exact ⟨kx_3, kl_3, mx_3, ml_3, mr_3⟩ | exact ⟨kx_2, kl_2, mx_2, ml_2, mr_2⟩ | exact ⟨kx_1, kl_1, mx_1, ml_1, mr_1⟩ | exact ⟨kx, kl, mx, ml, mr⟩ | go_keep)
    (first
      | (go_at_call 94; refine (ihl B _ _ (by exact szle (belowDrew w) hB) (by exact hrl.up (belowDrew w)) (by first | omega | (simp only [BT.size]; omega)) (by first | omega | (simp only [BT.size]; omega))).mono ?_; rintro e w1 ⟨p1, _, rfl, ⟨ux, ul, ur, rfl, q1⟩, hp1, hb1⟩; replace hb1 := belowTrans (belowDrew w) hb1; have kx_1 := upc hb1 kx; have kl_1 := upc hb1 kl; have mx_1 := upc hb1 mx; have ml_1 := upc hb1 ml; have mr_1 := upc hb1 mr)
      | (go_at_call_of 95 (Value.pointer prr); refine (made_any B _ _ (.node ux ul ur) rx _ rr (by exact szle hb1 hB) (by exact hp1) (by exact hrr.up hb1) (by first | omega | (simp only [BT.size]; omega))).mono ?_; rintro e w2 ⟨p2, _, rfl, rfl, hp2, hb2⟩; have kx_2 := upc hb2 kx_1; have kl_2 := upc hb2 kl_1; have mx_2 := upc hb2 mx_1; have ml_2 := upc hb2 ml_1; have mr_2 := upc hb2 mr_1)
      | (go_at_call_of 123 (Value.pointer p2); refine (right_any B _ _ ul ux ur rx rr (by exact szle (belowTrans hb1 hb2) hB) (by exact hp2) (by first | omega | (simp only [BT.size]; omega))).mono ?_; rintro e w3 ⟨p3, _, rfl, rfl, hp3, hb3⟩; have kx_3 := upc hb3 kx_2; have kl_3 := upc hb3 kl_2; have mx_3 := upc hb3 mx_2; have ml_3 := upc hb3 ml_2; have mr_3 := upc hb3 mr_2)
      | (go_at_call_of 95 (Value.pointer pl); refine (made_any B _ _ l y _ (.node ux ul (.node rx ur rr)) (by exact szle (belowTrans (belowTrans hb1 hb2) hb3) hB) (by exact hl.up (belowTrans (belowTrans hb1 hb2) hb3)) (by exact hp3) (by first | omega | (simp only [BT.size]; omega))).mono ?_; rintro e w4 ⟨p4, _, rfl, rfl, hp4, hb4⟩; have kx_4 := upc hb4 kx_3; have kl_4 := upc hb4 kl_3; have mx_4 := upc hb4 mx_3; have ml_4 := upc hb4 ml_3; have mr_4 := upc hb4 mr_3)
      | (go_at_call_of 124 (Value.pointer p4); refine (left_any B _ _ l y ul ux (.node rx ur rr) (by exact szle (belowTrans (belowTrans (belowTrans hb1 hb2) hb3) hb4) hB) (by exact hp4) (by first | omega | (simp only [BT.size]; omega))).mono ?_; rintro e w5 ⟨p5, _, rfl, rfl, hp5, hb5⟩; have kx_5 := upc hb5 kx_4; have kl_5 := upc hb5 kl_4; have mx_5 := upc hb5 mx_4; have ml_5 := upc hb5 ml_4; have mr_5 := upc hb5 mr_4))
  have hbel5 := (belowTrans (belowTrans (belowTrans (belowTrans hb1 hb2) hb3) hb4) hb5)
  go_wp2_with fail
  go_ret
  exact RetQ.mk ⟨_, _, _, rfl, by simp only [BT.size]; omega⟩ hp5 hbel5

set_option maxHeartbeats 4000000 in
theorem upRight_3 (x : Int) (B : Nat) (w : World) (p : Option Addr) (l : BT A) (y : Int) (rl : BT A) (rx : Int) (rr : BT A) (hB : B ≤ w.heap.size) (h : In B w p (.node y l (.node rx rl rr))) (hs : rl.size + rr.size + l.size ≤ 1152921504606845000)
    (h1 : ¬ (x < rx ∧ 0 < rl.size)) (h2 : ¬ (rx < x ∧ 0 < rr.size)) :
    Calls Try.prog 114 #[.pointer p, .int .i64 x] w (Ret B w (UpQ (.node y l (.node rx rl rr)))) := by
  obtain ⟨b, pl, pr, rfl, hbB, hb, hl, hr⟩ := id h
  obtain ⟨m, prl, prr, rfl, _, hm, hrl, hrr⟩ := id hr
  have kr := cr hb
  have mx := c0 hm
  have ml := cl hm
  have mr := cr hm
  clear hb hm
  have hR := left_any B w (some ⟨b, 0, none⟩) l y rl rx rr hB h (by omega)
  have HR := Lib.hid hR
  clear hR
  rcases Int.lt_trichotomy x rx with hlt | heq | hgt
  · have hz : rl.size = 0 := by
      rcases Nat.eq_zero_or_pos rl.size with e | e
      · exact e
      · exact absurd ⟨hlt, e⟩ h1
    obtain rfl := ptr_of_zero hrl hz
    clear h1 h2 hz
    go_enter Try.func114, Try.ntmps114
    go_wp2_with fail
    refine HR.out.mono ?_
    rintro e w1 ⟨p1, _, rfl, rfl, hp1, hb1⟩
    go_wp2_with fail
    go_ret
    exact RetQ.mk ⟨_, _, _, rfl, by simp only [BT.size]; omega⟩ hp1 hb1
  · subst heq
    clear h1 h2
    go_enter Try.func114, Try.ntmps114
    go_wp2_with fail
    refine HR.out.mono ?_
    rintro e w1 ⟨p1, _, rfl, rfl, hp1, hb1⟩
    go_wp2_with fail
    go_ret
    exact RetQ.mk ⟨_, _, _, rfl, by simp only [BT.size]; omega⟩ hp1 hb1
  · have hz : rr.size = 0 := by
      rcases Nat.eq_zero_or_pos rr.size with e | e
      · exact e
      · exact absurd ⟨hgt, e⟩ h2
    obtain rfl := ptr_of_zero hrr hz
    clear h1 h2 hz
    go_enter Try.func114, Try.ntmps114
    go_wp2_with fail
    refine HR.out.mono ?_
    rintro e w1 ⟨p1, _, rfl, rfl, hp1, hb1⟩
    go_wp2_with fail
    go_ret
    exact RetQ.mk ⟨_, _, _, rfl, by simp only [BT.size]; omega⟩ hp1 hb1

theorem upLeft_any (x : Int) (B : Nat) (w : World) (p : Option Addr) (l : BT A) (y : Int) (r : BT A) (ih : ∀ u : BT A, u.size < l.size → UpOK x u) (hB : B ≤ w.heap.size) (h : In B w p (.node y l r)) (hl : 0 < l.size) (hs : l.size + r.size ≤ 1152921504606845000) :
    Calls Try.prog 113 #[.pointer p, .int .i64 x] w (Ret B w (UpQ (.node y l r))) := by
  cases l with
  | nil => simp [BT.size] at hl
  | node lx ll lr =>
    simp only [BT.size] at hs
    by_cases h1 : x < lx ∧ 0 < ll.size
    · exact upLeft_1 x B w p ll lx lr y r (ih ll (by simp only [BT.size]; omega)) hB h (by omega) h1.1 h1.2
    · by_cases h2 : lx < x ∧ 0 < lr.size
      · exact upLeft_2 x B w p ll lx lr y r (ih lr (by simp only [BT.size]; omega)) hB h (by omega) h2.1 h2.2
      · exact upLeft_3 x B w p ll lx lr y r hB h (by omega) h1 h2
theorem upRight_any (x : Int) (B : Nat) (w : World) (p : Option Addr) (l : BT A) (y : Int) (r : BT A) (ih : ∀ u : BT A, u.size < r.size → UpOK x u) (hB : B ≤ w.heap.size) (h : In B w p (.node y l r)) (hr : 0 < r.size) (hs : l.size + r.size ≤ 1152921504606845000) :
    Calls Try.prog 114 #[.pointer p, .int .i64 x] w (Ret B w (UpQ (.node y l r))) := by
  cases r with
  | nil => simp [BT.size] at hr
  | node rx rl rr =>
    simp only [BT.size] at hs
    by_cases h1 : x < rx ∧ 0 < rl.size
    · exact upRight_2 x B w p l y rl rx rr (ih rl (by simp only [BT.size]; omega)) hB h (by omega) h1.1 h1.2
    · by_cases h2 : rx < x ∧ 0 < rr.size
      · exact upRight_1 x B w p l y rl rx rr (ih rr (by simp only [BT.size]; omega)) hB h (by omega) h2.1 h2.2
      · exact upRight_3 x B w p l y rl rx rr hB h (by omega) h1 h2

set_option maxHeartbeats 4000000 in
theorem up_step (x : Int) (y : Int) (l r : BT A) (ih : ∀ u : BT A, u.size < (BT.node y l r).size → UpOK x u) : UpOK x (.node y l r) := by
  intro B w p hB h hs _
  have hU := fun hl => upLeft_any x B w p l y r (fun u hu => ih u (by simp only [BT.size]; omega)) hB h hl (by simp only [BT.size] at hs; omega)
  have hV := fun hr => upRight_any x B w p l y r (fun u hu => ih u (by simp only [BT.size]; omega)) hB h hr (by simp only [BT.size] at hs; omega)
  obtain ⟨b, pl, pr, rfl, _, hb, hl, hr⟩ := id h
  have kx := c0 hb
  have kl := cl hb
  have kr := cr hb
  clear hb ih
  have same : Ret B w (UpQ (.node y l r)) (.returned (.pointer (some ⟨b, 0, none⟩))) w := RetQ.mk ⟨y, l, r, rfl, rfl⟩ h (Below.refl _ _)
  have HU := Lib.hid hU
  have HV := Lib.hid hV
  have Hs := Lib.hid same
  clear hU hV same
  rcases Int.lt_trichotomy x y with hlt | heq | hgt
  · rcases Nat.eq_zero_or_pos l.size with hz | hz
    · obtain rfl := ptr_of_zero hl hz
      clear hz
      go_enter Try.func94, Try.ntmps94
      go_wp2_with fail
      go_ret
      exact Hs.out
    · obtain ⟨al, rfl⟩ := ptr_of_pos hl hz
      go_enter Try.func94, Try.ntmps94
      go_wp2_with fail
      refine (HU.out hz).mono ?_
      rintro e w1 ⟨p1, t1, rfl, hq1, hp1, hb1⟩
      have HQ := Lib.hid hq1
      clear hq1
      go_wp2_with fail
      go_ret
      exact RetQ.mk HQ.out hp1 hb1
  · subst heq
    go_enter Try.func94, Try.ntmps94
    go_wp2_with fail
    go_ret
    exact Hs.out
  · rcases Nat.eq_zero_or_pos r.size with hz | hz
    · obtain rfl := ptr_of_zero hr hz
      clear hz
      go_enter Try.func94, Try.ntmps94
      go_wp2_with fail
      go_ret
      exact Hs.out
    · obtain ⟨ar, rfl⟩ := ptr_of_pos hr hz
      go_enter Try.func94, Try.ntmps94
      go_wp2_with fail
      refine (HV.out hz).mono ?_
      rintro e w1 ⟨p1, t1, rfl, hq1, hp1, hb1⟩
      have HQ := Lib.hid hq1
      clear hq1
      go_wp2_with fail
      go_ret
      exact RetQ.mk HQ.out hp1 hb1

theorem up_any (x : Int) (n : Nat) : ∀ t : BT A, t.size < n → UpOK x t := by
  induction n with
  | zero => intro t h; omega
  | succ n ih =>
    intro t h
    cases t with
    | nil => intro B w p _ _ _ h0; simp [BT.size] at h0
    | node y l r => exact up_step x y l r fun u hu => ih u (by omega)

set_option maxHeartbeats 400000 in
theorem up_nil (x : Int) (w : World) : Calls Try.prog 94 #[.pointer none, .int .i64 x] w fun e w' => e = .returned (.pointer none) ∧ w = w' := by
  go_enter Try.func94, Try.ntmps94
  go_wp2_with fail
  go_ret
  exact ⟨rfl, rfl⟩
end Go.Proofs.Ytcjhbpnmkahkeaa.splay
