/- The walks of package wbt, the second part: even, link, split, Put. -/
import Derived.Test.YtcjhbpnmkahkeaaWbt
import Derived.Test.YtcjhbpnmkahkeaaWbtQ
namespace Go.Proofs.Ytcjhbpnmkahkeaa.wbt
open Go.RowKit

theorem turnLeft_any (B : Nat) (w : World) (pl : Option Addr) (l : BT A) (x : Int) (p : Option Addr) (r : BT A) (hB : B ≤ w.heap.size) (hl : In B w pl l) (h : In B w p r) (hs : l.size + r.size ≤ 1152921504606845000) (hv : hvy r l = true) :
    Calls Try.prog 128 #[.pointer pl, .int .i64 x, .pointer p] w (Ret B w fun t => t.size = 1 + l.size + r.size) := by
  have h3 := hvy_pos hv
  cases r with
  | nil => simp [BT.size] at h3
  | node y rl rr =>
    simp only [BT.size] at hs
    by_cases hc : rl.size + 1 < 2 * (rr.size + 1)
    · refine (turnLeft_1 B w pl l x p rl y rr hB hl h (by omega) hc).mono ?_
      intro e w' h
      exact h.imp fun t ht => by simp only [BT.size]; omega
    · cases rl with
      | nil => simp [BT.size] at hc; omega
      | node mx ml mr =>
        simp only [BT.size] at hs hc
        refine (turnLeft_2 B w pl l x p ml mx mr y rr hB hl h (by omega) (by omega)).mono ?_
        intro e w' h
        exact h.imp fun t ht => by simp only [BT.size]; omega

theorem turnRight_any (B : Nat) (w : World) (p : Option Addr) (l : BT A) (x : Int) (pr : Option Addr) (r : BT A) (hB : B ≤ w.heap.size) (h : In B w p l) (hr : In B w pr r) (hs : l.size + r.size ≤ 1152921504606845000) (hv : hvy l r = true) :
    Calls Try.prog 129 #[.pointer p, .int .i64 x, .pointer pr] w (Ret B w fun t => t.size = 1 + l.size + r.size) := by
  have h3 := hvy_pos hv
  cases l with
  | nil => simp [BT.size] at h3
  | node y ll lr =>
    simp only [BT.size] at hs
    by_cases hc : lr.size + 1 < 2 * (ll.size + 1)
    · refine (turnRight_1 B w pr r x p ll y lr hB hr h (by omega) hc).mono ?_
      intro e w' h
      exact h.imp fun t ht => by simp only [BT.size]; omega
    · cases lr with
      | nil => simp [BT.size] at hc; omega
      | node mx ml mr =>
        simp only [BT.size] at hs hc
        refine (turnRight_2 B w pr r x p ml mx mr y ll hB hr h (by omega) (by omega)).mono ?_
        intro e w' h
        exact h.imp fun t ht => by simp only [BT.size]; omega

set_option maxHeartbeats 1000000 in
theorem even_any (B : Nat) (w : World) (pl : Option Addr) (l : BT A) (x : Int) (pr : Option Addr) (r : BT A) (hB : B ≤ w.heap.size) (hl : In B w pl l) (hr : In B w pr r) (hs : l.size + r.size ≤ 1152921504606845000) :
    Calls Try.prog 118 #[.pointer pl, .int .i64 x, .pointer pr] w (Ret B w fun t => t.size = 1 + l.size + r.size) := by
  have h1 := heavy_any hr hl (by omega) (by omega)
  have h2 := heavy_any hl hr (by omega) (by omega)
  have hL := turnLeft_any B w pl l x pr r hB hl hr hs
  have hR := turnRight_any B w pl l x pr r hB hl hr hs
  have hM := made_any B w pl l x pr r hB hl hr (by omega)
  generalize hv1 : hvy r l = v1 at *
  generalize hv2 : hvy l r = v2 at *
  have HL := Lib.hid hL
  have HR := Lib.hid hR
  clear hv1 hv2 hL hR
  cases v1
  · cases v2
    · go_enter Try.func118, Try.ntmps118
      go_wp2_with fail
      refine h1.mono ?_; rintro e w' ⟨rfl, rfl⟩
      go_wp2_with fail
      refine h2.mono ?_; rintro e w' ⟨rfl, rfl⟩
      go_wp2_with fail
      refine hM.mono ?_
      rintro e w1 ⟨p1, _, rfl, rfl, hp1, hb1⟩
      go_wp2_with fail
      go_ret
      exact RetQ.mk rfl hp1 hb1
    · go_enter Try.func118, Try.ntmps118
      go_wp2_with fail
      refine h1.mono ?_; rintro e w' ⟨rfl, rfl⟩
      go_wp2_with fail
      refine h2.mono ?_; rintro e w' ⟨rfl, rfl⟩
      go_wp2_with fail
      refine (HR.out (by trivial)).mono ?_
      rintro e w1 ⟨p1, t1, rfl, hq, hp1, hb1⟩
      go_wp2_with fail
      go_ret
      exact RetQ.mk (by omega) hp1 hb1
  · go_enter Try.func118, Try.ntmps118
    go_wp2_with fail
    refine h1.mono ?_; rintro e w' ⟨rfl, rfl⟩
    go_wp2_with fail
    refine (HL.out (by trivial)).mono ?_
    rintro e w1 ⟨p1, t1, rfl, hq, hp1, hb1⟩
    go_wp2_with fail
    go_ret
    exact RetQ.mk (by omega) hp1 hb1

set_option maxHeartbeats 2000000 in
theorem link_up (n : Nat) : ∀ (B : Nat) (w : World) (pl : Option Addr) (l : BT A) (x : Int) (pr : Option Addr) (r : BT A), l.size + r.size < n → B ≤ w.heap.size → In B w pl l → In B w pr r → l.size + r.size ≤ 1152921504606845000 →
    Calls Try.prog 99 #[.pointer pl, .int .i64 x, .pointer pr] w (Ret B w fun t => t.size = 1 + l.size + r.size) := by
  induction n with
  | zero => intro B w pl l x pr r h; omega
  | succ n ih =>
    intro B w pl l x pr r hn hB hl hr hs
    have h1 := heavy_any hr hl (by omega) (by omega)
    have h2 := heavy_any hl hr (by omega) (by omega)
    have hM := made_any B w pl l x pr r hB hl hr (by omega)
    have p1 := @hvy_pos r l
    have p2 := @hvy_pos l r
    generalize hv1 : hvy r l = v1 at *
    generalize hv2 : hvy l r = v2 at *
    clear hv1 hv2
    cases v1
    · cases v2
      · clear p1 p2 ih
        go_enter Try.func99, Try.ntmps99
        go_wp2_with fail
        refine h1.mono ?_; rintro e w' ⟨rfl, rfl⟩
        go_wp2_with fail
        refine h2.mono ?_; rintro e w' ⟨rfl, rfl⟩
        go_wp2_with fail
        refine hM.mono ?_
        rintro e w1 ⟨p1, _, rfl, rfl, hp1, hb1⟩
        go_wp2_with fail
        go_ret
        exact RetQ.mk rfl hp1 hb1
      · have p3 := p2 rfl
        cases l with
        | nil => simp [BT.size] at p3
        | node y ll lr =>
          obtain ⟨b, pll, plr, rfl, _, hb, hll, hlr⟩ := hl
          have k0 : w.cell? ⟨b, 0, none⟩ = some (.int .i64 y) := c0 hb
          have kl := cl hb
          have kr := cr hb
          simp only [BT.size] at hn hs
          have hI := fun w hB hlr hr => ih B w plr lr x pr r (by omega) hB hlr hr (by omega)
          have HI := Lib.hid hI
          clear p1 p2 p3 ih hI hb hM
          go_enter Try.func99, Try.ntmps99
          go_wp2_with fail
          refine h1.mono ?_; rintro e w' ⟨rfl, rfl⟩
          go_wp2_with fail
          refine h2.mono ?_; rintro e w' ⟨rfl, rfl⟩
          go_wp2_with fail
          go_region_held3 (fun w' => w'.cell? ⟨b, 0, none⟩ = some (.int .i64 y) ∧ w'.cell? ⟨b, 2, none⟩ = some (.pointer pll) ∧ w'.cell? ⟨b, 3, none⟩ = some (.pointer plr)) (first | exact ⟨k0_2, kl_2, kr_2⟩ | exact ⟨k0_1, kl_1, kr_1⟩ | exact ⟨k0, kl, kr⟩ | go_keep)
            (first
              | (go_at_call 99; refine (HI.out _ (by exact szle (belowDrew w) hB) (by exact hlr.up (belowDrew w)) (by exact hr.up (belowDrew w))).mono ?_; rintro e w1 ⟨p1, t1, rfl, q1, hp1, hb1⟩; replace hb1 := belowTrans (belowDrew w) hb1; have k0_1 := upc hb1 k0; have kl_1 := upc hb1 kl; have kr_1 := upc hb1 kr)
              | (go_at_call 118; refine (even_any B _ _ ll y _ t1 (by exact szle hb1 hB) (by exact hll.up hb1) (by exact hp1) (by first | omega | (simp only [BT.size]; omega))).mono ?_; rintro e w2 ⟨p2, t2, rfl, q2, hp2, hb2⟩; have k0_2 := upc hb2 k0_1; have kl_2 := upc hb2 kl_1; have kr_2 := upc hb2 kr_1))
          have hbel2 := (belowTrans hb1 hb2)
          go_wp2_with fail
          go_ret
          exact RetQ.mk (by simp only [BT.size]; omega) hp2 hbel2
    · have p3 := p1 rfl
      cases r with
      | nil => simp [BT.size] at p3
      | node y rl rr =>
        obtain ⟨b, prl, prr, rfl, _, hb, hrl, hrr⟩ := hr
        have k0 : w.cell? ⟨b, 0, none⟩ = some (.int .i64 y) := c0 hb
        have kl := cl hb
        have kr := cr hb
        simp only [BT.size] at hn hs
        have hI := fun w hB hl hrl => ih B w pl l x prl rl (by omega) hB hl hrl (by omega)
        have HI := Lib.hid hI
        clear p1 p2 p3 ih hI hb hM
        go_enter Try.func99, Try.ntmps99
        go_wp2_with fail
        refine h1.mono ?_; rintro e w' ⟨rfl, rfl⟩
        go_wp2_with fail
        go_region_held3 (fun w' => w'.cell? ⟨b, 0, none⟩ = some (.int .i64 y) ∧ w'.cell? ⟨b, 2, none⟩ = some (.pointer prl) ∧ w'.cell? ⟨b, 3, none⟩ = some (.pointer prr)) (first | exact ⟨k0_2, kl_2, kr_2⟩ | exact ⟨k0_1, kl_1, kr_1⟩ | exact ⟨k0, kl, kr⟩ | go_keep)
          (first
            | (go_at_call 99; refine (HI.out _ (by exact szle (belowDrew w) hB) (by exact hl.up (belowDrew w)) (by exact hrl.up (belowDrew w))).mono ?_; rintro e w1 ⟨p1, t1, rfl, q1, hp1, hb1⟩; replace hb1 := belowTrans (belowDrew w) hb1; have k0_1 := upc hb1 k0; have kl_1 := upc hb1 kl; have kr_1 := upc hb1 kr)
            | (go_at_call 118; refine (even_any B _ _ t1 y _ rr (by exact szle hb1 hB) (by exact hp1) (by exact hrr.up hb1) (by first | omega | (simp only [BT.size]; omega))).mono ?_; rintro e w2 ⟨p2, t2, rfl, q2, hp2, hb2⟩; have k0_2 := upc hb2 k0_1; have kl_2 := upc hb2 kl_1; have kr_2 := upc hb2 kr_1))
        have hbel2 := (belowTrans hb1 hb2)
        go_wp2_with fail
        go_ret
        exact RetQ.mk (by simp only [BT.size]; omega) hp2 hbel2

theorem link_any (B : Nat) (w : World) (pl : Option Addr) (l : BT A) (x : Int) (pr : Option Addr) (r : BT A) (hB : B ≤ w.heap.size) (hl : In B w pl l) (hr : In B w pr r) (hs : l.size + r.size ≤ 1152921504606845000) :
    Calls Try.prog 99 #[.pointer pl, .int .i64 x, .pointer pr] w (Ret B w fun t => t.size = 1 + l.size + r.size) :=
  link_up _ B w pl l x pr r (Nat.lt_succ_self _) hB hl hr hs

def RetSp (B : Nat) (w : World) (n : Nat) (e : Ending) (w' : World) : Prop := ∃ pl l has pr r, e = .returned (.tuple #[.pointer pl, .bool has, .pointer pr]) ∧ l.size + r.size ≤ n ∧ In B w' pl l ∧ In B w' pr r ∧ Below w.heap.size w w'

set_option maxHeartbeats 4000000 in
theorem split_any (B : Nat) (x : Int) (t : BT A) : ∀ (w : World) (p : Option Addr), B ≤ w.heap.size → In B w p t → t.size ≤ 1152921504606844000 →
    Calls Try.prog 98 #[.pointer p, .int .i64 x] w (RetSp B w t.size) := by
  induction t with
  | nil =>
    intro w p hB h _
    obtain rfl : p = none := h
    go_enter Try.func98, Try.ntmps98
    go_wp2_with fail
    go_ret3
    exact ⟨none, .nil, false, none, .nil, rfl, by simp [BT.size], rfl, rfl, Below.refl _ _⟩
  | node y l r ihl ihr =>
    intro w p hB h hn
    obtain ⟨b, pl, pr, rfl, hBb, hb, hl, hr⟩ := id h
    simp only [BT.size] at hn
    have k0 : w.cell? ⟨b, 0, none⟩ = some (.int .i64 y) := c0 hb
    have kl := cl hb
    have kr := cr hb
    clear hb hBb h
    rcases Int.lt_trichotomy x y with hlt | heq | hgt
    · have hI := ihl w pl hB hl (by omega)
      have HI := Lib.hid hI
      clear hI ihl ihr
      go_enter Try.func98, Try.ntmps98
      go_wp2_with fail
      refine HI.out.mono ?_
      rintro e w1 ⟨p1, t1, has, p2, t2, rfl, hq, hp1, hp2, hb1⟩
      have hB0 := szle hb1 hB
      have m0 := upc hb1 k0
      have mr := upc hb1 kr
      have hr1 := hr.up hb1
      have hB := hB0
      clear k0 kl kr hB0 hr
      go_wp2_with fail
      go_region_held3 (fun w' => w'.cell? ⟨b, 0, none⟩ = some (.int .i64 y) ∧ w'.cell? ⟨b, 3, none⟩ = some (.pointer pr)) (first | exact ⟨m0_3, mr_3⟩ | exact ⟨m0, mr⟩ | go_keep)
        (first
          | (go_at_call 99; refine (link_any B _ _ t2 y _ r (by exact szle (belowDrew w1) hB) (by exact hp2.up (belowDrew w1)) (by exact hr1.up (belowDrew w1)) (by first | omega | (simp only [BT.size]; omega))).mono ?_; rintro e w3 ⟨p3, t3, rfl, q3, hp3, hb3⟩; replace hb3 := belowTrans (belowDrew w1) hb3; have m0_3 := upc hb3 m0; have mr_3 := upc hb3 mr))
      have hbel3 := hb3
      go_wp2_with fail
      go_ret3
      exact ⟨p1, t1, has, p3, _, rfl, by simp only [BT.size]; omega, hp1.up hbel3, hp3, belowTrans hb1 hbel3⟩
    · subst heq
      clear ihl ihr
      go_enter Try.func98, Try.ntmps98
      go_wp2_with fail
      go_quiet (fail)
      go_wp2_with fail
      go_ret3
      exact ⟨pl, l, true, pr, r, rfl, by simp only [BT.size]; omega, hl.up (belowDrewN _ _), hr.up (belowDrewN _ _), belowDrewN _ _⟩
    · have hI := ihr w pr hB hr (by omega)
      have HI := Lib.hid hI
      clear hI ihl ihr
      go_enter Try.func98, Try.ntmps98
      go_wp2_with fail
      refine HI.out.mono ?_
      rintro e w1 ⟨p1, t1, has, p2, t2, rfl, hq, hp1, hp2, hb1⟩
      have hB0 := szle hb1 hB
      have m0 := upc hb1 k0
      have ml := upc hb1 kl
      have hl1 := hl.up hb1
      have hB := hB0
      clear k0 kl kr hB0 hl
      go_wp2_with fail
      go_region_held3 (fun w' => w'.cell? ⟨b, 0, none⟩ = some (.int .i64 y) ∧ w'.cell? ⟨b, 2, none⟩ = some (.pointer pl)) (first | exact ⟨m0_3, ml_3⟩ | exact ⟨m0, ml⟩ | go_keep)
        (first
          | (go_at_call 99; refine (link_any B _ _ l y _ t1 (by exact szle (belowDrew w1) hB) (by exact hl1.up (belowDrew w1)) (by exact hp1.up (belowDrew w1)) (by first | omega | (simp only [BT.size]; omega))).mono ?_; rintro e w3 ⟨p3, t3, rfl, q3, hp3, hb3⟩; replace hb3 := belowTrans (belowDrew w1) hb3; have m0_3 := upc hb3 m0; have ml_3 := upc hb3 ml))
      have hbel3 := hb3
      go_wp2_with fail
      go_ret3
      exact ⟨p3, _, has, p2, t2, rfl, by simp only [BT.size]; omega, hp3, hp2.up hbel3, belowTrans hb1 hbel3⟩

set_option maxHeartbeats 4000000 in
theorem Put_any (B : Nat) (w : World) (p : Option Addr) (t : BT A) (x : Int) (hB : B ≤ w.heap.size) (h : In B w p t) (hn : t.size ≤ 1152921504606844000) :
    Calls Try.prog 76 #[.agg #[.pointer p], .int .i64 x] w (RetS B w (PutQ x t)) := by
  have h1 := belowTrans (belowAlloc w (.cells #[.pointer p] 65)) (belowAlloc _ (.cells #[.pointer none] 65))
  have hz := heapNew2 w (.cells #[.pointer p] 65) (.cells #[.pointer none] 65)
  obtain ⟨W, hW⟩ : ∃ W, W = (w.alloc (.cells #[.pointer p] 65)).alloc (.cells #[.pointer none] 65) := ⟨_, rfl⟩
  rw [← hW] at h1 hz
  have hB1 := szle h1 hB
  have hS := split_any B x t W p hB1 (h.up h1) hn
  have HZ := Lib.hid hz
  have HW := Lib.hid hW
  have H1 := Lib.hid h1
  have HS := Lib.hid hS
  clear hW hz h h1 hS
  go_enter Try.func76, Try.ntmps76
  go_wp2_with fail
  rw [← HW.out]
  refine HS.out.mono ?_
  rintro e w1 ⟨p1, t1, has, p2, t2, rfl, hq, hp1, hp2, hb1⟩
  have hL := link_any B w1 p1 t1 x p2 t2 (szle hb1 hB1) hp1 hp2 (by omega)
  have HL := Lib.hid hL
  clear hL
  go_wp2_with fail
  refine HL.out.mono ?_
  rintro e w2 ⟨p3, t3, rfl, hq3, hp3, hb2⟩
  have hk := upb (belowTrans hb1 hb2) HZ.out
  have kc := cell_of_one hk
  have fc := free_of_one hk
  have HR := Lib.hid (RetS.mk (Q := PutQ x t) ⟨by omega, by omega⟩ hp3 (belowTrans H1.out (belowTrans hb1 hb2)) hk (by omega))
  clear hk hp3 hb2 hb1 hp1 hp2 hq3
  go_wp2_with fail
  exact bodyPost_ret (v := .agg #[.pointer p3]) (by simp [results, Try.results76, go_sem, kc]) rfl HR.out
end Go.Proofs.Ytcjhbpnmkahkeaa.wbt
