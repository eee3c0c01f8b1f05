/- The walks of package red, the fourth part: even whole, put. -/
import Derived.Test.YtcjhbpnmkahkeaaRed3
namespace Go.Proofs.Ytcjhbpnmkahkeaa.red
open Go.RowKit

/-- where neither red child of a red left side is red, or the left side is black: by what stands on the right -/
theorem even_right0 (B : Nat) (w : World) (pl : Option Addr) (l : BT A) (x : Int) (pr : Option Addr) (r : BT A) (hB : B ≤ w.heap.size) (hl : In B w pl l) (hr : In B w pr r) (vl : isR l = false) (hs : l.size + r.size ≤ 1152921504606845000) :
    Calls Try.prog 116 #[.pointer pl, .int .i64 x, .pointer pr] w (Ret B w fun t => t.size = 1 + l.size + r.size) := by
  cases vr : isR r with
  | false => exact even_00 B w pl l x pr r hB hl vl hr vr hs
  | true =>
    cases r with
    | nil => cases vr
    | node a rl rr =>
      obtain ⟨c, rx⟩ := a
      obtain rfl : c = true := vr
      obtain ⟨br, prl, prr, rfl, _, gr, hrl, hrr⟩ := id hr
      simp only [BT.size] at hs
      cases vrl : isR rl with
      | true =>
        cases rl with
        | nil => cases vrl
        | node a ml mr =>
          obtain ⟨c, mx⟩ := a
          obtain rfl : c = true := vrl
          obtain ⟨m, pml, pmr, rfl, _, gm, hml, hmr⟩ := id hrl
          simp only [BT.size] at hs
          exact even_0rl B w pl l x br m prr pml pmr ml mx mr rx rr hB hl vl gr hr hrl hrr gm hml hmr (by omega)
      | false =>
        cases vrr : isR rr with
        | true =>
          cases rr with
          | nil => cases vrr
          | node a ml mr =>
            obtain ⟨c, mx⟩ := a
            obtain rfl : c = true := vrr
            obtain ⟨m, pml, pmr, rfl, _, gm, hml, hmr⟩ := id hrr
            simp only [BT.size] at hs
            exact even_0rr B w pl l x br m prl pml pmr rl rx ml mx mr hB hl vl gr hr hrl hrr vrl gm hml hmr (by omega)
        | false => exact even_01 B w pl l x br prl prr rl rx rr hB hl vl gr hr hrl hrr vrl vrr (by omega)

theorem even_right1 (B : Nat) (w : World) (bl : Nat) (pll plr : Option Addr) (ll : BT A) (lx : Int) (lr : BT A) (x : Int) (pr : Option Addr) (r : BT A) (hB : B ≤ w.heap.size)
    (gl : w.heap[bl]? = some (.cells (cs (true, lx) ll lr ++ [Value.pointer pll, Value.pointer plr]).toArray 112 (0, 0))) (hl : In B w (some ⟨bl, 0, none⟩) (.node (true, lx) ll lr)) (hll : In B w pll ll) (hlr : In B w plr lr) (hr : In B w pr r) (vll : isR ll = false) (vlr : isR lr = false) (hs : (1 + ll.size + lr.size) + r.size ≤ 1152921504606845000) :
    Calls Try.prog 116 #[.pointer (some ⟨bl, 0, none⟩), .int .i64 x, .pointer pr] w (Ret B w fun t => t.size = 1 + (1 + ll.size + lr.size) + r.size) := by
  cases vr : isR r with
  | false => exact even_10 B w bl pll plr ll lx lr x pr r hB gl hl hll hlr hr vr vll vlr hs
  | true =>
    cases r with
    | nil => cases vr
    | node a rl rr =>
      obtain ⟨c, rx⟩ := a
      obtain rfl : c = true := vr
      obtain ⟨br, prl, prr, rfl, _, gr, hrl, hrr⟩ := id hr
      simp only [BT.size] at hs
      cases vrl : isR rl with
      | true =>
        cases rl with
        | nil => cases vrl
        | node a ml mr =>
          obtain ⟨c, mx⟩ := a
          obtain rfl : c = true := vrl
          obtain ⟨m, pml, pmr, rfl, _, gm, hml, hmr⟩ := id hrl
          simp only [BT.size] at hs
          exact even_1rl B w bl pll plr ll lx lr x br m prr pml pmr ml mx mr rx rr hB gl hl hll hlr gr hr hrl hrr vll vlr gm hml hmr (by omega)
      | false =>
        cases vrr : isR rr with
        | true =>
          cases rr with
          | nil => cases vrr
          | node a ml mr =>
            obtain ⟨c, mx⟩ := a
            obtain rfl : c = true := vrr
            obtain ⟨m, pml, pmr, rfl, _, gm, hml, hmr⟩ := id hrr
            simp only [BT.size] at hs
            exact even_1rr B w bl pll plr ll lx lr x br m prl pml pmr rl rx ml mx mr hB gl hl hll hlr gr hr hrl hrr vll vlr vrl gm hml hmr (by omega)
        | false => exact even_11 B w bl pll plr ll lx lr x br prl prr rl rx rr hB gl hl hll hlr gr hr hrl hrr vll vlr vrl vrr (by omega)

theorem even_any (B : Nat) (w : World) (pl : Option Addr) (l : BT A) (x : Int) (pr : Option Addr) (r : BT A) (hB : B ≤ w.heap.size) (hl : In B w pl l) (hr : In B w pr r) (hs : l.size + r.size ≤ 1152921504606845000) :
    Calls Try.prog 116 #[.pointer pl, .int .i64 x, .pointer pr] w (Ret B w fun t => t.size = 1 + l.size + r.size) := by
  cases vl : isR l with
  | false => exact even_right0 B w pl l x pr r hB hl hr vl hs
  | true =>
    cases l with
    | nil => cases vl
    | node a ll lr =>
      obtain ⟨c, lx⟩ := a
      obtain rfl : c = true := vl
      obtain ⟨bl, pll, plr, rfl, _, gl, hll, hlr⟩ := id hl
      simp only [BT.size] at hs
      cases vll : isR ll with
      | true =>
        cases ll with
        | nil => cases vll
        | node a ml mr =>
          obtain ⟨c, mx⟩ := a
          obtain rfl : c = true := vll
          obtain ⟨m, pml, pmr, rfl, _, gm, hml, hmr⟩ := id hll
          simp only [BT.size] at hs
          exact even_ll B w bl m plr pml pmr ml mx mr lx lr x pr r hB gl hl hll hlr hr gm hml hmr (by omega)
      | false =>
        cases vlr : isR lr with
        | true =>
          cases lr with
          | nil => cases vlr
          | node a ml mr =>
            obtain ⟨c, mx⟩ := a
            obtain rfl : c = true := vlr
            obtain ⟨m, pml, pmr, rfl, _, gm, hml, hmr⟩ := id hlr
            simp only [BT.size] at hs
            exact even_lr B w bl m pll pml pmr ll lx ml mx mr x pr r hB gl hl hll hlr hr vll gm hml hmr (by omega)
        | false => exact even_right1 B w bl pll plr ll lx lr x pr r hB gl hl hll hlr hr vll vlr (by omega)

set_option maxHeartbeats 2000000 in
theorem put_any (B : Nat) (x : Int) (t : BT A) : ∀ (w : World) (p : Option Addr), B ≤ w.heap.size → In B w p t → t.size ≤ 1152921504606844000 →
    Calls Try.prog 97 #[.pointer p, .int .i64 x] w (Ret B w fun t' => t'.size = t.size + 1) := by
  induction t with
  | nil =>
    intro w p hB h _
    obtain rfl : p = none := h
    go_enter Try.func97, Try.ntmps97
    go_wp2_with fail
    refine (made_any B w true none .nil x none .nil hB rfl rfl (by simp [BT.size])).mono ?_
    rintro e w1 ⟨p1, _, rfl, rfl, hp1, hb1⟩
    go_wp2_with fail
    go_ret
    exact RetQ.mk (by simp [BT.size]) hp1 hb1
  | node a l r ihl ihr =>
    intro w p hB h hn
    obtain ⟨c, y⟩ := a
    obtain ⟨b, pl, pr, rfl, hBb, hb, hl, hr⟩ := id h
    simp only [BT.size] at hn
    have kc : w.cell? ⟨b, 0, none⟩ = some (.bool c) := cc hb
    have k0 : w.cell? ⟨b, 1, none⟩ = some (.int .i64 y) := c0 hb
    have kl := cl hb
    have kr := cr hb
    clear hb hBb
    by_cases hlt : x < y
    · have hI := fun n => ihl (w.drewN n) pl hB (hl.up (belowDrewN _ _)) (by omega)
      have HI := Lib.hid hI
      clear hI ihl ihr
      go_enter Try.func97, Try.ntmps97
      go_wp2_with fail
      go_quiet (fail)
      go_wp2_with fail
      refine (HI.out _).mono ?_
      rintro e w1 ⟨p1, t1, rfl, hq1, hp1, hb1⟩
      replace hb1 := belowTrans (belowDrewN w _) hb1
      have kc1 := upc hb1 kc
      have k01 := upc hb1 k0
      have hB1 := szle hb1 hB
      have hr1 := hr.up hb1
      clear kc k0 kl kr
      cases c
      · go_wp2_with fail
        refine (even_any B w1 p1 t1 y pr r hB1 hp1 hr1 (by omega)).mono ?_
        rintro e w2 ⟨p2, t2, rfl, hq2, hp2, hb2⟩
        go_wp2_with fail
        go_ret
        exact RetQ.mk (by simp only [BT.size]; omega) hp2 (belowTrans hb1 hb2)
      · go_wp2_with fail
        refine (made_any B w1 true p1 t1 y pr r hB1 hp1 hr1 (by omega)).mono ?_
        rintro e w2 ⟨p2, _, rfl, rfl, hp2, hb2⟩
        go_wp2_with fail
        go_ret
        exact RetQ.mk (by simp only [BT.size]; omega) hp2 (belowTrans hb1 hb2)
    · have hI := fun n => ihr (w.drewN n) pr hB (hr.up (belowDrewN _ _)) (by omega)
      have HI := Lib.hid hI
      clear hI ihl ihr
      go_enter Try.func97, Try.ntmps97
      go_wp2_with fail
      go_quiet (fail)
      go_wp2_with fail
      refine (HI.out _).mono ?_
      rintro e w1 ⟨p1, t1, rfl, hq1, hp1, hb1⟩
      replace hb1 := belowTrans (belowDrewN w _) hb1
      have kc1 := upc hb1 kc
      have k01 := upc hb1 k0
      have hB1 := szle hb1 hB
      have hl1 := hl.up hb1
      clear kc k0 kl kr
      cases c
      · go_wp2_with fail
        refine (even_any B w1 pl l y p1 t1 hB1 hl1 hp1 (by omega)).mono ?_
        rintro e w2 ⟨p2, t2, rfl, hq2, hp2, hb2⟩
        go_wp2_with fail
        go_ret
        exact RetQ.mk (by simp only [BT.size]; omega) hp2 (belowTrans hb1 hb2)
      · go_wp2_with fail
        refine (made_any B w1 true pl l y p1 t1 hB1 hl1 hp1 (by omega)).mono ?_
        rintro e w2 ⟨p2, _, rfl, rfl, hp2, hb2⟩
        go_wp2_with fail
        go_ret
        exact RetQ.mk (by simp only [BT.size]; omega) hp2 (belowTrans hb1 hb2)
end Go.Proofs.Ytcjhbpnmkahkeaa.red
