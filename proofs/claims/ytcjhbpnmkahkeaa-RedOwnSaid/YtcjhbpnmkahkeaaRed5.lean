/- The walks of package red, the fifth part: Has, Put. -/
import Derived.Test.YtcjhbpnmkahkeaaRedQ
import Derived.Deep.LoopGhost
namespace Go.Proofs.Ytcjhbpnmkahkeaa.red
open Go.RowKit

def RetHas (w : World) (n : Nat) (e : Ending) (w' : World) : Prop := ∃ b, e = .returned (.bool b) ∧ (b = true → 0 < n) ∧ Below w.heap.size w w'

set_option maxHeartbeats 2000000 in
theorem Has_any (B : Nat) (w : World) (p : Option Addr) (t : BT A) (x : Int) (h : In B w p t) :
    Calls Try.prog 96 #[.agg #[.pointer p], .int .i64 x] w (RetHas w t.size) := by
  obtain ⟨W, hW⟩ : ∃ W, W = (w.alloc (.cells #[.pointer p] 61)) := ⟨_, rfl⟩
  have hbel : Below w.heap.size w W := by rw [hW]; exact belowAlloc _ _
  have Hin := Lib.hid (h.up hbel)
  have Hbel := Lib.hid hbel
  have HW := Lib.hid hW
  clear hbel hW h
  go_enter Try.func96, Try.ntmps96
  go_wp2_with fail
  rw [← HW.out]
  go_loopg [5] t.size (fun k t5 wr => ∃ (q : Option Addr) (u : BT A), wr = W ∧ u.size = k ∧ u.size ≤ t.size ∧ t5 = .pointer q ∧ Hid (In B W q u))
  case atStart => exact ⟨p, t, rfl, rfl, Nat.le_refl _, rfl, Hin⟩
  case round =>
    obtain ⟨q, u, hwr, rfl, hus, rfl, Hq⟩ := hrel
    subst hwr
    cases u with
    | nil =>
      obtain rfl : q = none := Hq.out
      go_wp2_with fail
      go_ret
      exact ⟨false, rfl, fun h => (by cases h), Hbel.out⟩
    | node a l r =>
      obtain ⟨c, y⟩ := a
      obtain ⟨b, pl, pr, rfl, _, hb, hl, hr⟩ := Hq.out
      have k0 : wr.cell? ⟨b, 1, none⟩ = some (.int .i64 y) := c0 hb
      have kl := cl hb
      have kr := cr hb
      have Hl := Lib.hid hl
      have Hr := Lib.hid hr
      have m0 : 0 < t.size := by simp only [BT.size] at hus; omega
      have m1 : l.size < (BT.node (c, y) l r : BT A).size := by simp only [BT.size]; omega
      have m2 : r.size < (BT.node (c, y) l r : BT A).size := by simp only [BT.size]; omega
      have m3 : l.size ≤ t.size := by omega
      have m4 : r.size ≤ t.size := by omega
      clear hb hl hr
      rcases Int.lt_trichotomy x y with hlt | heq | hgt
      · have d1 : (y != x) = true := by simp; omega
        go_wp2_with fail
        go_roundg l.size
        case measure => exact m1
        case rel => exact ⟨pl, l, rfl, rfl, m3, rfl, Hl⟩
      · subst heq
        have d1 : (x != x) = false := by simp
        go_wp2_with fail
        go_ret
        exact ⟨true, rfl, fun _ => m0, Hbel.out⟩
      · have d1 : (y != x) = true := by simp; omega
        go_wp2_with fail
        go_roundg r.size
        case measure => exact m2
        case rel => exact ⟨pr, r, rfl, rfl, m4, rfl, Hr⟩

theorem copied {B k : Nat} {w w2 : World} {Q : BT A → Prop} {pl pr : Option Addr} {l r : BT A} {y m : Int} {c : Array Value} (hB : B ≤ w2.heap.size) (hm : m = ((BT.node (false, y) l r : BT A).size : Nat)) (hq : Q (.node (false, y) l r)) (hl : In B w2 pl l) (hr : In B w2 pr r) (hb : Below w.heap.size w w2)
    (hk : w2.heap[k]? = some (.cells c 61 (0, 0))) (hkw : w.heap.size ≤ k) (u : Value) :
    RetS B w Q (.returned (.agg #[.pointer (some ⟨w2.heap.size, 0, none⟩)])) ((w2.setCell ⟨k, 0, none⟩ u).alloc (.cells #[.bool false, .int .i64 y, .int .i64 m, .pointer pl, .pointer pr] 112)) := by
  subst hm
  have e : (w2.setCell ⟨k, 0, none⟩ u).heap.size = w2.heap.size := by simp [World.setCell]
  have hn := Holds.new (cs := cs) (ty := 112) (a := (false, y)) (w := w2.setCell ⟨k, 0, none⟩ u) (by rw [e]; exact hB) (hl.store (off := 0) (u := u) hk (by decide)) (hr.store (off := 0) (u := u) hk (by decide))
  rw [e] at hn
  have hb2 := belowSet (a := ⟨k, 0, none⟩) hb hkw u
  exact ⟨_, _, rfl, hq, hn, hb2.alloc (by rw [e]; exact hb.size) _⟩

set_option maxHeartbeats 4000000 in
theorem Put_any (B : Nat) (w : World) (p : Option Addr) (t : BT A) (x : Int) (hB : B ≤ w.heap.size) (h : In B w p t) (hn : t.size ≤ 1152921504606844000) :
    Calls Try.prog 73 #[.agg #[.pointer p], .int .i64 x] w (RetS B w (PutQ x t)) := by
  have h1 := belowTrans (belowAlloc w (.cells #[.pointer p] 61)) (belowAlloc _ (.cells #[.pointer none] 61))
  have hz := heapNew2 w (.cells #[.pointer p] 61) (.cells #[.pointer none] 61)
  have hz0 := heapNew1 w (.cells #[.pointer p] 61) (.cells #[.pointer none] 61)
  obtain ⟨W, hW⟩ : ∃ W, W = (w.alloc (.cells #[.pointer p] 61)).alloc (.cells #[.pointer none] 61) := ⟨_, rfl⟩
  rw [← hW] at h1 hz hz0
  have hB1 := szle h1 hB
  have hin := h.up h1
  have hH := Has_any B W p t x hin
  have kz := cell_of_one hz0
  have HZ := Lib.hid hz
  have HZ0 := Lib.hid hz0
  have HW := Lib.hid hW
  have H1 := Lib.hid h1
  have Hin := Lib.hid hin
  have HH := Lib.hid hH
  clear hW hz hz0 h h1 hH hin hB
  go_enter Try.func73, Try.ntmps73
  go_wp2_with fail
  rw [← HW.out]
  go_wp2_with fail
  refine HH.out.mono ?_
  rintro e w1 ⟨hs, rfl, hpos, hb1⟩
  have hk := upb hb1 HZ.out
  have kc := cell_of_one hk
  have fc := free_of_one hk
  have kz1 := cell_of_one (upb hb1 HZ0.out)
  have HK := Lib.hid hk
  have Hin1 := Lib.hid (Hin.out.up hb1)
  have Hb1 := Lib.hid (belowTrans H1.out hb1)
  have HP := Lib.hid hpos
  have hB2 := szle hb1 hB1
  clear hk hb1 hpos
  cases hs
  · have hput := put_any B x t w1 p hB2 Hin1.out hn
    have HPut := Lib.hid hput
    clear hput
    go_wp2_with fail
    refine HPut.out.mono ?_
    rintro e w2 ⟨p2, t2, rfl, hq2, hp2, hb2⟩
    cases t2 with
    | nil => simp [BT.size] at hq2
    | node a l r =>
      obtain ⟨c, y⟩ := a
      obtain ⟨b, pl, pr, rfl, hBb, hb, hl, hr⟩ := hp2
      have m0 : w2.cell? ⟨b, 0, none⟩ = some (.bool c) := cc hb
      have m1 : w2.cell? ⟨b, 1, none⟩ = some (.int .i64 y) := c0 hb
      have m2 := cn hb
      have m3 := cl hb
      have m4 := cr hb
      have hk2 := upb hb2 HK.out
      have kc2 := cell_of_one hk2
      have fc2 := free_of_one hk2
      have hne := block_ne hb hk2 (by decide)
      have hk2l : w.heap.size + 1 < w2.heap.size := (Array.getElem?_eq_some_iff.1 hk2).1
      clear hb
      go_wp2_with fail
      have kr := cell_of_one (upb (belowAlloc (w2.setCell ⟨w.heap.size + 1, 0, none⟩ (.pointer (some ⟨w2.heap.size, 0, none⟩))) (.cells #[.bool false, .int .i64 y, .int .i64 ((t.size : Int) + 1), .pointer pl, .pointer pr] 112)) (one_setCell (u := .pointer (some ⟨w2.heap.size, 0, none⟩)) hk2))
      refine bodyPost_ret (v := .agg #[.pointer (some ⟨w2.heap.size, 0, none⟩)]) (by simp only [results, Try.results73]; simp [go_sem, kr]) rfl ?_
      have hsz : (BT.node (c, y) l r : BT A).size = (BT.node (false, y) l r : BT A).size := rfl
      exact copied (szle hb2 hB2) (by omega) ⟨by omega, by simp only [BT.size]; omega⟩ hl hr (belowTrans Hb1.out hb2) hk2 (by omega) _
  · go_wp2_with fail
    exact bodyPost_ret (v := .agg #[.pointer p]) (by simp [results, Try.results73, go_sem, kc]) rfl (RetS.mk ⟨by omega, HP.out (by trivial)⟩ Hin1.out Hb1.out HK.out (by omega))
end Go.Proofs.Ytcjhbpnmkahkeaa.red
