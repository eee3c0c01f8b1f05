/- Package finger, many things (ival): At, Cut. (Printed by mm.py.) -/
import Derived.Test.YtnigadnjppeckaaManyI5
namespace Go.Proofs.Ytnigadnjppeckaa.manyI
open Go.RowKit

theorem vset {w : World} {b t : Nat} {u0 u1 u2 x0 x1 x2 : Value} (h : w.heap[b]? = some (.cells #[u0, u1, u2] t (0, 0))) : (((w.setCell ⟨b, 0, none⟩ x0).setCell ⟨b, 1, none⟩ x1).setCell ⟨b, 2, none⟩ x2).heap[b]? = some (.cells #[x0, x1, x2] t (0, 0)) := by
  have hb := (Array.getElem?_eq_some_iff.1 h).1
  simp [World.setCell, Array.getElem?_modify, h]
theorem belowSetV {w w1 : World} {k : Nat} (h : Below w.heap.size w w1) (hk : w.heap.size ≤ k) (u0 u1 u2 : Value) : Below w.heap.size w (((w1.setCell ⟨k, 0, none⟩ u0).setCell ⟨k, 1, none⟩ u1).setCell ⟨k, 2, none⟩ u2) := (((h.setCell (p := ⟨k, 0, none⟩) hk _).setCell (p := ⟨k, 1, none⟩) hk _).setCell (p := ⟨k, 2, none⟩) hk _)
theorem at_left {x : V} {l r : BT V} {j : Nat} (h : j < l.size) : (BT.node x l r).inorder[j]? = l.inorder[j]? := by
  rw [BT.inorder, List.getElem?_append_left (by rw [BT.length_inorder]; exact h)]
theorem at_mid {x : V} {l r : BT V} : (BT.node x l r).inorder[l.size]? = some x := by
  rw [BT.inorder, List.getElem?_append_right (by rw [BT.length_inorder]; exact Nat.le_refl _), BT.length_inorder, Nat.sub_self]
  rfl
theorem at_right {x : V} {l r : BT V} {j : Nat} (h : l.size < j) : (BT.node x l r).inorder[j]? = r.inorder[j - l.size - 1]? := by
  rw [BT.inorder, List.getElem?_append_right (by rw [BT.length_inorder]; omega), BT.length_inorder, show j - l.size = (j - l.size - 1) + 1 by omega, List.getElem?_cons_succ]
  rfl
def ARel (B : Nat) (w : World) (x : V) (j k : Nat) (pn : Option Addr) (wr : World) : Prop :=
  ∃ t1, In B wr pn t1 ∧ j < t1.size ∧ t1.size ≤ k ∧ t1.size ≤ 1152921504606820000 ∧ t1.inorder[j]? = some x ∧ Below w.heap.size w wr ∧ wr.heap[w.heap.size + 1]? = some (.cells #[.int .i64 0, .int .i64 0, .int .i64 0] 68 (0, 0))
set_option maxRecDepth 100000 in
set_option maxHeartbeats 4000000 in
theorem At_any (B : Nat) (w : World) (p : Option Addr) (t : BT V) (i : Nat) (v : V) (_hB : B ≤ w.heap.size) (h : In B w p t) (hi : t.inorder[i]? = some v) (hs : t.size ≤ 1152921504606820000) :
    Calls Try.prog 100 #[.agg #[.pointer p], .int .i64 i] w fun e w' => e = .returned (.agg #[.int .i64 (v).1, .int .i64 (v).2.1, .int .i64 (v).2.2]) ∧ Below w.heap.size w w' := by
  have hlt : i < t.size := by
    have h := (List.getElem?_eq_some_iff.1 hi).1
    rw [BT.length_inorder] at h
    exact h
  have hbb := belowTrans (belowAlloc w (.cells #[.pointer p] 60)) (belowAlloc _ (.cells #[.int .i64 0, .int .i64 0, .int .i64 0] 68))
  have HL : Hid (ARel B w v i t.size p ((w.alloc (.cells #[.pointer p] 60)).alloc (.cells #[.int .i64 0, .int .i64 0, .int .i64 0] 68))) := Lib.hid ⟨t, h.up hbb, hlt, Nat.le_refl _, hs, hi, hbb, heapNew2 _ _ _⟩
  have kp := upc (belowAlloc _ (.cells #[.int .i64 0, .int .i64 0, .int .i64 0] 68)) (cell_of_one (heap_alloc_new w (.cells #[.pointer p] 60)))
  clear hbb h hi
  go_enter Try.func100, Try.ntmps100
  go_wp2_with fail
  go_loopg [5, 1, 6] t.size (fun k nv iv _ wr => ∃ (j : Nat) (pn : Option Addr), nv = .pointer pn ∧ iv = .int .i64 (j : Nat) ∧ Hid (ARel B w v j k pn wr))
  case atStart => exact ⟨i, p, rfl, rfl, HL⟩
  case round =>
    obtain ⟨j, pn, rfl, rfl, HR⟩ := hrel
    obtain ⟨t1, hin, hj, hk, hts, hx, hw, hso⟩ := HR.out
    cases t1 with
    | nil => simp [BT.size] at hj
    | node x l r =>
      obtain ⟨b, pl, pr, rfl, _, hb, hl, hr⟩ := hin
      simp only [BT.size] at hj hk hts
      have kl := cl hb
      have kr := cr hb
      have kx0 := cv0 hb
      have kx1 := cv1 hb
      have kx2 := cv2 hb
      have ks0 := vc0 hso
      have fs0 : wr.frozen? ⟨w.heap.size + 1, 0, none⟩ = false := by simp [World.frozen?, hso]
      have ks1 := vc1 hso
      have fs1 : wr.frozen? ⟨w.heap.size + 1, 1, none⟩ = false := by simp [World.frozen?, hso]
      have ks2 := vc2 hso
      have fs2 : wr.frozen? ⟨w.heap.size + 1, 2, none⟩ = false := by simp [World.frozen?, hso]
      have HZ := Lib.hid (size_any hl)
      have Hl := Lib.hid hl
      have Hr := Lib.hid hr
      have Hso := Lib.hid hso
      have Hw := Lib.hid hw
      have Hx := Lib.hid hx
      clear HR hb hl hr hso hw hx HL
      go_wp2_with fail
      refine HZ.out.mono ?_
      rintro e w1 ⟨rfl, rfl⟩
      clear HZ
      by_cases h1 : j < l.size
      · have Hl2 := Lib.hid (at_left (x := x) (r := r) h1)
        have c1 : decide ((j : Int) < ((l.size : Nat) : Int)) = true := by simpa using h1
        go_wp2_with fail
        go_roundg (l.size)
        case measure => omega
        case rel => exact ⟨j, pl, rfl, rfl, Lib.hid ⟨l, Hl.out, h1, by omega, by omega, by rw [← Hl2.out]; exact Hx.out, Hw.out, Hso.out⟩⟩
      · have c1 : decide ((j : Int) < ((l.size : Nat) : Int)) = false := by simpa using h1
        by_cases h2 : l.size < j
        · have Hr2 := Lib.hid (at_right (x := x) (r := r) h2)
          have c2 : decide (((l.size : Nat) : Int) < (j : Int)) = true := by simpa using h2
          go_wp2_with fail
          go_roundg (r.size)
          case measure => omega
          case rel => exact ⟨j - l.size - 1, pr, rfl, by go_num, Lib.hid ⟨r, Hr.out, by omega, by omega, by omega, by rw [← Hr2.out]; exact Hx.out, Hw.out, Hso.out⟩⟩
        · obtain rfl : j = l.size := by omega
          have c2 : decide (((l.size : Nat) : Int) < ((l.size : Nat) : Int)) = false := by simp
          obtain rfl : x = v := by have h := Hx.out; rw [at_mid] at h; exact Option.some.inj h
          go_wp2_with fail
          have hz2 : (((wr.setCell ⟨w.heap.size + 1, 0, none⟩ (.int .i64 (x).1)).setCell ⟨w.heap.size + 1, 1, none⟩ (.int .i64 (x).2.1)).setCell ⟨w.heap.size + 1, 2, none⟩ (.int .i64 (x).2.2)).heap[w.heap.size + 1]? = some (.cells #[.int .i64 (x).1, .int .i64 (x).2.1, .int .i64 (x).2.2] 68 (0, 0)) := vset Hso.out
          have e0 := vc0 hz2
          have e1 := vc1 hz2
          have e2 := vc2 hz2
          exact bodyPost_ret (v := .agg #[.int .i64 (x).1, .int .i64 (x).2.1, .int .i64 (x).2.2]) (by simp [results, Try.results100, go_sem, e0, e1, e2]) rfl ⟨rfl, belowSetV Hw.out (Nat.le_succ _) (.int .i64 (x).1) (.int .i64 (x).2.1) (.int .i64 (x).2.2)⟩
end Go.Proofs.Ytnigadnjppeckaa.manyI
