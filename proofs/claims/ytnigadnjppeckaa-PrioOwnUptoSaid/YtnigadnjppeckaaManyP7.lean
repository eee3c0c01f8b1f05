/- Package finger, many things (prio): At, Cut. (Printed by mm.py.) -/
import Derived.Test.YtnigadnjppeckaaManyP5
namespace Go.Proofs.Ytnigadnjppeckaa.manyP
open Go.RowKit

theorem vset {w : World} {b t : Nat} {u0 u1 x0 x1 : Value} (h : w.heap[b]? = some (.cells #[u0, u1] t (0, 0))) : ((w.setCell ⟨b, 0, none⟩ x0).setCell ⟨b, 1, none⟩ x1).heap[b]? = some (.cells #[x0, x1] t (0, 0)) := by
  have hb := (Array.getElem?_eq_some_iff.1 h).1
  simp [World.setCell, Array.getElem?_modify, h]
theorem belowSetV {w w1 : World} {k : Nat} (h : Below w.heap.size w w1) (hk : w.heap.size ≤ k) (u0 u1 : Value) : Below w.heap.size w ((w1.setCell ⟨k, 0, none⟩ u0).setCell ⟨k, 1, none⟩ u1) := ((h.setCell (p := ⟨k, 0, none⟩) hk _).setCell (p := ⟨k, 1, none⟩) hk _)
theorem at_left {x : V} {l r : BT V} {j : Nat} (h : j < l.size) : (BT.node x l r).inorder[j]? = l.inorder[j]? := by
  rw [BT.inorder, List.getElem?_append_left (by rw [BT.length_inorder]; exact h)]
theorem at_mid {x : V} {l r : BT V} : (BT.node x l r).inorder[l.size]? = some x := by
  rw [BT.inorder, List.getElem?_append_right (by rw [BT.length_inorder]; exact Nat.le_refl _), BT.length_inorder, Nat.sub_self]
  rfl
theorem at_right {x : V} {l r : BT V} {j : Nat} (h : l.size < j) : (BT.node x l r).inorder[j]? = r.inorder[j - l.size - 1]? := by
  rw [BT.inorder, List.getElem?_append_right (by rw [BT.length_inorder]; omega), BT.length_inorder, show j - l.size = (j - l.size - 1) + 1 by omega, List.getElem?_cons_succ]
  rfl
def ARel (B : Nat) (w : World) (x : V) (j k : Nat) (pn : Option Addr) (wr : World) : Prop :=
  ∃ t1, In B wr pn t1 ∧ j < t1.size ∧ t1.size ≤ k ∧ t1.size ≤ 1152921504606820000 ∧ t1.inorder[j]? = some x ∧ Below w.heap.size w wr ∧ wr.heap[w.heap.size + 1]? = some (.cells #[.int .i64 0, .int .i64 0] 52 (0, 0))
set_option maxRecDepth 100000 in
set_option maxHeartbeats 4000000 in
theorem At_any (B : Nat) (w : World) (p : Option Addr) (t : BT V) (i : Nat) (v : V) (_hB : B ≤ w.heap.size) (h : In B w p t) (hi : t.inorder[i]? = some v) (hs : t.size ≤ 1152921504606820000) :
    Calls Try.prog 53 #[.agg #[.pointer p], .int .i64 i] w fun e w' => e = .returned (.agg #[.int .i64 (v).1, .int .i64 (v).2]) ∧ Below w.heap.size w w' := by
  have hlt : i < t.size := by
    have h := (List.getElem?_eq_some_iff.1 hi).1
    rw [BT.length_inorder] at h
    exact h
  have hbb := belowTrans (belowAlloc w (.cells #[.pointer p] 47)) (belowAlloc _ (.cells #[.int .i64 0, .int .i64 0] 52))
  have HL : Hid (ARel B w v i t.size p ((w.alloc (.cells #[.pointer p] 47)).alloc (.cells #[.int .i64 0, .int .i64 0] 52))) := Lib.hid ⟨t, h.up hbb, hlt, Nat.le_refl _, hs, hi, hbb, heapNew2 _ _ _⟩
  have kp := upc (belowAlloc _ (.cells #[.int .i64 0, .int .i64 0] 52)) (cell_of_one (heap_alloc_new w (.cells #[.pointer p] 47)))
  clear hbb h hi
  go_enter Try.func53, Try.ntmps53
  go_wp2_with fail
  go_loopg [5, 1, 6] t.size (fun k nv iv _ wr => ∃ (j : Nat) (pn : Option Addr), nv = .pointer pn ∧ iv = .int .i64 (j : Nat) ∧ Hid (ARel B w v j k pn wr))
  case atStart => exact ⟨i, p, rfl, rfl, HL⟩
  case round =>
    obtain ⟨j, pn, rfl, rfl, HR⟩ := hrel
    obtain ⟨t1, hin, hj, hk, hts, hx, hw, hso⟩ := HR.out
    cases t1 with
    | nil => simp [BT.size] at hj
    | node x l r =>
      obtain ⟨b, pl, pr, rfl, _, hb, hl, hr⟩ := hin
      simp only [BT.size] at hj hk hts
      have kl := cl hb
      have kr := cr hb
      have kx0 := cv0 hb
      have kx1 := cv1 hb
      have ks0 := vc0 hso
      have fs0 : wr.frozen? ⟨w.heap.size + 1, 0, none⟩ = false := by simp [World.frozen?, hso]
      have ks1 := vc1 hso
      have fs1 : wr.frozen? ⟨w.heap.size + 1, 1, none⟩ = false := by simp [World.frozen?, hso]
      have HZ := Lib.hid (size_any hl)
      have Hl := Lib.hid hl
      have Hr := Lib.hid hr
      have Hso := Lib.hid hso
      have Hw := Lib.hid hw
      have Hx := Lib.hid hx
      clear HR hb hl hr hso hw hx HL
      go_wp2_with fail
      refine HZ.out.mono ?_
      rintro e w1 ⟨rfl, rfl⟩
      clear HZ
      by_cases h1 : j < l.size
      · have Hl2 := Lib.hid (at_left (x := x) (r := r) h1)
        have c1 : decide ((j : Int) < ((l.size : Nat) : Int)) = true := by simpa using h1
        go_wp2_with fail
        go_roundg (l.size)
        case measure => omega
        case rel => exact ⟨j, pl, rfl, rfl, Lib.hid ⟨l, Hl.out, h1, by omega, by omega, by rw [← Hl2.out]; exact Hx.out, Hw.out, Hso.out⟩⟩
      · have c1 : decide ((j : Int) < ((l.size : Nat) : Int)) = false := by simpa using h1
        by_cases h2 : l.size < j
        · have Hr2 := Lib.hid (at_right (x := x) (r := r) h2)
          have c2 : decide (((l.size : Nat) : Int) < (j : Int)) = true := by simpa using h2
          go_wp2_with fail
          go_roundg (r.size)
          case measure => omega
          case rel => exact ⟨j - l.size - 1, pr, rfl, by go_num, Lib.hid ⟨r, Hr.out, by omega, by omega, by omega, by rw [← Hr2.out]; exact Hx.out, Hw.out, Hso.out⟩⟩
        · obtain rfl : j = l.size := by omega
          have c2 : decide (((l.size : Nat) : Int) < ((l.size : Nat) : Int)) = false := by simp
          obtain rfl : x = v := by have h := Hx.out; rw [at_mid] at h; exact Option.some.inj h
          go_wp2_with fail
          have hz2 : ((wr.setCell ⟨w.heap.size + 1, 0, none⟩ (.int .i64 (x).1)).setCell ⟨w.heap.size + 1, 1, none⟩ (.int .i64 (x).2)).heap[w.heap.size + 1]? = some (.cells #[.int .i64 (x).1, .int .i64 (x).2] 52 (0, 0)) := vset Hso.out
          have e0 := vc0 hz2
          have e1 := vc1 hz2
          exact bodyPost_ret (v := .agg #[.int .i64 (x).1, .int .i64 (x).2]) (by simp [results, Try.results53, go_sem, e0, e1]) rfl ⟨rfl, belowSetV Hw.out (Nat.le_succ _) (.int .i64 (x).1) (.int .i64 (x).2)⟩

set_option maxRecDepth 100000 in
set_option maxHeartbeats 4000000 in
theorem Cut_any (B : Nat) (w : World) (p : Option Addr) (t : BT V) (i j : Nat) (hB : B ≤ w.heap.size) (h : In B w p t) (hij : i ≤ j) (hj : j ≤ t.size) (hs : t.size ≤ 1152921504606810000) :
    Calls Try.prog 54 #[.agg #[.pointer p], .int .i64 i, .int .i64 j] w (RetM B w (Is (t.inorder.take i ++ t.inorder.drop j) (i + (t.size - j)))) := by
  obtain ⟨V0, hV⟩ : ∃ V0, V0 = (w.alloc (.cells #[.pointer p] 47)).alloc (.cells #[.pointer none] 47) := ⟨_, rfl⟩
  have hb0 : Below w.heap.size w V0 := by rw [hV]; exact belowTrans (belowAlloc _ _) (belowAlloc _ _)
  have kp : V0.cell? ⟨w.heap.size, 0, none⟩ = some (.pointer p) := by rw [hV]; exact upc (belowAlloc _ _) (cell_of_one (heap_alloc_new _ _))
  have hk1 : V0.heap[w.heap.size + 1]? = some (.cells #[.pointer none] 47 (0, 0)) := by rw [hV]; exact heapNew2 _ _ _
  have HC := Lib.hid (Split_any B V0 p t i (szle hb0 hB) (h.up hb0) (by omega) (by omega) (by omega))
  have HB := Lib.hid (szle hb0 hB)
  have Hh := Lib.hid (h.up hb0)
  have K1 := Lib.hid hk1
  have Hb := Lib.hid hb0
  have HV := Lib.hid hV
  clear hb0 hB h hk1 hV
  go_enter Try.func54, Try.ntmps54
  go_wp2_with fail
  rw [← HV.out]
  go_wp2_with fail
  refine HC.out.mono ?_
  rintro e w1 ⟨a, b, u1, u2, rfl, i1, i2, j1, j2, hb1⟩
  have I1 := Lib.hid i1
  have HU1 := Lib.hid (i1.2.trans (Int.toNat_natCast i))
  have kp1 := upc hb1 kp
  have HB1 := Lib.hid (szle hb1 HB.out)
  have Hh1 := Lib.hid (Hh.out.up hb1)
  have K11 := Lib.hid (upb hb1 K1.out)
  have Hb1 := Lib.hid (belowTrans Hb.out hb1)
  have J1 := Lib.hid j1
  clear i1 i2 j1 j2 hb1 HC HB Hh K1 Hb kp HV
  have hbA := belowTrans (belowAlloc w1 (.cells #[.pointer a] 47)) (belowAlloc _ (.cells #[.pointer b] 47))
  have kp2 := upc hbA kp1
  have hA := heapNew1 w1 (.cells #[.pointer a] 47) (.cells #[.pointer b] 47)
  have HD := Lib.hid (Split_any B _ p t j (szle hbA HB1.out) (Hh1.out.up hbA) (by omega) (by omega) (by omega))
  have K12 := Lib.hid (upb hbA K11.out)
  have HA := Lib.hid hA
  have HB2 := Lib.hid (szle hbA HB1.out)
  have J12 := Lib.hid (J1.out.up hbA)
  have Hb2 := Lib.hid (belowTrans Hb1.out hbA)
  clear hbA hA kp1 HB1 Hh1 K11 J1 Hb1
  go_wp2_with fail
  refine HD.out.mono ?_
  rintro e w2 ⟨c, d, v1, v2, rfl, m1, m2, n1, n2, hb2⟩
  have M2 := Lib.hid m2
  have hz2 : v2.size = t.size - j := m2.2.trans (by rw [Int.toNat_natCast])
  have hz1 : u1.size = i := HU1.out
  have hbB := belowTrans hb2 (belowTrans (belowAlloc w2 (.cells #[.pointer c] 47)) (belowAlloc _ (.cells #[.pointer d] 47)))
  have hD := heapNew2 w2 (.cells #[.pointer c] 47) (.cells #[.pointer d] 47)
  have kd := cell_of_one hD
  have ka := cell_of_one (upb hbB HA.out)
  have HJ := Lib.hid (Join_any' B _ a d u1 v2 (szle hbB HB2.out) (J12.out.up hbB) (n2.up (belowTrans (belowAlloc w2 (.cells #[.pointer c] 47)) (belowAlloc _ (.cells #[.pointer d] 47)))) (by omega))
  have K13 := Lib.hid (upb hbB K12.out)
  have Hb3 := Lib.hid (belowTrans Hb2.out hbB)
  have HZ := Lib.hid (And.intro hz1 hz2)
  clear m1 m2 n1 n2 hb2 hz2 hz1 hbB hD HD K12 HA HB2 J12 Hb2 HU1 kp2
  go_wp2_with fail
  refine HJ.out.mono ?_
  rintro e w3 ⟨q, u, rfl, m3, n3, hb3⟩
  have hk2 := upb hb3 K13.out
  have c1 := cell_of_one hk2
  have f1 := free_of_one hk2
  have I3 := Lib.hid m3
  have J3 := Lib.hid n3
  have K2 := Lib.hid hk2
  have Hb4 := Lib.hid (belowTrans Hb3.out hb3)
  clear m3 n3 hk2 hb3 HJ K13 Hb3 kd ka
  go_wp2_with fail
  have hr1 := one_setCell (u := .pointer q) K2.out
  have e1 := cell_of_one hr1
  refine bodyPost_ret (v := .agg #[.pointer q]) (by simp [results, Try.results54, go_sem, e1]) rfl ⟨q, u, rfl, I3.out.of ?_ ?_, Holds.store1 J3.out K2.out (by decide), Hb4.out.setCell (p := ⟨w.heap.size + 1, 0, none⟩) (by show w.heap.size ≤ w.heap.size + 1; omega) _⟩
  · rw [I1.out.1, M2.out.1, Int.toNat_natCast, Int.toNat_natCast]
  · rw [HZ.out.1, HZ.out.2]
end Go.Proofs.Ytnigadnjppeckaa.manyP
