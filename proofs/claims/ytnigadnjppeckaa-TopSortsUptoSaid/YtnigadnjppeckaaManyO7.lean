/- Package finger, many things (ord): At, Cut. (Printed by mm.py.) -/
import Derived.Test.YtnigadnjppeckaaManyO5
namespace Go.Proofs.Ytnigadnjppeckaa.manyO
open Go.RowKit

theorem at_left {x : V} {l r : BT V} {j : Nat} (h : j < l.size) : (BT.node x l r).inorder[j]? = l.inorder[j]? := by
  rw [BT.inorder, List.getElem?_append_left (by rw [BT.length_inorder]; exact h)]
theorem at_mid {x : V} {l r : BT V} : (BT.node x l r).inorder[l.size]? = some x := by
  rw [BT.inorder, List.getElem?_append_right (by rw [BT.length_inorder]; exact Nat.le_refl _), BT.length_inorder, Nat.sub_self]
  rfl
theorem at_right {x : V} {l r : BT V} {j : Nat} (h : l.size < j) : (BT.node x l r).inorder[j]? = r.inorder[j - l.size - 1]? := by
  rw [BT.inorder, List.getElem?_append_right (by rw [BT.length_inorder]; omega), BT.length_inorder, show j - l.size = (j - l.size - 1) + 1 by omega, List.getElem?_cons_succ]
  rfl
def ARel (B : Nat) (w : World) (x : V) (j k : Nat) (pn : Option Addr) (wr : World) : Prop :=
  ∃ t1, In B wr pn t1 ∧ j < t1.size ∧ t1.size ≤ k ∧ t1.size ≤ 1152921504606820000 ∧ t1.inorder[j]? = some x ∧ Below w.heap.size w wr
set_option maxRecDepth 100000 in
set_option maxHeartbeats 4000000 in
theorem At_any (B : Nat) (w : World) (p : Option Addr) (t : BT V) (i : Nat) (v : V) (_hB : B ≤ w.heap.size) (h : In B w p t) (hi : t.inorder[i]? = some v) (hs : t.size ≤ 1152921504606820000) :
    Calls Try.prog 71 #[.agg #[.pointer p], .int .i64 i] w fun e w' => e = .returned (.int .i64 v) ∧ Below w.heap.size w w' := by
  have hlt : i < t.size := by
    have h := (List.getElem?_eq_some_iff.1 hi).1
    rw [BT.length_inorder] at h
    exact h
  have hbb := belowAlloc w (.cells #[.pointer p] 40)
  have HL : Hid (ARel B w v i t.size p (w.alloc (.cells #[.pointer p] 40))) := Lib.hid ⟨t, h.up hbb, hlt, Nat.le_refl _, hs, hi, hbb⟩
  have kp := (cell_of_one (heap_alloc_new w (.cells #[.pointer p] 40)))
  clear hbb h hi
  go_enter Try.func71, Try.ntmps71
  go_wp2_with fail
  go_loopg [5, 1, 6] t.size (fun k nv iv _ wr => ∃ (j : Nat) (pn : Option Addr), nv = .pointer pn ∧ iv = .int .i64 (j : Nat) ∧ Hid (ARel B w v j k pn wr))
  case atStart => exact ⟨i, p, rfl, rfl, HL⟩
  case round =>
    obtain ⟨j, pn, rfl, rfl, HR⟩ := hrel
    obtain ⟨t1, hin, hj, hk, hts, hx, hw⟩ := HR.out
    cases t1 with
    | nil => simp [BT.size] at hj
    | node x l r =>
      obtain ⟨b, pl, pr, rfl, _, hb, hl, hr⟩ := hin
      simp only [BT.size] at hj hk hts
      have kl := cl hb
      have kr := cr hb
      have kx0 := cv0 hb
      have hz0 := hts
      have HZ := Lib.hid (size_any hl)
      have Hl := Lib.hid hl
      have Hr := Lib.hid hr
      have Hw := Lib.hid hw
      have Hx := Lib.hid hx
      clear HR hb hl hr hw hx HL
      go_wp2_with fail
      refine HZ.out.mono ?_
      rintro e w1 ⟨rfl, rfl⟩
      clear HZ
      by_cases h1 : j < l.size
      · have Hl2 := Lib.hid (at_left (x := x) (r := r) h1)
        have c1 : decide ((j : Int) < ((l.size : Nat) : Int)) = true := by simpa using h1
        go_wp2_with fail
        go_roundg (l.size)
        case measure => omega
        case rel => exact ⟨j, pl, rfl, rfl, Lib.hid ⟨l, Hl.out, h1, by omega, by omega, by rw [← Hl2.out]; exact Hx.out, Hw.out⟩⟩
      · have c1 : decide ((j : Int) < ((l.size : Nat) : Int)) = false := by simpa using h1
        by_cases h2 : l.size < j
        · have Hr2 := Lib.hid (at_right (x := x) (r := r) h2)
          have c2 : decide (((l.size : Nat) : Int) < (j : Int)) = true := by simpa using h2
          go_wp2_with fail
          go_roundg (r.size)
          case measure => omega
          case rel => exact ⟨j - l.size - 1, pr, rfl, by go_num, Lib.hid ⟨r, Hr.out, by omega, by omega, by omega, by rw [← Hr2.out]; exact Hx.out, Hw.out⟩⟩
        · obtain rfl : j = l.size := by omega
          have c2 : decide (((l.size : Nat) : Int) < ((l.size : Nat) : Int)) = false := by simp
          obtain rfl : x = v := by have h := Hx.out; rw [at_mid] at h; exact Option.some.inj h
          go_wp2_with fail
          go_ret
          exact ⟨rfl, Hw.out⟩
end Go.Proofs.Ytnigadnjppeckaa.manyO
