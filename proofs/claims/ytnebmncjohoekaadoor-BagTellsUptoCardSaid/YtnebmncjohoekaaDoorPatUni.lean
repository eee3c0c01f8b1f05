/- Package pat: Union. -/
import Derived.Test.YtnebmncjohoekaaDoorPatU3
namespace Go.Proofs.YtnebmncjohoekaaDoor.pat
open Go.RowKit

set_option maxHeartbeats 4000000 in
theorem Union_any (B : Nat) (w : World) (px py : Option Addr) (x y : Option PT) (hB : B ≤ w.heap.size) (hx : HO B w px x) (hy : HO B w py y) (ox : OOk x) (oy : OOk y) (hc : ocnt x + ocnt y ≤ 1152921504606843999) :
    Calls Tryd.prog 39 #[.agg #[.pointer px], .agg #[.pointer py]] w (RetM B w (ounion x y)) := by
  have h1 := belowTrans (belowTrans (belowAlloc w (.cells #[.pointer px] 26)) (belowAlloc _ (.cells #[.pointer py] 26))) (belowAlloc _ (.cells #[.pointer none] 26))
  have hz := heap_alloc_new ((w.alloc (.cells #[.pointer px] 26)).alloc (.cells #[.pointer py] 26)) (.cells #[.pointer none] 26)
  rw [show ((w.alloc (.cells #[.pointer px] 26)).alloc (.cells #[.pointer py] 26)).heap.size = w.heap.size + 2 by simp] at hz
  obtain ⟨W, hW⟩ : ∃ W, W = ((w.alloc (.cells #[.pointer px] 26)).alloc (.cells #[.pointer py] 26)).alloc (.cells #[.pointer none] 26) := ⟨_, rfl⟩
  rw [← hW] at h1 hz
  have HC := Lib.hid (ounion_any B W px py x y (by have := h1.size; omega) (hx.up h1) (hy.up h1) ox oy hc)
  have HZ := Lib.hid hz
  have HW := Lib.hid hW
  have H1 := Lib.hid h1
  clear hW hz h1 hx hy ox oy hc
  go_enter Tryd.func39, Tryd.ntmps39
  go_wp2_with fail
  rw [← HW.out]
  refine HC.out.mono ?_
  rintro e w1 ⟨p1, rfl, hp1, hb1⟩
  have hz1 := upb hb1 HZ.out
  have c1 := cell_of_one hz1
  have f1 := free_of_one hz1
  have hst := one_setCell (u := .pointer p1) hz1
  have kr := cell_of_one hst
  have Hp := Lib.hid (And.intro hp1 hb1)
  clear hp1 hb1
  go_wp2_with fail
  refine bodyPost_ret (v := .agg #[.pointer p1]) (by simp only [results, Tryd.results39]; simp [go_sem, kr]) rfl ?_
  exact ⟨_, rfl, HO.store (k := w.heap.size + 2) (off := 0) hz1 (by decide) Hp.out.1, belowSet (a := ⟨w.heap.size + 2, 0, none⟩) (belowTrans H1.out Hp.out.2) (by show w.heap.size ≤ w.heap.size + 2; omega) _⟩

end Go.Proofs.YtnebmncjohoekaaDoor.pat
