/- Package bag: Add Less Join Meet. -/
import Derived.Test.YtnebmncjohoekaaDoorBagP
namespace Go.Proofs.YtnebmncjohoekaaDoor.bag
open Go.RowKit
open pat (PT HO OOk ocnt olist oget tk I64 lk told oput odrop ounion)

set_option maxHeartbeats 400000 in
theorem isAdd : IsFn 24 fAdd := by
  refine ⟨fun args W => by kernel_rfl, fun m n W hm0 hm1 hn0 hn1 => ?_⟩
  unfold most at hm1 hn1
  go_enter Tryd.func24, Tryd.ntmps24
  go_wp2
  go_ret
  exact ⟨by first | rfl | simp [fAdd, fLess, fJoin, fMeet], by first | rfl | trivial⟩
theorem bdAdd : ∀ m n, 0 ≤ m → m ≤ most → 0 ≤ n → n ≤ most → -4611686018427387904 ≤ fAdd m n ∧ fAdd m n ≤ 4611686018427387904 := by
  intro m n h1 h2 h3 h4
  unfold most at h2 h4
  unfold fAdd
  omega
theorem zeroAdd : fAdd 0 0 ≤ 0 := by decide
set_option maxHeartbeats 1000000 in
theorem Add_any (B : Nat) (w : World) (p q : Option Addr) (x y : Option PT) (hB : B ≤ w.heap.size) (hx : HO B w p x) (hy : HO B w q y) (ox : OOk x) (oy : OOk y) (bx : Bnd x) (bY : Bnd y) (hc : ocnt x + ocnt y ≤ 8796093022208) :
    Calls Tryd.prog 9 #[.agg #[.pointer p], .agg #[.pointer q]] w (RetG B w (metO fAdd x y)) := by
  have h1 := belowTrans (belowTrans (belowAlloc w (.cells #[.pointer p] 28)) (belowAlloc _ (.cells #[.pointer q] 28))) (belowAlloc _ (.cells #[.pointer none] 28))
  have hz := heap_alloc_new ((w.alloc (.cells #[.pointer p] 28)).alloc (.cells #[.pointer q] 28)) (.cells #[.pointer none] 28)
  rw [show ((w.alloc (.cells #[.pointer p] 28)).alloc (.cells #[.pointer q] 28)).heap.size = w.heap.size + 2 by simp] at hz
  have hz0 := upb (belowAlloc _ (.cells #[.pointer none] 28)) (heapNew1 w (.cells #[.pointer p] 28) (.cells #[.pointer q] 28))
  have hz1 := upb (belowAlloc _ (.cells #[.pointer none] 28)) (heapNew2 w (.cells #[.pointer p] 28) (.cells #[.pointer q] 28))
  have k0 := cell_of_one hz0
  have k1 := cell_of_one hz1
  have HC := Lib.hid (met_any B _ p q x y 24 fAdd (szle h1 hB) (hx.up h1) (hy.up h1) ox oy bx bY hc isAdd bdAdd)
  have H1 := Lib.hid (And.intro h1 hz)
  clear hz hz0 hz1 h1 hx hy ox oy bx bY hc hB
  go_enter Tryd.func9, Tryd.ntmps9
  go_wp2_with fail
  refine HC.out.mono ?_
  rintro e w1 ⟨p1, rfl, hp1, hb1⟩
  have hz1 := upb hb1 H1.out.2
  have c1 := cell_of_one hz1
  have f1 := free_of_one hz1
  have hst := one_setCell (u := .pointer p1) hz1
  have kr := cell_of_one hst
  have Hp := Lib.hid (And.intro hp1 hb1)
  clear hp1 hb1 k0 k1
  go_wp2_with fail
  refine bodyPost_ret (v := .agg #[.pointer p1]) (by simp only [results, Tryd.results9]; simp [go_sem, kr]) rfl ?_
  exact ⟨p1, rfl, pat.HO.store (k := w.heap.size + 2) (off := 0) hz1 (by decide) Hp.out.1, belowSet (a := ⟨w.heap.size + 2, 0, none⟩) (belowTrans H1.out.1 Hp.out.2) (by show w.heap.size ≤ w.heap.size + 2; omega) _⟩
set_option maxHeartbeats 400000 in
theorem isLess : IsFn 25 fLess := by
  refine ⟨fun args W => by kernel_rfl, fun m n W hm0 hm1 hn0 hn1 => ?_⟩
  unfold most at hm1 hn1
  go_enter Tryd.func25, Tryd.ntmps25
  go_wp2
  go_ret
  exact ⟨by first | rfl | simp [fAdd, fLess, fJoin, fMeet], by first | rfl | trivial⟩
theorem bdLess : ∀ m n, 0 ≤ m → m ≤ most → 0 ≤ n → n ≤ most → -4611686018427387904 ≤ fLess m n ∧ fLess m n ≤ 4611686018427387904 := by
  intro m n h1 h2 h3 h4
  unfold most at h2 h4
  unfold fLess
  omega
theorem zeroLess : fLess 0 0 ≤ 0 := by decide
set_option maxHeartbeats 1000000 in
theorem Less_any (B : Nat) (w : World) (p q : Option Addr) (x y : Option PT) (hB : B ≤ w.heap.size) (hx : HO B w p x) (hy : HO B w q y) (ox : OOk x) (oy : OOk y) (bx : Bnd x) (bY : Bnd y) (hc : ocnt x + ocnt y ≤ 8796093022208) :
    Calls Tryd.prog 10 #[.agg #[.pointer p], .agg #[.pointer q]] w (RetG B w (metO fLess x y)) := by
  have h1 := belowTrans (belowTrans (belowAlloc w (.cells #[.pointer p] 28)) (belowAlloc _ (.cells #[.pointer q] 28))) (belowAlloc _ (.cells #[.pointer none] 28))
  have hz := heap_alloc_new ((w.alloc (.cells #[.pointer p] 28)).alloc (.cells #[.pointer q] 28)) (.cells #[.pointer none] 28)
  rw [show ((w.alloc (.cells #[.pointer p] 28)).alloc (.cells #[.pointer q] 28)).heap.size = w.heap.size + 2 by simp] at hz
  have hz0 := upb (belowAlloc _ (.cells #[.pointer none] 28)) (heapNew1 w (.cells #[.pointer p] 28) (.cells #[.pointer q] 28))
  have hz1 := upb (belowAlloc _ (.cells #[.pointer none] 28)) (heapNew2 w (.cells #[.pointer p] 28) (.cells #[.pointer q] 28))
  have k0 := cell_of_one hz0
  have k1 := cell_of_one hz1
  have HC := Lib.hid (met_any B _ p q x y 25 fLess (szle h1 hB) (hx.up h1) (hy.up h1) ox oy bx bY hc isLess bdLess)
  have H1 := Lib.hid (And.intro h1 hz)
  clear hz hz0 hz1 h1 hx hy ox oy bx bY hc hB
  go_enter Tryd.func10, Tryd.ntmps10
  go_wp2_with fail
  refine HC.out.mono ?_
  rintro e w1 ⟨p1, rfl, hp1, hb1⟩
  have hz1 := upb hb1 H1.out.2
  have c1 := cell_of_one hz1
  have f1 := free_of_one hz1
  have hst := one_setCell (u := .pointer p1) hz1
  have kr := cell_of_one hst
  have Hp := Lib.hid (And.intro hp1 hb1)
  clear hp1 hb1 k0 k1
  go_wp2_with fail
  refine bodyPost_ret (v := .agg #[.pointer p1]) (by simp only [results, Tryd.results10]; simp [go_sem, kr]) rfl ?_
  exact ⟨p1, rfl, pat.HO.store (k := w.heap.size + 2) (off := 0) hz1 (by decide) Hp.out.1, belowSet (a := ⟨w.heap.size + 2, 0, none⟩) (belowTrans H1.out.1 Hp.out.2) (by show w.heap.size ≤ w.heap.size + 2; omega) _⟩
set_option maxHeartbeats 400000 in
theorem isJoin : IsFn 26 fJoin := by
  refine ⟨fun args W => by kernel_rfl, fun m n W hm0 hm1 hn0 hn1 => ?_⟩
  unfold most at hm1 hn1
  go_enter Tryd.func26, Tryd.ntmps26
  go_wp2
  go_ret
  exact ⟨by first | rfl | simp [fAdd, fLess, fJoin, fMeet], by first | rfl | trivial⟩
theorem bdJoin : ∀ m n, 0 ≤ m → m ≤ most → 0 ≤ n → n ≤ most → -4611686018427387904 ≤ fJoin m n ∧ fJoin m n ≤ 4611686018427387904 := by
  intro m n h1 h2 h3 h4
  unfold most at h2 h4
  unfold fJoin
  omega
theorem zeroJoin : fJoin 0 0 ≤ 0 := by decide
set_option maxHeartbeats 1000000 in
theorem Join_any (B : Nat) (w : World) (p q : Option Addr) (x y : Option PT) (hB : B ≤ w.heap.size) (hx : HO B w p x) (hy : HO B w q y) (ox : OOk x) (oy : OOk y) (bx : Bnd x) (bY : Bnd y) (hc : ocnt x + ocnt y ≤ 8796093022208) :
    Calls Tryd.prog 11 #[.agg #[.pointer p], .agg #[.pointer q]] w (RetG B w (metO fJoin x y)) := by
  have h1 := belowTrans (belowTrans (belowAlloc w (.cells #[.pointer p] 28)) (belowAlloc _ (.cells #[.pointer q] 28))) (belowAlloc _ (.cells #[.pointer none] 28))
  have hz := heap_alloc_new ((w.alloc (.cells #[.pointer p] 28)).alloc (.cells #[.pointer q] 28)) (.cells #[.pointer none] 28)
  rw [show ((w.alloc (.cells #[.pointer p] 28)).alloc (.cells #[.pointer q] 28)).heap.size = w.heap.size + 2 by simp] at hz
  have hz0 := upb (belowAlloc _ (.cells #[.pointer none] 28)) (heapNew1 w (.cells #[.pointer p] 28) (.cells #[.pointer q] 28))
  have hz1 := upb (belowAlloc _ (.cells #[.pointer none] 28)) (heapNew2 w (.cells #[.pointer p] 28) (.cells #[.pointer q] 28))
  have k0 := cell_of_one hz0
  have k1 := cell_of_one hz1
  have HC := Lib.hid (met_any B _ p q x y 26 fJoin (szle h1 hB) (hx.up h1) (hy.up h1) ox oy bx bY hc isJoin bdJoin)
  have H1 := Lib.hid (And.intro h1 hz)
  clear hz hz0 hz1 h1 hx hy ox oy bx bY hc hB
  go_enter Tryd.func11, Tryd.ntmps11
  go_wp2_with fail
  refine HC.out.mono ?_
  rintro e w1 ⟨p1, rfl, hp1, hb1⟩
  have hz1 := upb hb1 H1.out.2
  have c1 := cell_of_one hz1
  have f1 := free_of_one hz1
  have hst := one_setCell (u := .pointer p1) hz1
  have kr := cell_of_one hst
  have Hp := Lib.hid (And.intro hp1 hb1)
  clear hp1 hb1 k0 k1
  go_wp2_with fail
  refine bodyPost_ret (v := .agg #[.pointer p1]) (by simp only [results, Tryd.results11]; simp [go_sem, kr]) rfl ?_
  exact ⟨p1, rfl, pat.HO.store (k := w.heap.size + 2) (off := 0) hz1 (by decide) Hp.out.1, belowSet (a := ⟨w.heap.size + 2, 0, none⟩) (belowTrans H1.out.1 Hp.out.2) (by show w.heap.size ≤ w.heap.size + 2; omega) _⟩
set_option maxHeartbeats 400000 in
theorem isMeet : IsFn 27 fMeet := by
  refine ⟨fun args W => by kernel_rfl, fun m n W hm0 hm1 hn0 hn1 => ?_⟩
  unfold most at hm1 hn1
  go_enter Tryd.func27, Tryd.ntmps27
  go_wp2
  go_ret
  exact ⟨by first | rfl | simp [fAdd, fLess, fJoin, fMeet], by first | rfl | trivial⟩
theorem bdMeet : ∀ m n, 0 ≤ m → m ≤ most → 0 ≤ n → n ≤ most → -4611686018427387904 ≤ fMeet m n ∧ fMeet m n ≤ 4611686018427387904 := by
  intro m n h1 h2 h3 h4
  unfold most at h2 h4
  unfold fMeet
  omega
theorem zeroMeet : fMeet 0 0 ≤ 0 := by decide
set_option maxHeartbeats 1000000 in
theorem Meet_any (B : Nat) (w : World) (p q : Option Addr) (x y : Option PT) (hB : B ≤ w.heap.size) (hx : HO B w p x) (hy : HO B w q y) (ox : OOk x) (oy : OOk y) (bx : Bnd x) (bY : Bnd y) (hc : ocnt x + ocnt y ≤ 8796093022208) :
    Calls Tryd.prog 12 #[.agg #[.pointer p], .agg #[.pointer q]] w (RetG B w (metO fMeet x y)) := by
  have h1 := belowTrans (belowTrans (belowAlloc w (.cells #[.pointer p] 28)) (belowAlloc _ (.cells #[.pointer q] 28))) (belowAlloc _ (.cells #[.pointer none] 28))
  have hz := heap_alloc_new ((w.alloc (.cells #[.pointer p] 28)).alloc (.cells #[.pointer q] 28)) (.cells #[.pointer none] 28)
  rw [show ((w.alloc (.cells #[.pointer p] 28)).alloc (.cells #[.pointer q] 28)).heap.size = w.heap.size + 2 by simp] at hz
  have hz0 := upb (belowAlloc _ (.cells #[.pointer none] 28)) (heapNew1 w (.cells #[.pointer p] 28) (.cells #[.pointer q] 28))
  have hz1 := upb (belowAlloc _ (.cells #[.pointer none] 28)) (heapNew2 w (.cells #[.pointer p] 28) (.cells #[.pointer q] 28))
  have k0 := cell_of_one hz0
  have k1 := cell_of_one hz1
  have HC := Lib.hid (met_any B _ p q x y 27 fMeet (szle h1 hB) (hx.up h1) (hy.up h1) ox oy bx bY hc isMeet bdMeet)
  have H1 := Lib.hid (And.intro h1 hz)
  clear hz hz0 hz1 h1 hx hy ox oy bx bY hc hB
  go_enter Tryd.func12, Tryd.ntmps12
  go_wp2_with fail
  refine HC.out.mono ?_
  rintro e w1 ⟨p1, rfl, hp1, hb1⟩
  have hz1 := upb hb1 H1.out.2
  have c1 := cell_of_one hz1
  have f1 := free_of_one hz1
  have hst := one_setCell (u := .pointer p1) hz1
  have kr := cell_of_one hst
  have Hp := Lib.hid (And.intro hp1 hb1)
  clear hp1 hb1 k0 k1
  go_wp2_with fail
  refine bodyPost_ret (v := .agg #[.pointer p1]) (by simp only [results, Tryd.results12]; simp [go_sem, kr]) rfl ?_
  exact ⟨p1, rfl, pat.HO.store (k := w.heap.size + 2) (off := 0) hz1 (by decide) Hp.out.1, belowSet (a := ⟨w.heap.size + 2, 0, none⟩) (belowTrans H1.out.1 Hp.out.2) (by show w.heap.size ≤ w.heap.size + 2; omega) _⟩
end Go.Proofs.YtnebmncjohoekaaDoor.bag
