/- Package bag: In; 'bagged' is true. -/
import Derived.Test.YtnebmncjohoekaaDoorBagOps
import Derived.Test.YtnebmncjohoekaaDoorBagLen
import Derived.Test.YtnebmncjohoekaaDoorBagPut
namespace Go.Proofs.YtnebmncjohoekaaDoor.bag
open Go.RowKit
open pat (PT HO OOk ocnt olist oget tk I64 lk told oput odrop ounion)

set_option maxHeartbeats 1000000 in
theorem In_any (B : Nat) (w : World) (p q : Option Addr) (x y : Option PT) (hB : B ≤ w.heap.size) (hx : HO B w p x) (hy : HO B w q y) (ox : OOk x) (oy : OOk y) (bx : Bnd x) (bY : Bnd y) (hc : ocnt x + ocnt y ≤ 8796093022208) (b : Bool) (hb : decide (ocnt (metO fLess x y) = 0) = b) :
    Calls Tryd.prog 15 #[.agg #[.pointer p], .agg #[.pointer q]] w fun e w' => e = .returned (.bool b) ∧ Below w.heap.size w w' := by
  have h1 := belowTrans (belowAlloc w (.cells #[.pointer p] 28)) (belowAlloc _ (.cells #[.pointer q] 28))
  have hz0 := heapNew1 w (.cells #[.pointer p] 28) (.cells #[.pointer q] 28)
  have hz1 := heapNew2 w (.cells #[.pointer p] 28) (.cells #[.pointer q] 28)
  have k0 := cell_of_one hz0
  have k1 := cell_of_one hz1
  have HC := Lib.hid (Less_any B _ p q x y (szle h1 hB) (hx.up h1) (hy.up h1) ox oy bx bY hc)
  have H1 := Lib.hid h1
  obtain ⟨n, hn⟩ : ∃ n, ocnt (metO fLess x y) = n := ⟨_, rfl⟩
  rw [hn] at hb
  have HN := Lib.hid hn
  have hb' : ((n : Int) == 0) = b := by
    rw [← hb]
    by_cases h : n = 0
    · subst h; rfl
    · have h2 : ¬ (n : Int) = 0 := by omega
      simp [h]
  clear hz0 hz1 h1 hx hy ox oy bx bY hc hB hb hn
  have HB := Lib.hid hb'
  clear hb'
  go_enter Tryd.func15, Tryd.ntmps15
  go_wp2_with fail
  refine HC.out.mono ?_
  rintro e w1 ⟨p1, rfl, hp1, hb1⟩
  have HL := Lib.hid (Len_any B w1 p1 _ hp1 n HN.out)
  have HB1 := Lib.hid (belowTrans H1.out hb1)
  clear hp1 hb1 k0 k1
  go_wp2_with fail
  refine HL.out.mono ?_
  rintro e w2 ⟨rfl, hb2⟩
  have HB2 := Lib.hid (belowTrans HB1.out hb2)
  have hbb := HB.out
  clear hb2
  go_wp2_with fail
  go_ret
  exact ⟨by first | rfl | rw [hbb] | simp [hbb], HB2.out⟩

theorem one_cnt : ocnt (withO none 5 2) = 1 := rfl
set_option maxHeartbeats 2000000 in
theorem bagged_any (w : World) : Calls Tryd.prog 6 #[] w fun e w' => e = .returned (.bool true) ∧ Below w.heap.size w w' := by
  have hi5 : I64 5 := by unfold I64; omega
  have hb0 := belowAlloc w (.cells #[.pointer none] 28)
  have hbx := heap_alloc_new w (.cells #[.pointer none] 28)
  have HP1 := Lib.hid (And.intro (Put_good w.heap.size (w.alloc (.cells #[.pointer none] 28)) none none 5 2 2 (by simp) rfl trivial hi5 (by decide) (cnt_bnd (o := none) trivial bnd_none 5) (by unfold badPut most; simp [cnt, oget]) (by rfl)) (And.intro hb0 hbx))
  have H5 := Lib.hid hi5
  clear hb0 hbx hi5
  go_enter Tryd.func6, Tryd.ntmps6
  go_wp2_with fail
  refine HP1.out.1.mono ?_
  rintro e w1 ⟨p1, rfl, hp1, hb1⟩
  have hz1 := upb hb1 HP1.out.2.2
  have c1 := cell_of_one hz1
  have f1 := free_of_one hz1
  have hst := one_setCell (u := .pointer p1) hz1
  obtain ⟨W1, hW1⟩ : ∃ W, W = w1.setCell ⟨w.heap.size, 0, none⟩ (.pointer p1) := ⟨_, rfl⟩
  have hbW : Below w.heap.size w W1 := by rw [hW1]; exact belowSet (a := ⟨w.heap.size, 0, none⟩) (belowTrans HP1.out.2.1 hb1) (Nat.le_refl _) _
  have hpW : HO w.heap.size W1 p1 (withO none 5 2) := by rw [hW1]; exact pat.HO.store (k := w.heap.size) (off := 0) hz1 (by decide) hp1
  have kW := cell_of_one hst
  rw [← hW1] at hst
  have kW1 := cell_of_one hst
  have hc5 : cnt (withO none 5 2) 5 = 2 := by rw [cnt_with (o := none) trivial H5.out _ H5.out, if_pos rfl]; rfl
  have HC1 := Lib.hid (Count_any w.heap.size W1 p1 _ 5 hpW (with_ok (o := none) trivial H5.out 2) H5.out 2 hc5)
  have HB1 := Lib.hid (And.intro hbW (And.intro hpW hst))
  have HW1 := Lib.hid hW1
  clear hp1 hb1 hst hbW hpW hW1 HP1 hc5 hz1
  go_wp2_with fail
  rw [← HW1.out]
  refine HC1.out.mono ?_
  rintro e w2 ⟨rfl, hb2⟩
  have HL := Lib.hid (Len_any w.heap.size w2 p1 _ (HB1.out.2.1.up hb2) 1 one_cnt)
  have HB2 := Lib.hid (belowTrans HB1.out.1 hb2)
  have k2 := upc hb2 kW1
  clear hb2 c1 f1 kW kW1
  go_wp2_with fail
  refine HL.out.mono ?_
  rintro e w3 ⟨rfl, hb3⟩
  have HB3 := Lib.hid (belowTrans HB2.out hb3)
  clear hb3
  go_wp2_with fail
  go_ret
  exact ⟨rfl, HB3.out⟩
end Go.Proofs.YtnebmncjohoekaaDoor.bag
