/- Package ord: numbers in order, over many things. (Printed by od.py.) -/
import Derived.Test.YtnigadnjppeckaaDoorManyO6D
import Derived.Test.YtnigadnjppeckaaDoorCat
namespace Go.Proofs.YtnigadnjppeckaaDoor.ord
open Go.RowKit
open manyO (RetM Is q_behind q_from findT findT_le kTM)

abbrev In := manyO.In
abbrev RetS (B : Nat) (w : World) (Q : BT Int → Prop) := RetM B w Q

set_option maxHeartbeats 1000000 in
theorem behind_any (B : Nat) (w : World) (p : Option Addr) (t : BT Int) (x : Int) (hB : B ≤ w.heap.size) (h : In B w p t) (hs : t.size ≤ 1152921504606820000) :
    Calls Tryd.prog 22 #[.agg #[.pointer p], .int .i64 x] w fun e w' => e = .returned (.int .i64 ((findT (q_behind x) none t : Nat) : Int)) ∧ Below w.heap.size w w' := by
  have hb := belowTrans (belowAlloc w (.cells #[.pointer p] 39)) (belowAlloc _ (.cells #[.int .i64 x] 3))
  have HF := Lib.hid (manyO.Find_behind B _ p t (w.heap.size + 1) x (szle hb hB) (h.up hb) hs (heapNew2 _ _ _))
  have Hb := Lib.hid hb
  clear hb h hB
  go_enter Tryd.func22, Tryd.ntmps22
  go_wp2_with fail
  refine HF.out.mono ?_
  rintro e w1 ⟨rfl, hb1⟩
  go_wp2_with fail
  go_ret
  exact ⟨rfl, belowTrans Hb.out hb1⟩

set_option maxHeartbeats 1000000 in
theorem from_any (B : Nat) (w : World) (p : Option Addr) (t : BT Int) (x : Int) (hB : B ≤ w.heap.size) (h : In B w p t) (hs : t.size ≤ 1152921504606820000) :
    Calls Tryd.prog 21 #[.agg #[.pointer p], .int .i64 x] w fun e w' => e = .returned (.int .i64 ((findT (q_from x) none t : Nat) : Int)) ∧ Below w.heap.size w w' := by
  have hb := belowTrans (belowAlloc w (.cells #[.pointer p] 39)) (belowAlloc _ (.cells #[.int .i64 x] 3))
  have HF := Lib.hid (manyO.Find_from B _ p t (w.heap.size + 1) x (szle hb hB) (h.up hb) hs (heapNew2 _ _ _))
  have Hb := Lib.hid hb
  clear hb h hB
  go_enter Tryd.func21, Tryd.ntmps21
  go_wp2_with fail
  refine HF.out.mono ?_
  rintro e w1 ⟨rfl, hb1⟩
  go_wp2_with fail
  go_ret
  exact ⟨rfl, belowTrans Hb.out hb1⟩

set_option maxRecDepth 100000 in
set_option maxHeartbeats 2000000 in
theorem Insert_any (B : Nat) (w : World) (p : Option Addr) (t : BT Int) (x : Int) (hB : B ≤ w.heap.size) (h : In B w p t) (hs : t.size ≤ 1152921504606820000) :
    Calls Tryd.prog 14 #[.agg #[.pointer p], .int .i64 x] w (RetM B w (Is (t.inorder.take (findT (q_behind x) none t) ++ x :: t.inorder.drop (findT (q_behind x) none t)) (t.size + 1))) := by
  obtain ⟨V0, hV⟩ : ∃ V0, V0 = (w.alloc (.cells #[.pointer p] 39)).alloc (.cells #[.pointer none] 39) := ⟨_, rfl⟩
  have hb0 : Below w.heap.size w V0 := by rw [hV]; exact belowTrans (belowAlloc _ _) (belowAlloc _ _)
  have kp : V0.cell? ⟨w.heap.size, 0, none⟩ = some (.pointer p) := by rw [hV]; exact cell_of_one (heapNew1 _ _ _)
  have hk1 : V0.heap[w.heap.size + 1]? = some (.cells #[.pointer none] 39 (0, 0)) := by rw [hV]; exact heapNew2 _ _ _
  have hs1 := hs
  have hfl := findT_le (q_behind x) t none
  have HB := Lib.hid (szle hb0 hB)
  have Hh := Lib.hid (h.up hb0)
  have K1 := Lib.hid hk1
  have Hb := Lib.hid hb0
  have HV := Lib.hid hV
  clear hb0 hB h hk1 hV
  go_enter Tryd.func14, Tryd.ntmps14
  go_wp2_with fail
  rw [← HV.out]
  refine grow.wp_grow_tail 8 [grow.kEq (.pointer (some ⟨w.heap.size, 0, none⟩)), grow.kEq (.agg #[.pointer p]), grow.kEq (.agg #[.pointer p]), grow.kEq (.int .i64 x), grow.kEq (.int .i64 ((findT (q_behind x) none t : Nat) : Int)), grow.kEq (.int .i64 x), kTM B (Is (t.inorder.take (findT (q_behind x) none t) ++ x :: t.inorder.drop (findT (q_behind x) none t)) (t.size + 1)), kTM B (Is (t.inorder.take (findT (q_behind x) none t) ++ x :: t.inorder.drop (findT (q_behind x) none t)) (t.size + 1))] (of_decide_eq_true (by kernel_rfl)) (by kernel_rfl) (by kernel_rfl) (by kernel_rfl) (by kernel_rfl) (by kernel_rfl) ?step ?fin
  case step =>
    refine grow.EachT.cons ?_ ?_
    · intro A W hB hs hJ K hK
      have s0 := hs 2 (by kernel_rfl)
      simp at s0
      rw [if_pos (by rfl)]
      clear hs hJ
      go_simp
      exact hK _ _ (Below.refl _ _) rfl
    refine grow.EachT.cons ?_ ?_
    · intro A W hB hs hJ K hK
      have s0 : A.tmps.getD 5 undef = .pointer (some ⟨w.heap.size, 0, none⟩) := hJ 0 5 (by kernel_rfl) (by kernel_rfl)
      simp at s0
      have kk := upc hB kp
      rw [if_pos (by rfl)]
      clear hs hJ
      go_simp
      exact hK _ _ (Below.refl _ _) rfl
    refine grow.EachT.cons ?_ ?_
    · intro A W hB hs hJ K hK
      have s0 := hs 2 (by kernel_rfl)
      simp at s0
      have kk := upc hB kp
      rw [if_pos (by rfl)]
      clear hs hJ
      go_simp
      exact hK _ _ (Below.refl _ _) rfl
    refine grow.EachT.cons ?_ ?_
    · intro A W hB hs hJ K hK
      have s0 := hs 1 (by kernel_rfl)
      simp at s0
      rw [if_pos (by rfl)]
      clear hs hJ
      go_simp
      exact hK _ _ (Below.refl _ _) rfl
    refine grow.EachT.cons ?_ ?_
    · intro A W hB hs hJ K hK
      have s0 : A.tmps.getD 7 undef = .agg #[.pointer p] := hJ 2 7 (by kernel_rfl) (by kernel_rfl)
      simp at s0
      have s1 : A.tmps.getD 8 undef = .int .i64 x := hJ 3 8 (by kernel_rfl) (by kernel_rfl)
      simp at s1
      rw [if_pos (by rfl)]
      clear hs hJ
      go_simp
      go_at_call 22
      refine (behind_any B W p t x (szle hB HB.out) (Hh.out.up hB) hs1).mono ?_
      rintro e W2 ⟨rfl, hbn⟩
      exact hK _ _ hbn rfl
    refine grow.EachT.cons ?_ ?_
    · intro A W hB hs hJ K hK
      have s0 := hs 1 (by kernel_rfl)
      simp at s0
      rw [if_pos (by rfl)]
      clear hs hJ
      go_simp
      exact hK _ _ (Below.refl _ _) rfl
    refine grow.EachT.cons ?_ ?_
    · intro A W hB hs hJ K hK
      have s0 : A.tmps.getD 6 undef = .agg #[.pointer p] := hJ 1 6 (by kernel_rfl) (by kernel_rfl)
      simp at s0
      have s1 : A.tmps.getD 9 undef = .int .i64 ((findT (q_behind x) none t : Nat) : Int) := hJ 4 9 (by kernel_rfl) (by kernel_rfl)
      simp at s1
      have s2 : A.tmps.getD 10 undef = .int .i64 x := hJ 5 10 (by kernel_rfl) (by kernel_rfl)
      simp at s2
      rw [if_pos (by rfl)]
      clear hs hJ
      go_simp
      go_at_call 25
      refine (manyO.Insert_any B W p t _ x (szle hB HB.out) (Hh.out.up hB) (by omega) (by omega) hs).mono ?_
      rintro e W2 ⟨q, u, rfl, i3, j3, hbn⟩
      exact hK _ _ hbn ⟨q, u, rfl, (by simpa using i3), j3⟩
    refine grow.EachT.cons ?_ ?_
    · intro A W hB hs hJ K hK
      obtain ⟨q, u, s0, i3, j3⟩ := hJ 6 11 (by kernel_rfl) (by kernel_rfl)
      simp at s0
      rw [if_pos (by rfl)]
      clear hs hJ
      go_simp
      exact hK _ _ (Below.refl _ _) ⟨q, u, rfl, i3, j3⟩
    exact grow.EachT.nil
  case fin =>
    intro f W hB hF
    have f0 : f 0 = .pointer (some ⟨w.heap.size, 0, none⟩) := hF 0 (by decide)
    have f1 : f 1 = .agg #[.pointer p] := hF 1 (by decide)
    have f2 : f 2 = .agg #[.pointer p] := hF 2 (by decide)
    have f3 : f 3 = .int .i64 x := hF 3 (by decide)
    have f4 : f 4 = .int .i64 ((findT (q_behind x) none t : Nat) : Int) := hF 4 (by decide)
    have f5 : f 5 = .int .i64 x := hF 5 (by decide)
    obtain ⟨q_6, u_6, f6, i3_6, j3_6⟩ := hF 6 (by decide)
    obtain ⟨q_7, u_7, f7, i3_7, j3_7⟩ := hF 7 (by decide)
    clear hF
    intro A hA
    simp only [grow.puts, Act.put, List.getElem?_toArray, List.getElem?_cons_zero, List.getElem?_cons_succ, Option.bind_some, List.setIfInBounds_toArray, List.set_cons_zero, List.set_cons_succ, f0, f1, f2, f3, f4, f5, f6, f7] at hA
    subst hA
    simp only [List.drop_succ_cons, List.drop_zero]
    have hk2 := upb hB K1.out
    have c1 := cell_of_one hk2
    have f1 := free_of_one hk2
    have I3 := Lib.hid i3_7
    have J3 := Lib.hid j3_7
    have K2 := Lib.hid hk2
    have Hb2 := Lib.hid (belowTrans Hb.out hB)
    clear hk2 hB
    go_wp2_with fail
    have hr1 := one_setCell (u := .pointer q_7) K2.out
    have e1 := cell_of_one hr1
    exact bodyPost_ret (v := .agg #[.pointer q_7]) (by simp [results, Tryd.results14, go_sem, e1]) rfl ⟨q_7, u_7, rfl, I3.out, manyO.Holds.store1 J3.out K2.out (by decide), Hb2.out.setCell (p := ⟨w.heap.size + 1, 0, none⟩) (by show w.heap.size ≤ w.heap.size + 1; omega) _⟩
end Go.Proofs.YtnigadnjppeckaaDoor.ord
