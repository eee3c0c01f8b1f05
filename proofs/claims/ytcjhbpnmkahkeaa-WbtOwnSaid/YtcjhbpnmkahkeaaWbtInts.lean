/- The walks of package wbt, the third part: At and Ints. -/
import Derived.Test.YtcjhbpnmkahkeaaWbtOf
import Derived.Test.YtcjhbpnmkahkeaaGather
import Derived.Test.YtcjhbpnmkahkeaaFill
import Derived.Deep.LoopGhost
namespace Go.Proofs.Ytcjhbpnmkahkeaa.wbt
open Go.RowKit

/-- what is told of a tree -/
def ints (t : BT A) : List Int := t.inorder
theorem ints_node (x : A) (l r : BT A) : ints (.node x l r) = ints l ++ x :: ints r := rfl
theorem ints_length (t : BT A) : (ints t).length = t.size := by rw [ints, BT.length_inorder]
theorem at_left (x : A) (l r : BT A) (i : Nat) (h : i < l.size) : (ints (.node x l r)).getD i 0 = (ints l).getD i 0 := by
  have e := ints_length l
  rw [ints_node, List.getD_eq_getElem?_getD, List.getElem?_append_left (by omega), ← List.getD_eq_getElem?_getD]
theorem at_mid (x : A) (l r : BT A) (i : Nat) (h : i = l.size) : (ints (.node x l r)).getD i 0 = x := by
  have e := ints_length l
  rw [ints_node, List.getD_eq_getElem?_getD, List.getElem?_append_right (by omega), h, e]
  simp
theorem at_right (x : A) (l r : BT A) (i : Nat) (h : l.size < i) : (ints (.node x l r)).getD i 0 = (ints r).getD (i - l.size - 1) 0 := by
  have e := ints_length l
  rw [ints_node, List.getD_eq_getElem?_getD, List.getElem?_append_right (by omega), e]
  obtain ⟨j, hj⟩ : ∃ j, i - l.size = j + 1 := ⟨i - l.size - 1, by omega⟩
  rw [hj]
  simp [List.getD_eq_getElem?_getD]

set_option maxHeartbeats 2000000 in
theorem At_any (B : Nat) (w : World) (p : Option Addr) (t : BT A) (i : Nat) (h : In B w p t) (hi : i < t.size) (hn : t.size ≤ 17592186044416) :
    Calls Try.prog 78 #[.agg #[.pointer p], .int .i64 i] w fun e w' => e = .returned (.tuple #[.int .i64 ((ints t).getD i 0), .bool true]) ∧ Below w.heap.size w w' := by
  have hL := Len_any B (w.alloc (.cells #[.pointer p] 65)) p t (h.up (belowAlloc _ _))
  have hin := h.up (belowTrans (belowAlloc w (.cells #[.pointer p] 65)) (belowAlloc _ (.cells #[.pointer p] 65)))
  have hbel := belowTrans (belowAlloc w (.cells #[.pointer p] 65)) (belowAlloc _ (.cells #[.pointer p] 65))
  obtain ⟨W, hW⟩ : ∃ W, W = ((w.alloc (.cells #[.pointer p] 65)).alloc (.cells #[.pointer p] 65)) := ⟨_, rfl⟩
  have hz := heapNew1 w (.cells #[.pointer p] 65) (.cells #[.pointer p] 65)
  rw [← hW] at hL hin hbel hz
  have kz := cell_of_one hz
  have h0 : (0 : Int) ≤ (i : Int) := by omega
  have h1 : (i : Int) < (t.size : Int) := by omega
  have dA : decide ((i : Int) < 0) = false := by simp
  have dB : decide (t.size ≤ i) = false := by simp; omega
  have Hin := Lib.hid hin
  have Hbel := Lib.hid hbel
  clear hin hbel hz hW h
  go_enter Try.func78, Try.ntmps78
  go_wp2_with fail
  refine hL.mono ?_
  rintro e w2 ⟨rfl, rfl⟩
  go_wp2_with fail
  go_loopg [1, 6] t.size (fun k i1 t6 wr => ∃ (j : Nat) (q : Option Addr) (u : BT A), wr = w2 ∧ u.size = k ∧ j < u.size ∧ u.size ≤ t.size ∧ i1 = .int .i64 j ∧ t6 = .pointer q ∧ Hid (In B w2 q u) ∧ Hid ((ints u).getD j 0 = (ints t).getD i 0))
  case atStart => exact ⟨i, p, t, rfl, rfl, hi, Nat.le_refl _, rfl, rfl, Hin, Lib.hid rfl⟩
  case round =>
    obtain ⟨j, q, u, hwr, rfl, hj, hus, rfl, rfl, Hq, He⟩ := hrel
    subst hwr
    cases u with
    | nil => simp [BT.size] at hj
    | node x l r =>
      obtain ⟨b, pl, pr, rfl, _, hb, hl, hr⟩ := Hq.out
      have k0 : wr.cell? ⟨b, 0, none⟩ = some (.int .i64 x) := c0 hb
      have kl := cl hb
      have kr := cr hb
      have hS := size_any hl
      have Hl := Lib.hid hl
      have Hr := Lib.hid hr
      clear hb hl hr
      have hsz : (BT.node x l r : BT A).size = 1 + l.size + r.size := rfl
      have hls : l.size ≤ 17592186044416 := by omega
      rcases Nat.lt_trichotomy j l.size with hlt | heq | hgt
      · have d : (j : Int) < (l.size : Int) := by omega
        have He' := Lib.hid ((at_left x l r j hlt).symm.trans He.out)
        have m1 : l.size < (BT.node x l r : BT A).size := by omega
        have m2 : l.size ≤ t.size := by omega
        clear hsz He
        go_wp2_with fail
        refine hS.mono ?_
        rintro e w' ⟨rfl, rfl⟩
        go_wp2_with fail
        go_roundg l.size
        case measure => exact m1
        case rel => exact ⟨j, pl, l, rfl, rfl, hlt, m2, rfl, rfl, Hl, He'⟩
      · have d : (j : Int) = (l.size : Int) := by omega
        have He' := Lib.hid ((at_mid x l r j heq).symm.trans He.out)
        subst heq
        clear hsz He d
        go_wp2_with fail
        refine hS.mono ?_
        rintro e w' ⟨rfl, rfl⟩
        go_wp2_with fail
        go_ret2
        exact ⟨by rw [He'.out]; rfl, Hbel.out⟩
      · have d : (l.size : Int) < (j : Int) := by omega
        have He' := Lib.hid ((at_right x l r j hgt).symm.trans He.out)
        have m1 : r.size < (BT.node x l r : BT A).size := by omega
        have m2 : r.size ≤ t.size := by omega
        have m3 : j - l.size - 1 < r.size := by omega
        have m4 : (j : Int) ≤ 17592186044416 := by omega
        clear hsz He
        go_wp2_with fail
        refine hS.mono ?_
        rintro e w' ⟨rfl, rfl⟩
        go_wp2_with fail
        go_roundg r.size
        case measure => exact m1
        case rel => exact ⟨j - l.size - 1, pr, r, rfl, rfl, m3, m2, by congr 1; omega, rfl, Hr, He'⟩

theorem take_more (xs : List Int) (k : Nat) (h : k < xs.length) : (xs.take (k + 1)).map (Value.int .i64) = (xs.take k).map (Value.int .i64) ++ [.int .i64 (xs.getD k 0)] := by
  rw [List.take_succ_eq_append_getElem h, List.map_append]
  simp [List.getD_eq_getElem?_getD, h]

set_option maxHeartbeats 2000000 in
theorem ints_any (B : Nat) (w : World) (p : Option Addr) (t : BT A) (h : In B w p t) (hn : t.size ≤ 17592186044416) :
    Calls Try.prog 45 #[.agg #[.pointer p]] w (RetI 3 w (ints t)) := by
  obtain ⟨W, hW⟩ : ∃ W, W = (w.alloc (.cells #[.pointer p] 65)) := ⟨_, rfl⟩
  have hbW : Below w.heap.size w W := by rw [hW]; exact belowAlloc _ _
  have hL := Len_any B W p t (h.up hbW)
  obtain ⟨W2, hW2⟩ : ∃ W2, W2 = (W.alloc (.cells #[.pointer p] 65)) := ⟨_, rfl⟩
  rw [← hW2] at hL
  have hb2 : Below w.heap.size w W2 := by rw [hW2]; exact belowTrans hbW (belowAlloc _ _)
  have hzW : W.heap[w.heap.size]? = some (.cells #[.pointer p] 65 (0, 0)) := by rw [hW]; exact heap_alloc_new _ _
  have hz : W2.heap[w.heap.size]? = some (.cells #[.pointer p] 65 (0, 0)) := by rw [hW2]; exact upb (belowAlloc _ _) hzW
  have hsz : w.heap.size + 2 = W2.heap.size := by rw [hW2, hW]; simp
  have kW := cell_of_one hzW
  have Hz := Lib.hid hz
  have Hb2 := Lib.hid hb2
  have HW := Lib.hid hW
  have Hsz := Lib.hid hsz
  have Hin := Lib.hid h
  have l0 : w.heap.size + 2 ≤ W2.heap.size := by omega
  clear hz hb2 hW hW2 hbW hzW h hsz
  obtain ⟨i0, hi, hz0, hz1, hz2⟩ := info_parts infoInt
  have Hi := Lib.hid (And.intro hi (And.intro hz0 (And.intro hz1 hz2)))
  clear hi hz0 hz1 hz2
  obtain ⟨n, hnt⟩ : ∃ n, n = t.size := ⟨_, rfl⟩
  rw [← hnt] at hL hn
  have Hn := Lib.hid hnt
  clear hnt
  go_enter Try.func45, Try.ntmps45
  go_wp2_with fail
  rw [← HW.out]
  go_wp2_with fail
  refine hL.mono ?_
  rintro e w2 ⟨rfl, rfl⟩
  go_wp2_with fail
  go_loopw [3, 9] (fun v i wr => ∃ k : Nat, k ≤ n ∧ i = .int .i64 k ∧ Hid (wr.ownsRow (w.heap.size + 1) 3 1 v k (((ints t).take k).map (Value.int .i64))) ∧ Hid (Below w.heap.size w wr) ∧ w.heap.size + 1 ≤ wr.heap.size ∧ Hid (wr.heap[w.heap.size]? = some (.cells #[.pointer p] 65 (0, 0)))) (fun _ i _ => n - (intOf i).toNat)
  case atStart => exact ⟨0, Nat.zero_le _, rfl, Lib.hid (World.ownsRow_nil _ _ _ _), Hb2, by omega, Hz⟩
  case round =>
    obtain ⟨k, hk, rfl, Ho, Hb, hs, Hz1⟩ := hrel
    by_cases hlt : k < n
    · have kz := cell_of_one Hz1.out
      have hA := At_any B _ p t k (Hin.out.up Hb.out) (by rw [← Hn.out]; exact hlt) (by rw [← Hn.out]; exact hn)
      have HA := Lib.hid hA
      clear hA
      have d0 : (0 : Int) ≤ (k : Int) := by omega
      have d1 : (k : Int) < (n : Int) := by omega
      go_wp2_with fail
      refine HA.out.mono ?_
      rintro e w3 ⟨rfl, hb3⟩
      have hz3 := upb hb3 Hz1.out
      have Ho3 := Lib.hid (rowUp Ho.out hb3)
      have Hb03 := Lib.hid (belowTrans Hb.out hb3)
      have hs3 : w.heap.size + 1 ≤ w3.heap.size := Nat.le_trans hs hb3.size
      have Hz3 := Lib.hid hz3
      have hk8 : k < 17592186044416 := by omega
      clear hb3 hz3 kz
      go_wp2_with (at_builtin; obtain ⟨hi, hz0, hz1, hz2⟩ := Hi.out; refine wpList_append_own _ rfl (.tmp 18) (.tmp 20) 22 rfl (w.heap.size + 1) 3 i0 (.int .i64 0) 1 8 Try.underlying22 hi hz0 hz1 hz2 rfl (by decide) _ k _ rfl (Ho3.out.alloc _) ⟨w3.heap.size, 0, none⟩ 1 1 [.int .i64 ((ints t).getD k 0)] rfl rfl (cell_one_new _ _ _) (by simp [Value.oneCell']) (by unfold maxLen; omega) (by omega) (by simp; omega) ?_; intro v' w4 hown' hgrow hnil; clear hnil hi hz0 hz1 hz2)
      have hgb := Below.grown (belowTrans Hb03.out (belowAlloc _ _)) hgrow (by simp; omega) (fun b hb => by have h := (Ho3.out.lt b hb).1; omega)
      have hz4 : w4.heap[w.heap.size]? = some (.cells #[.pointer p] 65 (0, 0)) := by
        refine (hgrow.block w.heap.size (by simp; omega) (fun e => ?_)).trans (upb (belowAlloc _ _) Hz3.out)
        have h := (Ho3.out.lt _ e.symm).1
        omega
      have Hz4 := Lib.hid hz4
      have Hgb := Lib.hid hgb
      have hs4 : w.heap.size + 1 ≤ w4.heap.size := by have h := hgrow.size; simp at h; omega
      have Ho4 := Lib.hid hown'
      clear hz4 hgb hgrow hown'
      go_wp2_with fail
      refine ⟨⟨k + 1, by omega, by go_num, ?_, Hgb, hs4, Hz4⟩, by simp [intOf]; omega⟩
      rw [take_more (ints t) k (by rw [ints_length, ← Hn.out]; exact hlt)]
      exact Ho4
    · have hkn : k = n := by omega
      have Ho' : Hid (OwnI 3 wr w.heap.size u3 (ints t)) := Lib.hid (by
        have h := Ho.out
        rw [hkn, List.take_of_length_le (by rw [ints_length, ← Hn.out]; omega)] at h
        rw [OwnI, ints_length, ← Hn.out]
        exact ownsRow_lower h (by omega))
      clear hkn Ho
      go_wp2_with fail
      go_ret
      exact RetI.mk Ho'.out Hb.out
end Go.Proofs.Ytcjhbpnmkahkeaa.wbt
