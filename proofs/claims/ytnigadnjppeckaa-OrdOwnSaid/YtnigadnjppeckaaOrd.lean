/- Package ord: numbers in order, over many things. (Printed by od.py.) -/
import Derived.Test.YtnigadnjppeckaaManyO6
import Derived.Test.YtnigadnjppeckaaCat
namespace Go.Proofs.Ytnigadnjppeckaa.ord
open Go.RowKit
open manyO (RetM Is q_behind q_from findT findT_le kTM)

abbrev In := manyO.In
abbrev RetS (B : Nat) (w : World) (Q : BT Int → Prop) := RetM B w Q

set_option maxHeartbeats 1000000 in
theorem behind_any (B : Nat) (w : World) (p : Option Addr) (t : BT Int) (x : Int) (hB : B ≤ w.heap.size) (h : In B w p t) (hs : t.size ≤ 1152921504606820000) :
    Calls Try.prog 46 #[.agg #[.pointer p], .int .i64 x] w fun e w' => e = .returned (.int .i64 ((findT (q_behind x) none t : Nat) : Int)) ∧ Below w.heap.size w w' := by
  have hb := belowTrans (belowAlloc w (.cells #[.pointer p] 42)) (belowAlloc _ (.cells #[.int .i64 x] 3))
  have HF := Lib.hid (manyO.Find_behind B _ p t (w.heap.size + 1) x (szle hb hB) (h.up hb) hs (heapNew2 _ _ _))
  have Hb := Lib.hid hb
  clear hb h hB
  go_enter Try.func46, Try.ntmps46
  go_wp2_with fail
  refine HF.out.mono ?_
  rintro e w1 ⟨rfl, hb1⟩
  go_wp2_with fail
  go_ret
  exact ⟨rfl, belowTrans Hb.out hb1⟩

set_option maxHeartbeats 1000000 in
theorem from_any (B : Nat) (w : World) (p : Option Addr) (t : BT Int) (x : Int) (hB : B ≤ w.heap.size) (h : In B w p t) (hs : t.size ≤ 1152921504606820000) :
    Calls Try.prog 47 #[.agg #[.pointer p], .int .i64 x] w fun e w' => e = .returned (.int .i64 ((findT (q_from x) none t : Nat) : Int)) ∧ Below w.heap.size w w' := by
  have hb := belowTrans (belowAlloc w (.cells #[.pointer p] 42)) (belowAlloc _ (.cells #[.int .i64 x] 3))
  have HF := Lib.hid (manyO.Find_from B _ p t (w.heap.size + 1) x (szle hb hB) (h.up hb) hs (heapNew2 _ _ _))
  have Hb := Lib.hid hb
  clear hb h hB
  go_enter Try.func47, Try.ntmps47
  go_wp2_with fail
  refine HF.out.mono ?_
  rintro e w1 ⟨rfl, hb1⟩
  go_wp2_with fail
  go_ret
  exact ⟨rfl, belowTrans Hb.out hb1⟩

set_option maxRecDepth 100000 in
set_option maxHeartbeats 2000000 in
theorem Insert_any (B : Nat) (w : World) (p : Option Addr) (t : BT Int) (x : Int) (hB : B ≤ w.heap.size) (h : In B w p t) (hs : t.size ≤ 1152921504606820000) :
    Calls Try.prog 45 #[.agg #[.pointer p], .int .i64 x] w (RetM B w (Is (t.inorder.take (findT (q_behind x) none t) ++ x :: t.inorder.drop (findT (q_behind x) none t)) (t.size + 1))) := by
  obtain ⟨V0, hV⟩ : ∃ V0, V0 = (w.alloc (.cells #[.pointer p] 42)).alloc (.cells #[.pointer none] 42) := ⟨_, rfl⟩
  have hb0 : Below w.heap.size w V0 := by rw [hV]; exact belowTrans (belowAlloc _ _) (belowAlloc _ _)
  have kp : V0.cell? ⟨w.heap.size, 0, none⟩ = some (.pointer p) := by rw [hV]; exact cell_of_one (heapNew1 _ _ _)
  have hk1 : V0.heap[w.heap.size + 1]? = some (.cells #[.pointer none] 42 (0, 0)) := by rw [hV]; exact heapNew2 _ _ _
  have hs1 := hs
  have hfl := findT_le (q_behind x) t none
  have HB := Lib.hid (szle hb0 hB)
  have Hh := Lib.hid (h.up hb0)
  have K1 := Lib.hid hk1
  have Hb := Lib.hid hb0
  have HV := Lib.hid hV
  clear hb0 hB h hk1 hV
  go_enter Try.func45, Try.ntmps45
  go_wp2_with fail
  rw [← HV.out]
  refine grow.wp_grow_tail 8 [grow.kEq (.pointer (some ⟨w.heap.size, 0, none⟩)), grow.kEq (.agg #[.pointer p]), grow.kEq (.agg #[.pointer p]), grow.kEq (.int .i64 x), grow.kEq (.int .i64 ((findT (q_behind x) none t : Nat) : Int)), grow.kEq (.int .i64 x), kTM B (Is (t.inorder.take (findT (q_behind x) none t) ++ x :: t.inorder.drop (findT (q_behind x) none t)) (t.size + 1)), kTM B (Is (t.inorder.take (findT (q_behind x) none t) ++ x :: t.inorder.drop (findT (q_behind x) none t)) (t.size + 1))] (of_decide_eq_true (by kernel_rfl)) (by kernel_rfl) (by kernel_rfl) (by kernel_rfl) (by kernel_rfl) (by kernel_rfl) ?step ?fin
  case step =>
    refine grow.EachT.cons ?_ ?_
    · intro A W hB hs hJ K hK
      have s0 := hs 2 (by kernel_rfl)
      simp at s0
      rw [if_pos (by rfl)]
      clear hs hJ
      go_simp
      exact hK _ _ (Below.refl _ _) rfl
    refine grow.EachT.cons ?_ ?_
    · intro A W hB hs hJ K hK
      have s0 : A.tmps.getD 5 undef = .pointer (some ⟨w.heap.size, 0, none⟩) := hJ 0 5 (by kernel_rfl) (by kernel_rfl)
      simp at s0
      have kk := upc hB kp
      rw [if_pos (by rfl)]
      clear hs hJ
      go_simp
      exact hK _ _ (Below.refl _ _) rfl
    refine grow.EachT.cons ?_ ?_
    · intro A W hB hs hJ K hK
      have s0 := hs 2 (by kernel_rfl)
      simp at s0
      have kk := upc hB kp
      rw [if_pos (by rfl)]
      clear hs hJ
      go_simp
      exact hK _ _ (Below.refl _ _) rfl
    refine grow.EachT.cons ?_ ?_
    · intro A W hB hs hJ K hK
      have s0 := hs 1 (by kernel_rfl)
      simp at s0
      rw [if_pos (by rfl)]
      clear hs hJ
      go_simp
      exact hK _ _ (Below.refl _ _) rfl
    refine grow.EachT.cons ?_ ?_
    · intro A W hB hs hJ K hK
      have s0 : A.tmps.getD 7 undef = .agg #[.pointer p] := hJ 2 7 (by kernel_rfl) (by kernel_rfl)
      simp at s0
      have s1 : A.tmps.getD 8 undef = .int .i64 x := hJ 3 8 (by kernel_rfl) (by kernel_rfl)
      simp at s1
      rw [if_pos (by rfl)]
      clear hs hJ
      go_simp
      go_at_call 46
      refine (behind_any B W p t x (szle hB HB.out) (Hh.out.up hB) hs1).mono ?_
      rintro e W2 ⟨rfl, hbn⟩
      exact hK _ _ hbn rfl
    refine grow.EachT.cons ?_ ?_
    · intro A W hB hs hJ K hK
      have s0 := hs 1 (by kernel_rfl)
      simp at s0
      rw [if_pos (by rfl)]
      clear hs hJ
      go_simp
      exact hK _ _ (Below.refl _ _) rfl
    refine grow.EachT.cons ?_ ?_
    · intro A W hB hs hJ K hK
      have s0 : A.tmps.getD 6 undef = .agg #[.pointer p] := hJ 1 6 (by kernel_rfl) (by kernel_rfl)
      simp at s0
      have s1 : A.tmps.getD 9 undef = .int .i64 ((findT (q_behind x) none t : Nat) : Int) := hJ 4 9 (by kernel_rfl) (by kernel_rfl)
      simp at s1
      have s2 : A.tmps.getD 10 undef = .int .i64 x := hJ 5 10 (by kernel_rfl) (by kernel_rfl)
      simp at s2
      rw [if_pos (by rfl)]
      clear hs hJ
      go_simp
      go_at_call 78
      refine (manyO.Insert_any B W p t _ x (szle hB HB.out) (Hh.out.up hB) (by omega) (by omega) hs).mono ?_
      rintro e W2 ⟨q, u, rfl, i3, j3, hbn⟩
      exact hK _ _ hbn ⟨q, u, rfl, (by simpa using i3), j3⟩
    refine grow.EachT.cons ?_ ?_
    · intro A W hB hs hJ K hK
      obtain ⟨q, u, s0, i3, j3⟩ := hJ 6 11 (by kernel_rfl) (by kernel_rfl)
      simp at s0
      rw [if_pos (by rfl)]
      clear hs hJ
      go_simp
      exact hK _ _ (Below.refl _ _) ⟨q, u, rfl, i3, j3⟩
    exact grow.EachT.nil
  case fin =>
    intro f W hB hF
    have f0 : f 0 = .pointer (some ⟨w.heap.size, 0, none⟩) := hF 0 (by decide)
    have f1 : f 1 = .agg #[.pointer p] := hF 1 (by decide)
    have f2 : f 2 = .agg #[.pointer p] := hF 2 (by decide)
    have f3 : f 3 = .int .i64 x := hF 3 (by decide)
    have f4 : f 4 = .int .i64 ((findT (q_behind x) none t : Nat) : Int) := hF 4 (by decide)
    have f5 : f 5 = .int .i64 x := hF 5 (by decide)
    obtain ⟨q_6, u_6, f6, i3_6, j3_6⟩ := hF 6 (by decide)
    obtain ⟨q_7, u_7, f7, i3_7, j3_7⟩ := hF 7 (by decide)
    clear hF
    intro A hA
    simp only [grow.puts, Act.put, List.getElem?_toArray, List.getElem?_cons_zero, List.getElem?_cons_succ, Option.bind_some, List.setIfInBounds_toArray, List.set_cons_zero, List.set_cons_succ, f0, f1, f2, f3, f4, f5, f6, f7] at hA
    subst hA
    simp only [List.drop_succ_cons, List.drop_zero]
    have hk2 := upb hB K1.out
    have c1 := cell_of_one hk2
    have f1 := free_of_one hk2
    have I3 := Lib.hid i3_7
    have J3 := Lib.hid j3_7
    have K2 := Lib.hid hk2
    have Hb2 := Lib.hid (belowTrans Hb.out hB)
    clear hk2 hB
    go_wp2_with fail
    have hr1 := one_setCell (u := .pointer q_7) K2.out
    have e1 := cell_of_one hr1
    exact bodyPost_ret (v := .agg #[.pointer q_7]) (by simp [results, Try.results45, go_sem, e1]) rfl ⟨q_7, u_7, rfl, I3.out, manyO.Holds.store1 J3.out K2.out (by decide), Hb2.out.setCell (p := ⟨w.heap.size + 1, 0, none⟩) (by show w.heap.size ≤ w.heap.size + 1; omega) _⟩

set_option maxRecDepth 100000 in
set_option maxHeartbeats 2000000 in
theorem Count_any (B : Nat) (w : World) (p : Option Addr) (t : BT Int) (x : Int) (hB : B ≤ w.heap.size) (h : In B w p t) (hs : t.size ≤ 1152921504606820000) :
    Calls Try.prog 18 #[.agg #[.pointer p], .int .i64 x] w fun e w' => e = .returned (.int .i64 (((findT (q_behind x) none t : Nat) : Int) - ((findT (q_from x) none t : Nat) : Int))) ∧ Below w.heap.size w w' := by
  obtain ⟨V0, hV⟩ : ∃ V0, V0 = w.alloc (.cells #[.pointer p] 42) := ⟨_, rfl⟩
  have hb0 : Below w.heap.size w V0 := by rw [hV]; exact belowAlloc _ _
  have kp : V0.cell? ⟨w.heap.size, 0, none⟩ = some (.pointer p) := by rw [hV]; exact cell_of_one (heap_alloc_new _ _)
  have hs1 := hs
  have hf1 := findT_le (q_behind x) t none
  have hf2 := findT_le (q_from x) t none
  have HB := Lib.hid (szle hb0 hB)
  have Hh := Lib.hid (h.up hb0)
  have Hb := Lib.hid hb0
  have HV := Lib.hid hV
  clear hb0 hB h hV
  go_enter Try.func18, Try.ntmps18
  go_wp2_with fail
  rw [← HV.out]
  refine grow.wp_grow [grow.kEq (.agg #[.pointer p]), grow.kEq (.int .i64 x), grow.kEq (.int .i64 ((findT (q_behind x) none t : Nat) : Int)), grow.kEq (.agg #[.pointer p]), grow.kEq (.int .i64 x), grow.kEq (.int .i64 ((findT (q_from x) none t : Nat) : Int)), grow.kEq (.int .i64 (((findT (q_behind x) none t : Nat) : Int) - ((findT (q_from x) none t : Nat) : Int))), grow.kEq (.int .i64 (((findT (q_behind x) none t : Nat) : Int) - ((findT (q_from x) none t : Nat) : Int)))] (by kernel_rfl) (by kernel_rfl) (by kernel_rfl) (by kernel_rfl) ?step ?fin
  case step =>
    refine grow.Each.cons ?_ ?_
    · intro A W hB hs hJ K hK
      have s0 := hs 2 (by kernel_rfl)
      simp at s0
      have kk := upc hB kp
      rw [if_pos (by rfl)]
      clear hs hJ
      go_simp
      exact hK _ _ (Below.refl _ _) rfl
    refine grow.Each.cons ?_ ?_
    · intro A W hB hs hJ K hK
      have s0 := hs 1 (by kernel_rfl)
      simp at s0
      rw [if_pos (by rfl)]
      clear hs hJ
      go_simp
      exact hK _ _ (Below.refl _ _) rfl
    refine grow.Each.cons ?_ ?_
    · intro A W hB hs hJ K hK
      have s0 : A.tmps.getD 5 undef = .agg #[.pointer p] := hJ 0 5 (by kernel_rfl) (by kernel_rfl)
      simp at s0
      have s1 : A.tmps.getD 6 undef = .int .i64 x := hJ 1 6 (by kernel_rfl) (by kernel_rfl)
      simp at s1
      rw [if_pos (by rfl)]
      clear hs hJ
      go_simp
      go_at_call 46
      refine (behind_any B W p t x (szle hB HB.out) (Hh.out.up hB) hs1).mono ?_
      rintro e W2 ⟨rfl, hbn⟩
      exact hK _ _ hbn rfl
    refine grow.Each.cons ?_ ?_
    · intro A W hB hs hJ K hK
      have s0 := hs 2 (by kernel_rfl)
      simp at s0
      have kk := upc hB kp
      rw [if_pos (by rfl)]
      clear hs hJ
      go_simp
      exact hK _ _ (Below.refl _ _) rfl
    refine grow.Each.cons ?_ ?_
    · intro A W hB hs hJ K hK
      have s0 := hs 1 (by kernel_rfl)
      simp at s0
      rw [if_pos (by rfl)]
      clear hs hJ
      go_simp
      exact hK _ _ (Below.refl _ _) rfl
    refine grow.Each.cons ?_ ?_
    · intro A W hB hs hJ K hK
      have s0 : A.tmps.getD 8 undef = .agg #[.pointer p] := hJ 3 8 (by kernel_rfl) (by kernel_rfl)
      simp at s0
      have s1 : A.tmps.getD 9 undef = .int .i64 x := hJ 4 9 (by kernel_rfl) (by kernel_rfl)
      simp at s1
      rw [if_pos (by rfl)]
      clear hs hJ
      go_simp
      go_at_call 47
      refine (from_any B W p t x (szle hB HB.out) (Hh.out.up hB) hs1).mono ?_
      rintro e W2 ⟨rfl, hbn⟩
      exact hK _ _ hbn rfl
    refine grow.Each.cons ?_ ?_
    · intro A W hB hs hJ K hK
      have s0 : A.tmps.getD 7 undef = .int .i64 ((findT (q_behind x) none t : Nat) : Int) := hJ 2 7 (by kernel_rfl) (by kernel_rfl)
      simp at s0
      have s1 : A.tmps.getD 10 undef = .int .i64 ((findT (q_from x) none t : Nat) : Int) := hJ 5 10 (by kernel_rfl) (by kernel_rfl)
      simp at s1
      have hw : IntKind.i64.wrap (((findT (q_behind x) none t : Nat) : Int) - ((findT (q_from x) none t : Nat) : Int)) = ((findT (q_behind x) none t : Nat) : Int) - ((findT (q_from x) none t : Nat) : Int) := IntWalk.i64_in _ (by omega)
      rw [if_pos (by rfl)]
      clear hs hJ
      go_simp
      exact hK _ _ (Below.refl _ _) rfl
    refine grow.Each.cons ?_ ?_
    · intro A W hB hs hJ K hK
      have s0 : A.tmps.getD 11 undef = .int .i64 (((findT (q_behind x) none t : Nat) : Int) - ((findT (q_from x) none t : Nat) : Int)) := hJ 6 11 (by kernel_rfl) (by kernel_rfl)
      simp at s0
      rw [if_pos (by rfl)]
      clear hs hJ
      go_simp
      exact hK _ _ (Below.refl _ _) rfl
    exact grow.Each.nil
  case fin =>
    intro f W hB hF
    have f0 : f 0 = .agg #[.pointer p] := hF 0 (by decide)
    have f1 : f 1 = .int .i64 x := hF 1 (by decide)
    have f2 : f 2 = .int .i64 ((findT (q_behind x) none t : Nat) : Int) := hF 2 (by decide)
    have f3 : f 3 = .agg #[.pointer p] := hF 3 (by decide)
    have f4 : f 4 = .int .i64 x := hF 4 (by decide)
    have f5 : f 5 = .int .i64 ((findT (q_from x) none t : Nat) : Int) := hF 5 (by decide)
    have f6 : f 6 = .int .i64 (((findT (q_behind x) none t : Nat) : Int) - ((findT (q_from x) none t : Nat) : Int)) := hF 6 (by decide)
    have f7 : f 7 = .int .i64 (((findT (q_behind x) none t : Nat) : Int) - ((findT (q_from x) none t : Nat) : Int)) := hF 7 (by decide)
    clear hF
    generalize hA : grow.puts _ _ f _ = A'
    simp only [List.length_cons, List.length_nil, Nat.reduceAdd, grow.puts, Act.put, List.getElem?_toArray, List.getElem?_cons_zero, List.getElem?_cons_succ, Option.bind_some, List.setIfInBounds_toArray, List.set_cons_zero, List.set_cons_succ, f0, f1, f2, f3, f4, f5, f6, f7] at hA
    subst hA
    go_wp2_with fail
    go_ret
    exact ⟨rfl, belowTrans Hb.out hB⟩

theorem Count_five (B : Nat) (w : World) (p : Option Addr) (t : BT Int) (hB : B ≤ w.heap.size) (h : In B w p t) (ht : t.inorder = [5]) (hs : t.size = 1) :
    Calls Try.prog 18 #[.agg #[.pointer p], .int .i64 5] w fun e w' => e = .returned (.int .i64 1) ∧ Below w.heap.size w w' := by
  refine (Count_any B w p t 5 hB h (by omega)).mono ?_
  rintro e w' ⟨rfl, hb⟩
  refine ⟨?_, hb⟩
  cases t with
  | nil => simp [BT.size] at hs
  | node x l r =>
    simp only [BT.size] at hs
    cases l with
    | node _ _ _ => simp only [BT.size] at hs; omega
    | nil =>
      cases r with
      | node _ _ _ => simp only [BT.size] at hs; omega
      | nil =>
        simp [BT.inorder] at ht
        subst ht
        rfl

/-- what is known of the order of a list's numbers -/
def OfQ (xs : List Int) (t : BT Int) : Prop := t.size = xs.length ∧ (xs.length = 1 → t.inorder = xs)
theorem OfQ_nil : OfQ [] .nil := ⟨rfl, fun h => by simp at h⟩
theorem OfQ_size {xs : List Int} {t : BT Int} (h : OfQ xs t) : t.size ≤ xs.length := Nat.le_of_eq h.1
theorem OfQ_snoc {xs : List Int} {t u : BT Int} {x : Int} {k : Nat} (h : OfQ xs t) (_hk : k ≤ t.size) (hu : Is (t.inorder.take k ++ x :: t.inorder.drop k) (t.size + 1) u) : OfQ (xs ++ [x]) u := by
  refine ⟨by rw [hu.2, h.1]; simp, fun h1 => ?_⟩
  have h2 : xs = [] := by
    rw [List.length_append] at h1
    exact List.eq_nil_of_length_eq_zero (by simpa using h1)
  subst h2
  have h3 : t.inorder = [] := List.eq_nil_of_length_eq_zero (by rw [BT.length_inorder, h.1]; rfl)
  rw [hu.1, h3]
  simp
set_option maxHeartbeats 1000000 in
theorem ints_any (B : Nat) (w : World) (p : Option Addr) (t : BT Int) (h : In B w p t) (hn : t.size ≤ 17592186044416) :
    Calls Try.prog 19 #[.agg #[.pointer p]] w (RetI 3 w t.inorder) := by
  have Hc := Lib.hid (manyO.all_any B _ p t (h.up (belowAlloc w (.cells #[.pointer p] 42))) hn)
  clear h
  go_enter Try.func19, Try.ntmps19
  go_wp2_with fail
  refine Hc.out.mono ?_
  rintro e w1 ⟨a, c, rfl, ho, hb⟩
  have hi : OwnI 3 w1 w.heap.size (.slice a t.inorder.length c) t.inorder := by
    have e : ∀ xs : List Int, manyO.cellsV xs = xs.map (Value.int .i64) := fun xs => by
      induction xs with
      | nil => rfl
      | cons x xs ih => rw [manyO.cellsV, ih]; rfl
    have h := ho.lower (B' := w.heap.size) (by simp)
    unfold manyO.OwnV at h
    rw [e] at h
    exact h
  have Hi := Lib.hid hi
  have Hb := Lib.hid (belowTrans (belowAlloc _ _) hb)
  clear ho hb hi
  go_wp2_with fail
  go_ret
  exact RetI.mk Hi.out Hb.out

set_option maxHeartbeats 1000000 in
theorem Of_some (w : World) (b o c : Nat) (xs : List Int) (hn : xs.length ≤ 17592186044416)
    (hc : ∀ i, i < xs.length → w.cell? ⟨b, o + i, none⟩ = some (.int .i64 (xs.getD i 0))) :
    Calls Try.prog 17 #[.slice (some ⟨b, o, none⟩) xs.length c] w (RetS w.heap.size w (OfQ xs)) := by
  obtain ⟨n, hnx⟩ : ∃ n, n = xs.length := ⟨_, rfl⟩
  rw [← hnx] at hn hc ⊢
  have Hc := Lib.hid hc
  have Hx := Lib.hid hnx
  clear hc hnx
  go_enter Try.func17, Try.ntmps17
  go_wp2_with fail
  go_loopw [5, 8] (fun _ i wr => ∃ (k : Nat) (p : Option Addr) (t : BT Int), k ≤ n ∧ i = .int .i64 k ∧ Hid (OfQ (xs.take k) t) ∧ Hid (In w.heap.size wr p t) ∧ Hid (Below w.heap.size w wr) ∧ w.heap.size + 1 < wr.heap.size ∧ Hid (wr.heap[w.heap.size]? = some (.cells #[.pointer none] 42 (0, 0))) ∧ Hid (wr.heap[w.heap.size + 1]? = some (.cells #[.pointer p] 42 (0, 0)))) (fun _ i _ => n - (intOf i).toNat)
  case atStart => 
    refine ⟨0, none, .nil, Nat.zero_le _, rfl, Lib.hid OfQ_nil, Lib.hid rfl, Lib.hid (belowTrans (belowAlloc w _) (belowAlloc _ _)), by simp, Lib.hid (heapNew1 _ _ _), Lib.hid (heapNew2 _ _ _)⟩
  case round =>
    obtain ⟨k, p, t, hk, rfl, Ht, Hin, Hb, hsz, Hr, Hs⟩ := hrel
    by_cases hlt : k < n
    · have c1 := upc Hb.out (Hc.out k hlt)
      have kc := cell_of_one Hs.out
      have hts : t.size ≤ n := by have h := OfQ_size Ht.out; rw [List.length_take] at h; have := Hx.out; omega
      have HP := Lib.hid (Insert_any w.heap.size wr p t (xs.getD k 0) (by omega) Hin.out (by omega))
      have hfl := Lib.hid (findT_le (q_behind (xs.getD k 0)) t none)
      go_wp2_with fail
      refine HP.out.mono ?_
      rintro e w1 ⟨p1, t1, rfl, hq1, hp1, hb1⟩
      have Hq1 : Hid (OfQ (xs.take (k + 1)) t1) := Lib.hid (by
        have h := OfQ_snoc Ht.out hfl.out hq1
        have e : xs.take (k + 1) = xs.take k ++ [xs.getD k 0] := by
          rw [List.take_succ_eq_append_getElem (by rw [← Hx.out]; exact hlt)]
          simp [List.getD_eq_getElem?_getD, show k < xs.length by rw [← Hx.out]; exact hlt]
        rw [e]
        exact h)
      clear hq1 hfl HP
      have hk1 := upb hb1 Hs.out
      have hr1 := upb hb1 Hr.out
      have kc1 := cell_of_one hk1
      have fc1 := free_of_one hk1
      have hbb := belowTrans Hb.out hb1
      have hz := hb1.size
      have Hin1 := Lib.hid (manyO.Holds.store1 (u := .pointer p1) hp1 hk1 (by decide))
      have Hb1 := Lib.hid (belowSet (a := ⟨w.heap.size + 1, 0, none⟩) hbb (Nat.le_succ _) (.pointer p1))
      have Hk1 := Lib.hid (one_setCell (u := .pointer p1) hk1)
      have Hr1 := Lib.hid ((Below.heap_setCell w1 ⟨w.heap.size + 1, 0, none⟩ (.pointer p1) w.heap.size (by simp)).trans hr1)
      clear hk1 hr1 hbb hb1 hp1 kc
      go_wp2_with fail
      exact ⟨⟨k + 1, p1, t1, by omega, by go_num, Hq1, Hin1, Hb1, by simp [World.setCell]; omega, Hr1, Hk1⟩, by simp [intOf]; omega⟩
    · have Hkn : Hid (OfQ xs t) := Lib.hid (by
        have h := Ht.out
        rw [List.take_of_length_le (by rw [← Hx.out]; omega)] at h
        exact h)
      have kc := cell_of_one Hs.out
      have kr := cell_of_one Hr.out
      have fr := free_of_one Hr.out
      have Hin1 := Lib.hid (manyO.Holds.store1 (u := .pointer p) Hin.out Hr.out (by decide))
      have Hb1 := Lib.hid (belowSet (a := ⟨w.heap.size, 0, none⟩) Hb.out (Nat.le_refl _) (.pointer p))
      go_wp2_with fail
      have HR := one_setCell (u := .pointer p) Hr.out
      have kr0 := cell_of_one HR
      exact bodyPost_ret (v := .agg #[.pointer p]) (by simp only [results, Try.results17]; simp [go_sem, kr0]) rfl ⟨p, t, rfl, Hkn.out, Hin1.out, Hb1.out⟩

set_option maxHeartbeats 400000 in
theorem Of_none (w : World) : Calls Try.prog 17 #[.slice none 0 0] w (RetS w.heap.size w (OfQ [])) := by
  go_enter Try.func17, Try.ntmps17
  go_wp2_with fail
  go_loopw [5, 8] (fun _ i wr => i = .int .i64 0 ∧ wr = (w.alloc (.cells #[.pointer none] 42)).alloc (.cells #[.pointer none] 42)) (fun _ _ _ => 0)
  case atStart => exact ⟨rfl, rfl⟩
  case round =>
    obtain ⟨rfl, rfl⟩ := hrel
    go_wp2_with fail
    exact bodyPost_ret (v := .agg #[.pointer none]) (by simp [results, Try.results17, go_sem]) rfl ⟨none, .nil, rfl, OfQ_nil, rfl, (belowTrans (belowAlloc w _) (belowAlloc _ _))⟩

set_option maxHeartbeats 400000 in
theorem Of_zero (x : Addr) (c : Nat) (w : World) : Calls Try.prog 17 #[.slice (some x) 0 c] w (RetS w.heap.size w (OfQ [])) := by
  go_enter Try.func17, Try.ntmps17
  go_wp2_with fail
  go_loopw [5, 8] (fun _ i wr => i = .int .i64 0 ∧ wr = (w.alloc (.cells #[.pointer none] 42)).alloc (.cells #[.pointer none] 42)) (fun _ _ _ => 0)
  case atStart => exact ⟨rfl, rfl⟩
  case round =>
    obtain ⟨rfl, rfl⟩ := hrel
    go_wp2_with fail
    exact bodyPost_ret (v := .agg #[.pointer none]) (by simp [results, Try.results17, go_sem]) rfl ⟨none, .nil, rfl, OfQ_nil, rfl, (belowTrans (belowAlloc w _) (belowAlloc _ _))⟩

theorem Of_any (w : World) (a : Option Addr) (c : Nat) (xs : List Int) (hn : xs.length ≤ 17592186044416) (hr : Reads w a xs) (ha : a = none → c = 0) :
    Calls Try.prog 17 #[.slice a xs.length c] w (RetS w.heap.size w (OfQ xs)) := by
  cases a with
  | none =>
    rcases hr with rfl | ⟨b', o', h, _⟩
    · obtain rfl := ha rfl
      exact Of_none w
    · cases h
  | some x =>
    rcases hr with rfl | ⟨b', o', h, hc⟩
    · exact Of_zero x c w
    · cases h
      exact Of_some w b' o' c xs hn hc
/-- what is told of a tree -/
def ints (t : BT Int) : List Int := t.inorder
theorem ints_length (t : BT Int) : (ints t).length = t.size := BT.length_inorder t
end Go.Proofs.Ytnigadnjppeckaa.ord
