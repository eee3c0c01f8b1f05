/- Package ord, plain: where a number goes in among numbers that rise; what is merged rises. No function of the program is named here. -/
import Derived.Test.YtnigadnjppeckaaManyO6
import Derived.Test.YtnigadnjppeckaaCat
namespace Go.Proofs.Ytnigadnjppeckaa.ord
open Go
open manyO (join one sm sumOf sumOf_append sumOf_one join_none q_behind findT)

/-- how many are not above x -/
def upto (x : Int) : List Int → Nat
  | [] => 0
  | y :: l => if y ≤ x then 1 + upto x l else 0
theorem upto_le (x : Int) : ∀ l : List Int, upto x l ≤ l.length
  | [] => Nat.le_refl _
  | y :: l => by
    have := upto_le x l
    simp only [upto, List.length_cons]
    split <;> omega
theorem upto_app (x : Int) : ∀ a b : List Int, (∀ y ∈ a, y ≤ x) → upto x (a ++ b) = a.length + upto x b
  | [], b, _ => by simp
  | y :: a, b, h => by
    have e := upto_app x a b fun z hz => h z (List.mem_cons_of_mem _ hz)
    simp only [List.cons_append, upto, List.length_cons]
    rw [if_pos (h y List.mem_cons_self), e]
    omega
theorem upto_stop (x : Int) : ∀ (a : List Int) (y : Int) (b : List Int), x < y → upto x (a ++ y :: b) = upto x a
  | [], y, b, h => by simp only [List.nil_append, upto]; rw [if_neg (by omega)]
  | z :: a, y, b, h => by
    have e := upto_stop x a y b h
    simp only [List.cons_append, upto]
    rw [e]
theorem take_upto (x : Int) : ∀ l : List Int, ∀ y ∈ l.take (upto x l), y ≤ x
  | [], y, h => by simp at h
  | z :: l, y, h => by
    simp only [upto] at h
    by_cases hz : z ≤ x
    · rw [if_pos hz, show 1 + upto x l = upto x l + 1 by omega, List.take_succ_cons] at h
      rcases List.mem_cons.1 h with rfl | h
      · exact hz
      · exact take_upto x l y h
    · rw [if_neg hz] at h
      simp at h
theorem drop_upto (x : Int) : ∀ l : List Int, l.Pairwise (· ≤ ·) → ∀ y ∈ l.drop (upto x l), x < y
  | [], _, y, h => by simp at h
  | z :: l, hp, y, h => by
    simp only [upto] at h
    by_cases hz : z ≤ x
    · rw [if_pos hz, show 1 + upto x l = upto x l + 1 by omega, List.drop_succ_cons] at h
      exact drop_upto x l (List.pairwise_cons.1 hp).2 y h
    · rw [if_neg hz, List.drop_zero] at h
      rcases List.mem_cons.1 h with rfl | h
      · omega
      · have := (List.pairwise_cons.1 hp).1 y h
        omega

/-- the last of some -/
theorem sumOf_mem : ∀ l : List Int, ∀ y, sumOf l = some y → y ∈ l
  | [], y, h => by simp [sumOf] at h
  | z :: l, y, h => by
    rw [show z :: l = [z] ++ l from rfl, sumOf_append] at h
    unfold join at h
    split at h
    · exact List.mem_cons_of_mem _ (sumOf_mem l y h)
    · rw [sumOf_one] at h
      cases h
      exact List.mem_cons_self
theorem sumOf_last : ∀ l : List Int, l.Pairwise (· ≤ ·) → ∀ y, sumOf l = some y → ∀ z ∈ l, z ≤ y
  | [], _, y, h, z, hz => by cases hz
  | a :: l, hp, y, h, z, hz => by
    rw [show a :: l = [a] ++ l from rfl, sumOf_append] at h
    have hp' := List.pairwise_cons.1 hp
    rcases List.mem_cons.1 hz with rfl | hz
    · unfold join at h
      split at h
      · exact hp'.1 y (sumOf_mem l y h)
      · rw [sumOf_one] at h
        cases h
        omega
    · unfold join at h
      split at h
      · exact sumOf_last l hp'.2 y h z hz
      · rename_i hn
        cases hs : sumOf l with
        | some w => rw [hs] at hn; simp at hn
        | none =>
          exfalso
          cases l with
          | nil => cases hz
          | cons b l =>
            rw [show b :: l = [b] ++ l from rfl, sumOf_append, sumOf_one] at hs
            unfold join at hs
            split at hs
            · rename_i h2; rw [hs] at h2; simp at h2
            · cases hs
theorem sumOf_none : ∀ l : List Int, sumOf l = none → l = []
  | [], _ => rfl
  | b :: l, hs => by
    exfalso
    rw [show b :: l = [b] ++ l from rfl, sumOf_append, sumOf_one] at hs
    unfold join at hs
    split at hs
    · rename_i h2; rw [hs] at h2; simp at h2
    · cases hs

/-- what Find tells of numbers that rise -/
theorem find_upto (x : Int) : ∀ (t : BT Int) (so : Option Int), t.inorder.Pairwise (· ≤ ·) → (∀ y, so = some y → y ≤ x) → findT (q_behind x) so t = upto x t.inorder
  | .nil, so, _, _ => rfl
  | .node v l r, so, hp, hso => by
    rw [BT.inorder] at hp ⊢
    obtain ⟨hl, hvr, hlr⟩ := List.pairwise_append.1 hp
    obtain ⟨hv, hr⟩ := List.pairwise_cons.1 hvr
    unfold findT
    cases hs : sm l with
    | none =>
      have e : l.inorder = [] := sumOf_none _ hs
      have hz : l.size = 0 := by rw [← BT.length_inorder, e]; rfl
      have q1 : q_behind x (join so none) = false := by
        unfold join
        cases so with
        | none => rfl
        | some y => have := hso y rfl; simp [q_behind]; omega
      rw [q1, e]
      simp only [List.nil_append, upto]
      have e2 : join (join so none) (one v) = some v := rfl
      rw [e2]
      by_cases hx : v ≤ x
      · have q2 : q_behind x (some v) = false := by simp [q_behind]; omega
        rw [q2, if_pos hx, find_upto x r (some v) hr (fun y h => by cases h; exact hx), hz]
        simp
      · have q2 : q_behind x (some v) = true := by simp [q_behind]; omega
        rw [q2, if_neg hx, hz]
        simp
    | some a =>
      have e1 : join so (some a) = some a := rfl
      rw [e1]
      have ha := sumOf_mem _ _ hs
      have hal := sumOf_last _ hl _ hs
      by_cases hxa : x < a
      · have q1 : q_behind x (some a) = true := by simp [q_behind]; omega
        rw [q1, if_pos rfl, find_upto x l so hl hso, upto_stop x _ v _ (by have := hlr a ha v List.mem_cons_self; omega)]
      · have q1 : q_behind x (some a) = false := by simp [q_behind]; omega
        have e2 : join (some a) (one v) = some v := rfl
        rw [q1, e2, upto_app x _ _ (fun y hy => by have := hal y hy; omega), BT.length_inorder]
        simp only [upto]
        by_cases hx : v ≤ x
        · have q2 : q_behind x (some v) = false := by simp [q_behind]; omega
          rw [q2, if_pos hx, find_upto x r (some v) hr (fun y h => by cases h; exact hx)]
          simp
          omega
        · have q2 : q_behind x (some v) = true := by simp [q_behind]; omega
          rw [q2, if_neg hx]
          simp
theorem find_none (x : Int) (t : BT Int) (h : t.inorder.Pairwise (· ≤ ·)) : findT (q_behind x) none t = upto x t.inorder := find_upto x t none h fun y h => by cases h

/-- one more goes in -/
theorem put_rise (x : Int) (l : List Int) (h : l.Pairwise (· ≤ ·)) : (l.take (upto x l) ++ x :: l.drop (upto x l)).Pairwise (· ≤ ·) := by
  have h1 := take_upto x l
  have h2 := drop_upto x l h
  refine List.pairwise_append.2 ⟨h.sublist (List.take_sublist _ _), List.pairwise_cons.2 ⟨fun y hy => by have := h2 y hy; omega, h.sublist (List.drop_sublist _ _)⟩, fun a ha b hb => ?_⟩
  have ha1 := h1 a ha
  rcases List.mem_cons.1 hb with rfl | hb
  · exact ha1
  · have := h2 b hb
    omega
theorem put_count (x : Int) (l : List Int) (k : Nat) (z : Int) : (l.take k ++ x :: l.drop k).count z = l.count z + (if x = z then 1 else 0) := by
  have e : l.count z = (l.take k).count z + (l.drop k).count z := by rw [← List.count_append, List.take_append_drop]
  rw [List.count_append, List.count_cons, e]
  simp only [beq_iff_eq]
  omega

/-- what holds while two are merged: of what has gone out, and of what is left of the two -/
structure MI (l : Int → Nat) (xa xo xp : List Int) : Prop where
  ra : xa.Pairwise (· ≤ ·)
  ro : xo.Pairwise (· ≤ ·)
  rp : xp.Pairwise (· ≤ ·)
  ao : ∀ u ∈ xa, ∀ v ∈ xo, u ≤ v
  ap : ∀ u ∈ xa, ∀ v ∈ xp, u ≤ v
  cn : ∀ z, xa.count z + xo.count z + xp.count z = l z
theorem MI.swap {l : Int → Nat} {xa xo xp : List Int} (h : MI l xa xo xp) : MI l xa xp xo :=
  ⟨h.ra, h.rp, h.ro, h.ap, h.ao, fun z => by have := h.cn z; omega⟩
theorem head_le {x : Int} {l : List Int} (h : (x :: l).Pairwise (· ≤ ·)) : ∀ v ∈ x :: l, x ≤ v := fun v hv => by
  rcases List.mem_cons.1 hv with rfl | hv
  · omega
  · exact (List.pairwise_cons.1 h).1 v hv
theorem MI.step {l : Int → Nat} {xa xo xp : List Int} {p0 : Int} {pt : List Int} (h : MI l xa xo xp) (e : xp = p0 :: pt) :
    MI l (xa ++ xo.take (upto p0 xo)) (xo.drop (upto p0 xo)) xp := by
  have h1 := take_upto p0 xo
  have h2 := drop_upto p0 xo h.ro
  have hto : ∀ u ∈ xo.take (upto p0 xo), u ∈ xo := fun u hu => List.mem_of_mem_take hu
  have htd : ∀ u ∈ xo.drop (upto p0 xo), u ∈ xo := fun u hu => List.mem_of_mem_drop hu
  refine ⟨List.pairwise_append.2 ⟨h.ra, h.ro.sublist (List.take_sublist _ _), fun u hu v hv => h.ao u hu v (hto v hv)⟩, h.ro.sublist (List.drop_sublist _ _), h.rp, fun u hu v hv => ?_, fun u hu v hv => ?_, fun z => ?_⟩
  · rcases List.mem_append.1 hu with hu | hu
    · exact h.ao u hu v (htd v hv)
    · have := h1 u hu
      have := h2 v hv
      omega
  · rcases List.mem_append.1 hu with hu | hu
    · exact h.ap u hu v hv
    · have := h1 u hu
      have := head_le (e ▸ h.rp) v (e ▸ hv)
      omega
  · have e2 : xo.count z = (xo.take (upto p0 xo)).count z + (xo.drop (upto p0 xo)).count z := by rw [← List.count_append, List.take_append_drop]
    have := h.cn z
    rw [List.count_append]
    omega
theorem upto_pos {p0 o0 : Int} {ot : List Int} (h : o0 ≤ p0) : 0 < upto p0 (o0 :: ot) := by
  simp only [upto]
  rw [if_pos h]
  omega
theorem MI.fin {l : Int → Nat} {xa xo xp : List Int} (h : MI l xa xo xp) (he : xo = [] ∨ xp = []) : (xa ++ xo ++ xp).Pairwise (· ≤ ·) ∧ ∀ z, (xa ++ xo ++ xp).count z = l z := by
  refine ⟨?_, fun z => by rw [List.count_append, List.count_append]; exact h.cn z⟩
  rcases he with rfl | rfl
  · rw [List.append_nil]
    exact List.pairwise_append.2 ⟨h.ra, h.rp, h.ap⟩
  · rw [List.append_nil]
    exact List.pairwise_append.2 ⟨h.ra, h.ro, h.ao⟩
end Go.Proofs.Ytnigadnjppeckaa.ord
/- Package ord: numbers in order, over many things. (Printed by od.py.) -/
namespace Go.Proofs.Ytnigadnjppeckaa.ord
open Go.RowKit
open manyO (RetM Is q_behind q_from findT findT_le kTM)

abbrev In := manyO.In
abbrev RetS (B : Nat) (w : World) (Q : BT Int → Prop) := RetM B w Q

set_option maxHeartbeats 1000000 in
theorem behind_any (B : Nat) (w : World) (p : Option Addr) (t : BT Int) (x : Int) (hB : B ≤ w.heap.size) (h : In B w p t) (hs : t.size ≤ 1152921504606820000) :
    Calls Try.prog 46 #[.agg #[.pointer p], .int .i64 x] w fun e w' => e = .returned (.int .i64 ((findT (q_behind x) none t : Nat) : Int)) ∧ Below w.heap.size w w' := by
  have hb := belowTrans (belowAlloc w (.cells #[.pointer p] 42)) (belowAlloc _ (.cells #[.int .i64 x] 3))
  have HF := Lib.hid (manyO.Find_behind B _ p t (w.heap.size + 1) x (szle hb hB) (h.up hb) hs (heapNew2 _ _ _))
  have Hb := Lib.hid hb
  clear hb h hB
  go_enter Try.func46, Try.ntmps46
  go_wp2_with fail
  refine HF.out.mono ?_
  rintro e w1 ⟨rfl, hb1⟩
  go_wp2_with fail
  go_ret
  exact ⟨rfl, belowTrans Hb.out hb1⟩

set_option maxHeartbeats 1000000 in
theorem from_any (B : Nat) (w : World) (p : Option Addr) (t : BT Int) (x : Int) (hB : B ≤ w.heap.size) (h : In B w p t) (hs : t.size ≤ 1152921504606820000) :
    Calls Try.prog 47 #[.agg #[.pointer p], .int .i64 x] w fun e w' => e = .returned (.int .i64 ((findT (q_from x) none t : Nat) : Int)) ∧ Below w.heap.size w w' := by
  have hb := belowTrans (belowAlloc w (.cells #[.pointer p] 42)) (belowAlloc _ (.cells #[.int .i64 x] 3))
  have HF := Lib.hid (manyO.Find_from B _ p t (w.heap.size + 1) x (szle hb hB) (h.up hb) hs (heapNew2 _ _ _))
  have Hb := Lib.hid hb
  clear hb h hB
  go_enter Try.func47, Try.ntmps47
  go_wp2_with fail
  refine HF.out.mono ?_
  rintro e w1 ⟨rfl, hb1⟩
  go_wp2_with fail
  go_ret
  exact ⟨rfl, belowTrans Hb.out hb1⟩

set_option maxRecDepth 100000 in
set_option maxHeartbeats 2000000 in
theorem Insert_any (B : Nat) (w : World) (p : Option Addr) (t : BT Int) (x : Int) (hB : B ≤ w.heap.size) (h : In B w p t) (hs : t.size ≤ 1152921504606820000) :
    Calls Try.prog 45 #[.agg #[.pointer p], .int .i64 x] w (RetM B w (Is (t.inorder.take (findT (q_behind x) none t) ++ x :: t.inorder.drop (findT (q_behind x) none t)) (t.size + 1))) := by
  obtain ⟨V0, hV⟩ : ∃ V0, V0 = (w.alloc (.cells #[.pointer p] 42)).alloc (.cells #[.pointer none] 42) := ⟨_, rfl⟩
  have hb0 : Below w.heap.size w V0 := by rw [hV]; exact belowTrans (belowAlloc _ _) (belowAlloc _ _)
  have kp : V0.cell? ⟨w.heap.size, 0, none⟩ = some (.pointer p) := by rw [hV]; exact cell_of_one (heapNew1 _ _ _)
  have hk1 : V0.heap[w.heap.size + 1]? = some (.cells #[.pointer none] 42 (0, 0)) := by rw [hV]; exact heapNew2 _ _ _
  have hs1 := hs
  have hfl := findT_le (q_behind x) t none
  have HB := Lib.hid (szle hb0 hB)
  have Hh := Lib.hid (h.up hb0)
  have K1 := Lib.hid hk1
  have Hb := Lib.hid hb0
  have HV := Lib.hid hV
  clear hb0 hB h hk1 hV
  go_enter Try.func45, Try.ntmps45
  go_wp2_with fail
  rw [← HV.out]
  refine grow.wp_grow_tail 8 [grow.kEq (.pointer (some ⟨w.heap.size, 0, none⟩)), grow.kEq (.agg #[.pointer p]), grow.kEq (.agg #[.pointer p]), grow.kEq (.int .i64 x), grow.kEq (.int .i64 ((findT (q_behind x) none t : Nat) : Int)), grow.kEq (.int .i64 x), kTM B (Is (t.inorder.take (findT (q_behind x) none t) ++ x :: t.inorder.drop (findT (q_behind x) none t)) (t.size + 1)), kTM B (Is (t.inorder.take (findT (q_behind x) none t) ++ x :: t.inorder.drop (findT (q_behind x) none t)) (t.size + 1))] (of_decide_eq_true (by kernel_rfl)) (by kernel_rfl) (by kernel_rfl) (by kernel_rfl) (by kernel_rfl) (by kernel_rfl) ?step ?fin
  case step =>
    refine grow.EachT.cons ?_ ?_
    · intro A W hB hs hJ K hK
      have s0 := hs 2 (by kernel_rfl)
      simp at s0
      rw [if_pos (by rfl)]
      clear hs hJ
      go_simp
      exact hK _ _ (Below.refl _ _) rfl
    refine grow.EachT.cons ?_ ?_
    · intro A W hB hs hJ K hK
      have s0 : A.tmps.getD 5 undef = .pointer (some ⟨w.heap.size, 0, none⟩) := hJ 0 5 (by kernel_rfl) (by kernel_rfl)
      simp at s0
      have kk := upc hB kp
      rw [if_pos (by rfl)]
      clear hs hJ
      go_simp
      exact hK _ _ (Below.refl _ _) rfl
    refine grow.EachT.cons ?_ ?_
    · intro A W hB hs hJ K hK
      have s0 := hs 2 (by kernel_rfl)
      simp at s0
      have kk := upc hB kp
      rw [if_pos (by rfl)]
      clear hs hJ
      go_simp
      exact hK _ _ (Below.refl _ _) rfl
    refine grow.EachT.cons ?_ ?_
    · intro A W hB hs hJ K hK
      have s0 := hs 1 (by kernel_rfl)
      simp at s0
      rw [if_pos (by rfl)]
      clear hs hJ
      go_simp
      exact hK _ _ (Below.refl _ _) rfl
    refine grow.EachT.cons ?_ ?_
    · intro A W hB hs hJ K hK
      have s0 : A.tmps.getD 7 undef = .agg #[.pointer p] := hJ 2 7 (by kernel_rfl) (by kernel_rfl)
      simp at s0
      have s1 : A.tmps.getD 8 undef = .int .i64 x := hJ 3 8 (by kernel_rfl) (by kernel_rfl)
      simp at s1
      rw [if_pos (by rfl)]
      clear hs hJ
      go_simp
      go_at_call 46
      refine (behind_any B W p t x (szle hB HB.out) (Hh.out.up hB) hs1).mono ?_
      rintro e W2 ⟨rfl, hbn⟩
      exact hK _ _ hbn rfl
    refine grow.EachT.cons ?_ ?_
    · intro A W hB hs hJ K hK
      have s0 := hs 1 (by kernel_rfl)
      simp at s0
      rw [if_pos (by rfl)]
      clear hs hJ
      go_simp
      exact hK _ _ (Below.refl _ _) rfl
    refine grow.EachT.cons ?_ ?_
    · intro A W hB hs hJ K hK
      have s0 : A.tmps.getD 6 undef = .agg #[.pointer p] := hJ 1 6 (by kernel_rfl) (by kernel_rfl)
      simp at s0
      have s1 : A.tmps.getD 9 undef = .int .i64 ((findT (q_behind x) none t : Nat) : Int) := hJ 4 9 (by kernel_rfl) (by kernel_rfl)
      simp at s1
      have s2 : A.tmps.getD 10 undef = .int .i64 x := hJ 5 10 (by kernel_rfl) (by kernel_rfl)
      simp at s2
      rw [if_pos (by rfl)]
      clear hs hJ
      go_simp
      go_at_call 78
      refine (manyO.Insert_any B W p t _ x (szle hB HB.out) (Hh.out.up hB) (by omega) (by omega) hs).mono ?_
      rintro e W2 ⟨q, u, rfl, i3, j3, hbn⟩
      exact hK _ _ hbn ⟨q, u, rfl, (by simpa using i3), j3⟩
    refine grow.EachT.cons ?_ ?_
    · intro A W hB hs hJ K hK
      obtain ⟨q, u, s0, i3, j3⟩ := hJ 6 11 (by kernel_rfl) (by kernel_rfl)
      simp at s0
      rw [if_pos (by rfl)]
      clear hs hJ
      go_simp
      exact hK _ _ (Below.refl _ _) ⟨q, u, rfl, i3, j3⟩
    exact grow.EachT.nil
  case fin =>
    intro f W hB hF
    have f0 : f 0 = .pointer (some ⟨w.heap.size, 0, none⟩) := hF 0 (by decide)
    have f1 : f 1 = .agg #[.pointer p] := hF 1 (by decide)
    have f2 : f 2 = .agg #[.pointer p] := hF 2 (by decide)
    have f3 : f 3 = .int .i64 x := hF 3 (by decide)
    have f4 : f 4 = .int .i64 ((findT (q_behind x) none t : Nat) : Int) := hF 4 (by decide)
    have f5 : f 5 = .int .i64 x := hF 5 (by decide)
    obtain ⟨q_6, u_6, f6, i3_6, j3_6⟩ := hF 6 (by decide)
    obtain ⟨q_7, u_7, f7, i3_7, j3_7⟩ := hF 7 (by decide)
    clear hF
    intro A hA
    simp only [grow.puts, Act.put, List.getElem?_toArray, List.getElem?_cons_zero, List.getElem?_cons_succ, Option.bind_some, List.setIfInBounds_toArray, List.set_cons_zero, List.set_cons_succ, f0, f1, f2, f3, f4, f5, f6, f7] at hA
    subst hA
    simp only [List.drop_succ_cons, List.drop_zero]
    have hk2 := upb hB K1.out
    have c1 := cell_of_one hk2
    have f1 := free_of_one hk2
    have I3 := Lib.hid i3_7
    have J3 := Lib.hid j3_7
    have K2 := Lib.hid hk2
    have Hb2 := Lib.hid (belowTrans Hb.out hB)
    clear hk2 hB
    go_wp2_with fail
    have hr1 := one_setCell (u := .pointer q_7) K2.out
    have e1 := cell_of_one hr1
    exact bodyPost_ret (v := .agg #[.pointer q_7]) (by simp [results, Try.results45, go_sem, e1]) rfl ⟨q_7, u_7, rfl, I3.out, manyO.Holds.store1 J3.out K2.out (by decide), Hb2.out.setCell (p := ⟨w.heap.size + 1, 0, none⟩) (by show w.heap.size ≤ w.heap.size + 1; omega) _⟩

/-- what is known of the order of a list's numbers -/
def OfQ (xs : List Int) (t : BT Int) : Prop := t.size = xs.length ∧ t.inorder.Pairwise (· ≤ ·) ∧ ∀ z, t.inorder.count z = xs.count z
theorem OfQ_nil : OfQ [] .nil := ⟨rfl, List.Pairwise.nil, fun _ => rfl⟩
theorem OfQ_size {xs : List Int} {t : BT Int} (h : OfQ xs t) : t.size ≤ xs.length := Nat.le_of_eq h.1
theorem OfQ_snoc {xs : List Int} {t u : BT Int} {x : Int} (h : OfQ xs t) (_hk : findT (q_behind x) none t ≤ t.size) (hu : Is (t.inorder.take (findT (q_behind x) none t) ++ x :: t.inorder.drop (findT (q_behind x) none t)) (t.size + 1) u) : OfQ (xs ++ [x]) u := by
  rw [find_none x t h.2.1] at hu
  refine ⟨by rw [hu.2, h.1]; simp, by rw [hu.1]; exact put_rise x _ h.2.1, fun z => ?_⟩
  rw [hu.1, put_count, h.2.2 z, List.count_append, List.count_cons]
  simp only [List.count_nil, beq_iff_eq]
  omega
set_option maxHeartbeats 1000000 in
theorem ints_any (B : Nat) (w : World) (p : Option Addr) (t : BT Int) (h : In B w p t) (hn : t.size ≤ 17592186044416) :
    Calls Try.prog 19 #[.agg #[.pointer p]] w (RetI 3 w t.inorder) := by
  have Hc := Lib.hid (manyO.all_any B _ p t (h.up (belowAlloc w (.cells #[.pointer p] 42))) hn)
  clear h
  go_enter Try.func19, Try.ntmps19
  go_wp2_with fail
  refine Hc.out.mono ?_
  rintro e w1 ⟨a, c, rfl, ho, hb⟩
  have hi : OwnI 3 w1 w.heap.size (.slice a t.inorder.length c) t.inorder := by
    have e : ∀ xs : List Int, manyO.cellsV xs = xs.map (Value.int .i64) := fun xs => by
      induction xs with
      | nil => rfl
      | cons x xs ih => rw [manyO.cellsV, ih]; rfl
    have h := ho.lower (B' := w.heap.size) (by simp)
    unfold manyO.OwnV at h
    rw [e] at h
    exact h
  have Hi := Lib.hid hi
  have Hb := Lib.hid (belowTrans (belowAlloc _ _) hb)
  clear ho hb hi
  go_wp2_with fail
  go_ret
  exact RetI.mk Hi.out Hb.out

set_option maxHeartbeats 1000000 in
theorem Of_some (w : World) (b o c : Nat) (xs : List Int) (hn : xs.length ≤ 17592186044416)
    (hc : ∀ i, i < xs.length → w.cell? ⟨b, o + i, none⟩ = some (.int .i64 (xs.getD i 0))) :
    Calls Try.prog 17 #[.slice (some ⟨b, o, none⟩) xs.length c] w (RetS w.heap.size w (OfQ xs)) := by
  obtain ⟨n, hnx⟩ : ∃ n, n = xs.length := ⟨_, rfl⟩
  rw [← hnx] at hn hc ⊢
  have Hc := Lib.hid hc
  have Hx := Lib.hid hnx
  clear hc hnx
  go_enter Try.func17, Try.ntmps17
  go_wp2_with fail
  go_loopw [5, 8] (fun _ i wr => ∃ (k : Nat) (p : Option Addr) (t : BT Int), k ≤ n ∧ i = .int .i64 k ∧ Hid (OfQ (xs.take k) t) ∧ Hid (In w.heap.size wr p t) ∧ Hid (Below w.heap.size w wr) ∧ w.heap.size + 1 < wr.heap.size ∧ Hid (wr.heap[w.heap.size]? = some (.cells #[.pointer none] 42 (0, 0))) ∧ Hid (wr.heap[w.heap.size + 1]? = some (.cells #[.pointer p] 42 (0, 0)))) (fun _ i _ => n - (intOf i).toNat)
  case atStart => 
    refine ⟨0, none, .nil, Nat.zero_le _, rfl, Lib.hid OfQ_nil, Lib.hid rfl, Lib.hid (belowTrans (belowAlloc w _) (belowAlloc _ _)), by simp, Lib.hid (heapNew1 _ _ _), Lib.hid (heapNew2 _ _ _)⟩
  case round =>
    obtain ⟨k, p, t, hk, rfl, Ht, Hin, Hb, hsz, Hr, Hs⟩ := hrel
    by_cases hlt : k < n
    · have c1 := upc Hb.out (Hc.out k hlt)
      have kc := cell_of_one Hs.out
      have hts : t.size ≤ n := by have h := OfQ_size Ht.out; rw [List.length_take] at h; have := Hx.out; omega
      have HP := Lib.hid (Insert_any w.heap.size wr p t (xs.getD k 0) (by omega) Hin.out (by omega))
      have hfl := Lib.hid (findT_le (q_behind (xs.getD k 0)) t none)
      go_wp2_with fail
      refine HP.out.mono ?_
      rintro e w1 ⟨p1, t1, rfl, hq1, hp1, hb1⟩
      have Hq1 : Hid (OfQ (xs.take (k + 1)) t1) := Lib.hid (by
        have h := OfQ_snoc Ht.out hfl.out hq1
        have e : xs.take (k + 1) = xs.take k ++ [xs.getD k 0] := by
          rw [List.take_succ_eq_append_getElem (by rw [← Hx.out]; exact hlt)]
          simp [List.getD_eq_getElem?_getD, show k < xs.length by rw [← Hx.out]; exact hlt]
        rw [e]
        exact h)
      clear hq1 hfl HP
      have hk1 := upb hb1 Hs.out
      have hr1 := upb hb1 Hr.out
      have kc1 := cell_of_one hk1
      have fc1 := free_of_one hk1
      have hbb := belowTrans Hb.out hb1
      have hz := hb1.size
      have Hin1 := Lib.hid (manyO.Holds.store1 (u := .pointer p1) hp1 hk1 (by decide))
      have Hb1 := Lib.hid (belowSet (a := ⟨w.heap.size + 1, 0, none⟩) hbb (Nat.le_succ _) (.pointer p1))
      have Hk1 := Lib.hid (one_setCell (u := .pointer p1) hk1)
      have Hr1 := Lib.hid ((Below.heap_setCell w1 ⟨w.heap.size + 1, 0, none⟩ (.pointer p1) w.heap.size (by simp)).trans hr1)
      clear hk1 hr1 hbb hb1 hp1 kc
      go_wp2_with fail
      exact ⟨⟨k + 1, p1, t1, by omega, by go_num, Hq1, Hin1, Hb1, by simp [World.setCell]; omega, Hr1, Hk1⟩, by simp [intOf]; omega⟩
    · have Hkn : Hid (OfQ xs t) := Lib.hid (by
        have h := Ht.out
        rw [List.take_of_length_le (by rw [← Hx.out]; omega)] at h
        exact h)
      have kc := cell_of_one Hs.out
      have kr := cell_of_one Hr.out
      have fr := free_of_one Hr.out
      have Hin1 := Lib.hid (manyO.Holds.store1 (u := .pointer p) Hin.out Hr.out (by decide))
      have Hb1 := Lib.hid (belowSet (a := ⟨w.heap.size, 0, none⟩) Hb.out (Nat.le_refl _) (.pointer p))
      go_wp2_with fail
      have HR := one_setCell (u := .pointer p) Hr.out
      have kr0 := cell_of_one HR
      exact bodyPost_ret (v := .agg #[.pointer p]) (by simp only [results, Try.results17]; simp [go_sem, kr0]) rfl ⟨p, t, rfl, Hkn.out, Hin1.out, Hb1.out⟩

set_option maxHeartbeats 400000 in
theorem Of_none (w : World) : Calls Try.prog 17 #[.slice none 0 0] w (RetS w.heap.size w (OfQ [])) := by
  go_enter Try.func17, Try.ntmps17
  go_wp2_with fail
  go_loopw [5, 8] (fun _ i wr => i = .int .i64 0 ∧ wr = (w.alloc (.cells #[.pointer none] 42)).alloc (.cells #[.pointer none] 42)) (fun _ _ _ => 0)
  case atStart => exact ⟨rfl, rfl⟩
  case round =>
    obtain ⟨rfl, rfl⟩ := hrel
    go_wp2_with fail
    exact bodyPost_ret (v := .agg #[.pointer none]) (by simp [results, Try.results17, go_sem]) rfl ⟨none, .nil, rfl, OfQ_nil, rfl, (belowTrans (belowAlloc w _) (belowAlloc _ _))⟩

set_option maxHeartbeats 400000 in
theorem Of_zero (x : Addr) (c : Nat) (w : World) : Calls Try.prog 17 #[.slice (some x) 0 c] w (RetS w.heap.size w (OfQ [])) := by
  go_enter Try.func17, Try.ntmps17
  go_wp2_with fail
  go_loopw [5, 8] (fun _ i wr => i = .int .i64 0 ∧ wr = (w.alloc (.cells #[.pointer none] 42)).alloc (.cells #[.pointer none] 42)) (fun _ _ _ => 0)
  case atStart => exact ⟨rfl, rfl⟩
  case round =>
    obtain ⟨rfl, rfl⟩ := hrel
    go_wp2_with fail
    exact bodyPost_ret (v := .agg #[.pointer none]) (by simp [results, Try.results17, go_sem]) rfl ⟨none, .nil, rfl, OfQ_nil, rfl, (belowTrans (belowAlloc w _) (belowAlloc _ _))⟩

theorem Of_any (w : World) (a : Option Addr) (c : Nat) (xs : List Int) (hn : xs.length ≤ 17592186044416) (hr : Reads w a xs) (ha : a = none → c = 0) :
    Calls Try.prog 17 #[.slice a xs.length c] w (RetS w.heap.size w (OfQ xs)) := by
  cases a with
  | none =>
    rcases hr with rfl | ⟨b', o', h, _⟩
    · obtain rfl := ha rfl
      exact Of_none w
    · cases h
  | some x =>
    rcases hr with rfl | ⟨b', o', h, hc⟩
    · exact Of_zero x c w
    · cases h
      exact Of_some w b' o' c xs hn hc
/-- what is told of a tree -/
def ints (t : BT Int) : List Int := t.inorder
theorem ints_length (t : BT Int) : (ints t).length = t.size := BT.length_inorder t
end Go.Proofs.Ytnigadnjppeckaa.ord
