/- Package ord: Between hands back some row. (Printed by bw.py.) -/
import Derived.Test.YtnigadnjppeckaaDoorOrdD
namespace Go.Proofs.YtnigadnjppeckaaDoor.ord
open Go.RowKit
open manyO (RetM Is q_behind q_from findT findT_le kTM)

set_option maxRecDepth 100000 in
set_option maxHeartbeats 4000000 in
theorem Between_any (B : Nat) (w : World) (p : Option Addr) (t : BT Int) (lo hi : Int) (hB : B ≤ w.heap.size) (h : In B w p t) (hs : t.size ≤ 4000000000) :
    Calls Tryd.prog 13 #[.agg #[.pointer p], .int .i64 lo, .int .i64 hi] w fun e w' => ∃ a n c, e = .returned (.slice a n c) ∧ Below w.heap.size w w' := by
  obtain ⟨nf1, hf1⟩ : ∃ nf1, nf1 = ((findT (q_from lo) none t : Nat) : Int) := ⟨_, rfl⟩
  obtain ⟨nf2, hf2⟩ : ∃ nf2, nf2 = ((findT (q_behind hi) none t : Nat) : Int) := ⟨_, rfl⟩
  have h1 := findT_le (q_from lo) t none
  have h2 := findT_le (q_behind hi) t none
  have hb0 := belowAlloc w (.cells #[.pointer p] 39)
  have HF1 := Lib.hid (fun W (hW : Below w.heap.size w W) => from_any B W p t lo (szle hW hB) (h.up hW) (by omega))
  have HF2 := Lib.hid (fun W (hW : Below w.heap.size w W) => behind_any B W p t hi (szle hW hB) (h.up hW) (by omega))
  rw [← hf1] at HF1
  rw [← hf2] at HF2
  have HL : Hid (t.size ≤ 4000000000 ∧ 0 ≤ nf1 ∧ 0 ≤ nf2 ∧ nf2 ≤ (t.size : Nat) ∧ nf1 ≤ (t.size : Nat)) := Lib.hid ⟨hs, by omega, by omega, by omega, by omega⟩
  have Hb := Lib.hid hb0
  have HB := Lib.hid hB
  have Hh := Lib.hid h
  have kp := cell_of_one (heap_alloc_new w (.cells #[.pointer p] 39))
  clear hb0 hB h hs hf1 hf2 h1 h2
  go_enter Tryd.func13, Tryd.ntmps13
  go_wp2_with fail
  refine grow.wp_grow [grow.kEq (.agg #[.pointer p]), grow.kEq (.int .i64 lo), grow.kEq (.int .i64 nf1), grow.kEq (.agg #[.pointer p]), grow.kEq (.int .i64 hi), grow.kEq (.int .i64 nf2), grow.kEq (.int .i64 nf1), grow.kEq (.int .i64 nf2)] (by kernel_rfl) (by kernel_rfl) (by kernel_rfl) (by kernel_rfl) ?step ?fin
  case step =>
    refine grow.Each.cons ?_ ?_
    · intro A W hB hs hJ K hK
      have s0 := hs 3 (by kernel_rfl)
      simp at s0
      have kk := upc hB kp
      rw [if_pos (by rfl)]
      clear hs hJ
      go_simp
      exact hK _ _ (Below.refl _ _) rfl
    refine grow.Each.cons ?_ ?_
    · intro A W hB hs hJ K hK
      have s0 := hs 1 (by kernel_rfl)
      simp at s0
      rw [if_pos (by rfl)]
      clear hs hJ
      go_simp
      exact hK _ _ (Below.refl _ _) rfl
    refine grow.Each.cons ?_ ?_
    · intro A W hB hs hJ K hK
      have s0 : A.tmps.getD 13 undef = .agg #[.pointer p] := hJ 0 13 (by kernel_rfl) (by kernel_rfl)
      simp at s0
      have s1 : A.tmps.getD 14 undef = .int .i64 lo := hJ 1 14 (by kernel_rfl) (by kernel_rfl)
      simp at s1
      rw [if_pos (by rfl)]
      clear hs hJ
      go_simp
      go_at_call 21
      refine (HF1.out W (belowTrans Hb.out hB)).mono ?_
      rintro e W2 ⟨rfl, hbn⟩
      exact hK _ _ hbn rfl
    refine grow.Each.cons ?_ ?_
    · intro A W hB hs hJ K hK
      have s0 := hs 3 (by kernel_rfl)
      simp at s0
      have kk := upc hB kp
      rw [if_pos (by rfl)]
      clear hs hJ
      go_simp
      exact hK _ _ (Below.refl _ _) rfl
    refine grow.Each.cons ?_ ?_
    · intro A W hB hs hJ K hK
      have s0 := hs 2 (by kernel_rfl)
      simp at s0
      rw [if_pos (by rfl)]
      clear hs hJ
      go_simp
      exact hK _ _ (Below.refl _ _) rfl
    refine grow.Each.cons ?_ ?_
    · intro A W hB hs hJ K hK
      have s0 : A.tmps.getD 16 undef = .agg #[.pointer p] := hJ 3 16 (by kernel_rfl) (by kernel_rfl)
      simp at s0
      have s1 : A.tmps.getD 17 undef = .int .i64 hi := hJ 4 17 (by kernel_rfl) (by kernel_rfl)
      simp at s1
      rw [if_pos (by rfl)]
      clear hs hJ
      go_simp
      go_at_call 22
      refine (HF2.out W (belowTrans Hb.out hB)).mono ?_
      rintro e W2 ⟨rfl, hbn⟩
      exact hK _ _ hbn rfl
    refine grow.Each.cons ?_ ?_
    · intro A W hB hs hJ K hK
      have s0 : A.tmps.getD 15 undef = .int .i64 nf1 := hJ 2 15 (by kernel_rfl) (by kernel_rfl)
      simp at s0
      rw [if_pos (by rfl)]
      clear hs hJ
      go_simp
      exact hK _ _ (Below.refl _ _) rfl
    refine grow.Each.cons ?_ ?_
    · intro A W hB hs hJ K hK
      have s0 : A.tmps.getD 18 undef = .int .i64 nf2 := hJ 5 18 (by kernel_rfl) (by kernel_rfl)
      simp at s0
      rw [if_pos (by rfl)]
      clear hs hJ
      go_simp
      exact hK _ _ (Below.refl _ _) rfl
    exact grow.Each.nil
  case fin =>
    intro f W hB hF
    have f0 : f 0 = .agg #[.pointer p] := hF 0 (by decide)
    have f1 : f 1 = .int .i64 lo := hF 1 (by decide)
    have f2 : f 2 = .int .i64 nf1 := hF 2 (by decide)
    have f3 : f 3 = .agg #[.pointer p] := hF 3 (by decide)
    have f4 : f 4 = .int .i64 hi := hF 4 (by decide)
    have f5 : f 5 = .int .i64 nf2 := hF 5 (by decide)
    have f6 : f 6 = .int .i64 nf1 := hF 6 (by decide)
    have f7 : f 7 = .int .i64 nf2 := hF 7 (by decide)
    clear hF
    generalize hA : grow.puts _ _ f _ = A'
    simp only [List.length_cons, List.length_nil, Nat.reduceAdd, grow.puts, Act.put, List.getElem?_toArray, List.getElem?_cons_zero, List.getElem?_cons_succ, Option.bind_some, List.setIfInBounds_toArray, List.set_cons_zero, List.set_cons_succ, f0, f1, f2, f3, f4, f5, f6, f7] at hA
    subst hA
    have Hb2 := Lib.hid (belowTrans Hb.out hB)
    have kp2 := upc hB kp
    clear hB kp Hb HF1 HF2
    by_cases hle : nf2 ≤ nf1
    · as_aux_lemma =>
      go_wp2_with fail
      go_ret
      exact ⟨none, 0, 0, rfl, Hb2.out⟩
    · as_aux_lemma =>
      have HS := Lib.hid (manyO.Split_any B W p t nf2 (szle Hb2.out HB.out) (Hh.out.up Hb2.out) HL.out.2.2.1 HL.out.2.2.2.1 (by have := HL.out.1; omega))
      have hle2 : ¬ (nf2 ≤ nf1) := hle
      have hd : decide (nf2 ≤ nf1) = false := decide_eq_false hle
      go_wp2_with fail
      refine HS.out.mono ?_
      rintro e W3 ⟨q1, r1, u1, s1, rfl, i1, _, j1, _, hb3⟩
      have hbb := belowTrans (belowAlloc W3 (.cells #[.pointer q1] 37)) (belowAlloc _ (.cells #[.pointer r1] 37))
      have hsz : u1.size = nf2.toNat := i1.2
      have HS2 := Lib.hid (manyO.Split_any B _ q1 u1 nf1 (szle (belowTrans (belowTrans Hb2.out hb3) hbb) HB.out) (j1.up hbb) HL.out.2.1 (by omega) (by have h1 := HL.out.1; have h2 := HL.out.2.2.2.1; omega))
      have Hb3 := Lib.hid (belowTrans (belowTrans Hb2.out hb3) hbb)
      have hu : u1.size ≤ 4000000000 := by have h1 := HL.out.1; have h2 := HL.out.2.2.2.1; omega
      clear hb3 hbb j1 i1 hsz HS
      go_wp2_with fail
      refine HS2.out.mono ?_
      rintro e W4 ⟨q2, r2, u2, s2, rfl, _, i2, _, j2, hb4⟩
      have hbb := belowTrans (belowAlloc W4 (.cells #[.pointer q2] 37)) (belowAlloc _ (.cells #[.pointer r2] 37))
      have HA := Lib.hid (manyO.all_any B _ r2 s2 (j2.up hbb) (by have := i2.2; omega))
      have Hb4 := Lib.hid (belowTrans (belowTrans Hb3.out hb4) hbb)
      clear hb4 hbb j2 i2 HS2
      go_wp2_with fail
      refine HA.out.mono ?_
      rintro e W5 ⟨a5, c5, rfl, _, hb5⟩
      have Hb5 := Lib.hid (belowTrans Hb4.out hb5)
      clear hb5 HA
      go_wp2_with fail
      go_ret
      exact ⟨a5, _, c5, rfl, Hb5.out⟩
end Go.Proofs.YtnigadnjppeckaaDoor.ord
