/- What is added is taken away. -/
import Derived.Test.YtnebmncjohoekaaDoorBagSm
namespace Go.Proofs.YtnebmncjohoekaaDoor.bag
open Go.RowKit
open pat (PT HO OOk ocnt olist oget tk I64 lk told oput odrop ounion)

set_option maxRecDepth 100000 in
set_option maxHeartbeats 16000000 in
theorem sums (a0 a1 : Option Addr) (c0 n0 c1 n1 : Nat) (l m : List (Int × Int)) (x : Int) (w : World) (h0 : pat.Row w a0 n0 l) (h1 : pat.Row w a1 n1 m) (hx : I64 x) (hg : er.Handle w) :
    Calls Tryd.prog 3 #[.slice a0 n0 c0, .slice a1 n1 c1, .int .i64 x] w (pat.Yes w) := by
  have HR0 := Lib.hid h0
  have HR1 := Lib.hid h1
  have HG := Lib.hid hg
  clear hg h0 h1
  have HX := Lib.hid hx
  clear hx
  go_enter Tryd.func3, Tryd.ntmps3
  go_wp2_with fail
  refine (bagged_any w).mono ?_
  rintro e w1 ⟨rfl, hb1⟩
  have HB0 := Lib.hid hb1
  clear hb1
  go_wp2_with fail
  have HC := Lib.hid (filled_any a0 c0 n0 l w1 HR0.out.len (by have := HR0.out.le; omega) (HR0.out.r.up HB0.out) HR0.out.i (HG.out.up HB0.out))
  refine HC.out.mono ?_
  rintro e v0 ⟨oa, pa, q0, m0, d0, rfl, hWe, hHo, hOw, hcn, hbe⟩
  obtain ⟨V0, hV⟩ : ∃ V, V = v0.alloc (.cells #[.pointer pa] 28) := ⟨_, rfl⟩
  have hbV : Below v0.heap.size v0 V0 := by rw [hV]; exact belowAlloc _ _
  have Sa : Hid (Sm 1048576 oa) := Lib.hid ⟨hWe.ok, hWe.bnd, by have := hWe.n; have := HR0.out.le; omega⟩
  have hbB := belowTrans hbe hbV
  have Ha : Hid (Bx w v0.heap.size oa pa V0) := Lib.hid ⟨HB0.out.trans (hbB.mono HB0.out.size), by rw [hV]; exact heap_alloc_new _ _, (pat.HO.lower hHo HB0.out.size).up hbV⟩
  have HB0n : Hid (Below w.heap.size w V0) := Lib.hid Ha.out.bel
  have HW := Lib.hid hV
  clear HB0 hWe hHo hOw hcn hbe hbV hbB hV HC
  have HB0 := HB0n
  clear HB0n
  go_wp2_with fail
  try rw [← HW.out]
  have HC := Lib.hid (filled_any a1 c1 n1 m V0 HR1.out.len (by have := HR1.out.le; omega) (HR1.out.r.up HB0.out) HR1.out.i (HG.out.up HB0.out))
  refine HC.out.mono ?_
  rintro e v1 ⟨ob, pb, q1, m1, d1, rfl, hWe, hHo, hOw, hcn, hbe⟩
  obtain ⟨V1, hV⟩ : ∃ V, V = v1.alloc (.cells #[.pointer pb] 28) := ⟨_, rfl⟩
  have hbV : Below v1.heap.size v1 V1 := by rw [hV]; exact belowAlloc _ _
  have Sb : Hid (Sm 1048576 ob) := Lib.hid ⟨hWe.ok, hWe.bnd, by have := hWe.n; have := HR1.out.le; omega⟩
  have hbB := belowTrans hbe hbV
  have Hb : Hid (Bx w v1.heap.size ob pb V1) := Lib.hid ⟨HB0.out.trans (hbB.mono HB0.out.size), by rw [hV]; exact heap_alloc_new _ _, (pat.HO.lower hHo HB0.out.size).up hbV⟩
  have Han := Lib.hid (Ha.out.up hbB)
  clear Ha
  have Ha := Han
  clear Han
  have HB0n : Hid (Below w.heap.size w V1) := Lib.hid Hb.out.bel
  clear HW
  have HW := Lib.hid hV
  clear HB0 hWe hHo hOw hcn hbe hbV hbB hV HC
  have HB0 := HB0n
  clear HB0n
  have ka := cell_of_one Ha.out.b
  rw [HW.out] at ka
  have kb := cell_of_one Hb.out.b
  rw [HW.out] at kb
  go_wp2_with fail
  try rw [← HW.out]
  clear ka kb
  obtain ⟨ca, hca⟩ : ∃ c, cnt oa x = c := ⟨_, rfl⟩
  obtain ⟨cb, hcb⟩ : ∃ c, cnt ob x = c := ⟨_, rfl⟩
  have hba := Sa.out.cnt x
  have hbb := Sb.out.cnt x
  rw [hca] at hba
  rw [hcb] at hbb
  have hmost : most = 1099511627776 := rfl
  rw [hmost] at hba hbb
  obtain ⟨ca0, ca1⟩ := hba
  obtain ⟨cb0, cb1⟩ := hbb
  have HCA := Lib.hid hca
  have HCB := Lib.hid hcb
  clear hca hcb hmost
  refine (Count_any w.heap.size V1 pa oa x Ha.out.h Sa.out.ok HX.out ca HCA.out).mono ?_
  rintro e w6 ⟨rfl, hb6⟩
  have Han := Lib.hid (Ha.out.up hb6)
  have Hbn := Lib.hid (Hb.out.up hb6)
  clear Ha Hb hb6
  have Ha := Han
  have Hb := Hbn
  clear Han Hbn
  have ka := cell_of_one Ha.out.b
  have kb := cell_of_one Hb.out.b
  by_cases g1 : 549755813888 < ca
  · go_wp2_with fail
    go_ret
    exact ⟨rfl, Ha.out.bel⟩
  have g1' : ca ≤ 549755813888 := by omega
  go_wp2_with fail
  refine (Count_any w.heap.size w6 pb ob x Hb.out.h Sb.out.ok HX.out cb HCB.out).mono ?_
  rintro e w7 ⟨rfl, hb7⟩
  have Han := Lib.hid (Ha.out.up hb7)
  have Hbn := Lib.hid (Hb.out.up hb7)
  clear Ha Hb ka kb hb7
  have Ha := Han
  have Hb := Hbn
  clear Han Hbn
  have ka := cell_of_one Ha.out.b
  have kb := cell_of_one Hb.out.b
  by_cases g2 : 549755813888 < cb
  · go_wp2_with fail
    go_ret
    exact ⟨rfl, Ha.out.bel⟩
  have g2' : cb ≤ 549755813888 := by omega
  have HK : Hid (cnt (metO fLess (metO fAdd oa ob) ob) x = ca ∧ cnt (metO fAdd (metO fJoin oa ob) (metO fMeet oa ob)) x = ca + cb ∧ cnt (metO fAdd (metO fLess oa ob) (metO fMeet oa ob)) x = ca) := by
    have hm : most = 1099511627776 := rfl
    refine Lib.hid ⟨?_, ?_, ?_⟩
    · rw [cntm fLess zeroLess (Sm.met fAdd Sa.out Sb.out) Sb.out HX.out, cntm fAdd zeroAdd Sa.out Sb.out HX.out, HCA.out, HCB.out]; unfold fLess fAdd; rw [clamp_id (n := ca + cb) (by omega) (by omega), clamp_id (by omega) (by omega)]; omega
    · rw [cntm fAdd zeroAdd (Sm.met fJoin Sa.out Sb.out) (Sm.met fMeet Sa.out Sb.out) HX.out, cntm fJoin zeroJoin Sa.out Sb.out HX.out, cntm fMeet zeroMeet Sa.out Sb.out HX.out, HCA.out, HCB.out]; unfold fAdd fJoin fMeet; rw [clamp_id (n := max ca cb) (by omega) (by omega), clamp_id (n := min ca cb) (by omega) (by omega), clamp_id (by omega) (by omega)]; omega
    · rw [cntm fAdd zeroAdd (Sm.met fLess Sa.out Sb.out) (Sm.met fMeet Sa.out Sb.out) HX.out, cntm fLess zeroLess Sa.out Sb.out HX.out, cntm fMeet zeroMeet Sa.out Sb.out HX.out, HCA.out, HCB.out]; unfold fAdd fLess fMeet
      by_cases h : ca ≤ cb
      · rw [show clamp (ca - cb) = 0 by unfold clamp; rw [if_pos (by omega)], clamp_id (n := min ca cb) (by omega) (by omega), clamp_id (by omega) (by omega)]; omega
      · rw [clamp_id (n := ca - cb) (by omega) (by omega), clamp_id (n := min ca cb) (by omega) (by omega), clamp_id (by omega) (by omega)]; omega
  have hwr : IntKind.i64.wrap (ca + cb) = ca + cb := IntWalk.i64_in _ (by omega)
  have Hwr := Lib.hid hwr
  clear hwr
  go_wp2_with fail
  refine grow.wp_grow [grow.kEq (.agg #[.pointer pa]), grow.kEq (.agg #[.pointer pb]), kBag w.heap.size (metO fAdd oa ob), grow.kEq (.agg #[.pointer pb]), kBag w.heap.size (metO fLess (metO fAdd oa ob) ob), grow.kEq (.int .i64 x), grow.kEq (.int .i64 ca), grow.kEq (.int .i64 ca)] (by kernel_rfl) (by kernel_rfl) (by kernel_rfl) (by kernel_rfl) ?step ?fin
  case step =>
    clear ka kb
    refine grow.Each.cons ?_ ?_
    · intro A W hB hs hJ K hK
      have s0 := hs 8 (by kernel_rfl)
      simp at s0
      have kk := upc hB (cell_of_one Ha.out.b)
      rw [if_pos (by rfl)]
      clear hs hJ
      go_simp
      exact hK _ _ (Below.refl _ _) rfl
    refine grow.Each.cons ?_ ?_
    · intro A W hB hs hJ K hK
      have s0 := hs 11 (by kernel_rfl)
      simp at s0
      have kk := upc hB (cell_of_one Hb.out.b)
      rw [if_pos (by rfl)]
      clear hs hJ
      go_simp
      exact hK _ _ (Below.refl _ _) rfl
    refine grow.Each.cons ?_ ?_
    · intro A W hB hs hJ K hK
      have s0 : A.tmps.getD 49 undef = .agg #[.pointer pa] := hJ 0 49 (by kernel_rfl) (by kernel_rfl)
      simp at s0
      have s1 : A.tmps.getD 50 undef = .agg #[.pointer pb] := hJ 1 50 (by kernel_rfl) (by kernel_rfl)
      simp at s1
      rw [if_pos (by rfl)]
      clear hs hJ
      go_simp
      go_at_call 9
      refine (Add_sm w.heap.size W pa pb oa ob (szle hB Ha.out.bel.size) (Ha.out.up hB).h (Hb.out.up hB).h Sa.out Sb.out (by decide)).mono ?_
      rintro e W2 ⟨pU, rfl, hpU, hrU⟩
      exact hK _ _ hrU ⟨pU, rfl, hpU⟩
    refine grow.Each.cons ?_ ?_
    · intro A W hB hs hJ K hK
      have s0 := hs 11 (by kernel_rfl)
      simp at s0
      have kk := upc hB (cell_of_one Hb.out.b)
      rw [if_pos (by rfl)]
      clear hs hJ
      go_simp
      exact hK _ _ (Below.refl _ _) rfl
    refine grow.Each.cons ?_ ?_
    · intro A W hB hs hJ K hK
      obtain ⟨pN51, s0, hN51⟩ := hJ 2 51 (by kernel_rfl) (by kernel_rfl)
      simp at s0
      have s1 : A.tmps.getD 52 undef = .agg #[.pointer pb] := hJ 3 52 (by kernel_rfl) (by kernel_rfl)
      simp at s1
      rw [if_pos (by rfl)]
      clear hs hJ
      go_simp
      go_at_call 10
      refine (Less_sm w.heap.size W pN51 pb (metO fAdd oa ob) ob (szle hB Ha.out.bel.size) hN51 (Hb.out.up hB).h (Sm.met fAdd Sa.out Sb.out) Sb.out (by decide)).mono ?_
      rintro e W2 ⟨pU, rfl, hpU, hrU⟩
      exact hK _ _ hrU ⟨pU, rfl, hpU⟩
    refine grow.Each.cons ?_ ?_
    · intro A W hB hs hJ K hK
      have s0 := hs 2 (by kernel_rfl)
      simp at s0
      rw [if_pos (by rfl)]
      clear hs hJ
      go_simp
      exact hK _ _ (Below.refl _ _) rfl
    refine grow.Each.cons ?_ ?_
    · intro A W hB hs hJ K hK
      obtain ⟨pN53, s0, hN53⟩ := hJ 4 53 (by kernel_rfl) (by kernel_rfl)
      simp at s0
      have s1 : A.tmps.getD 54 undef = .int .i64 x := hJ 5 54 (by kernel_rfl) (by kernel_rfl)
      simp at s1
      rw [if_pos (by rfl)]
      clear hs hJ
      go_simp
      go_at_call 8
      refine (Count_any w.heap.size W pN53 (metO fLess (metO fAdd oa ob) ob) x hN53 ((Sm.met fLess (Sm.met fAdd Sa.out Sb.out) Sb.out)).ok HX.out ca HK.out.1).mono ?_
      rintro e W2 ⟨rfl, hb1⟩
      exact hK _ _ hb1 rfl
    refine grow.Each.cons ?_ ?_
    · intro A W hB hs hJ K hK
      have s0 : A.tmps.getD 55 undef = .int .i64 ca := hJ 6 55 (by kernel_rfl) (by kernel_rfl)
      simp at s0
      rw [if_pos (by rfl)]
      clear hs hJ
      go_simp
      exact hK _ _ (Below.refl _ _) rfl
    exact grow.Each.nil
  case fin =>
    intro f W hB hF
    have f0 : f 0 = .agg #[.pointer pa] := hF 0 (by decide)
    have f1 : f 1 = .agg #[.pointer pb] := hF 1 (by decide)
    obtain ⟨pN51_2, f2, -⟩ := hF 2 (by decide)
    have f3 : f 3 = .agg #[.pointer pb] := hF 3 (by decide)
    obtain ⟨pN53_4, f4, -⟩ := hF 4 (by decide)
    have f5 : f 5 = .int .i64 x := hF 5 (by decide)
    have f6 : f 6 = .int .i64 ca := hF 6 (by decide)
    have f7 : f 7 = .int .i64 ca := hF 7 (by decide)
    clear hF
    generalize hA : grow.puts _ _ f _ = A'
    simp only [List.length_cons, List.length_nil, Nat.reduceAdd, grow.puts, Act.put, List.getElem?_toArray, List.getElem?_cons_zero, List.getElem?_cons_succ, Option.bind_some, List.setIfInBounds_toArray, List.set_cons_zero, List.set_cons_succ, f0, f1, f2, f3, f4, f5, f6, f7] at hA
    subst hA
    have Han := Lib.hid (Ha.out.up hB)
    have Hbn := Lib.hid (Hb.out.up hB)
    clear hB Ha ka Hb kb
    obtain ⟨U, hU⟩ : ∃ U, U = W := ⟨_, rfl⟩
    rw [← hU] at Han Hbn ⊢
    clear hU W
    have Ha := Han
    have Hb := Hbn
    clear Han Hbn
    have ka := cell_of_one Ha.out.b
    have kb := cell_of_one Hb.out.b
    go_wp2_with fail
    refine grow.wp_grow [grow.kEq (.agg #[.pointer pa]), grow.kEq (.agg #[.pointer pb]), kBag w.heap.size (metO fJoin oa ob), grow.kEq (.agg #[.pointer pa]), grow.kEq (.agg #[.pointer pb]), kBag w.heap.size (metO fMeet oa ob), kBag w.heap.size (metO fAdd (metO fJoin oa ob) (metO fMeet oa ob)), grow.kEq (.int .i64 x), grow.kEq (.int .i64 (ca + cb)), grow.kEq (.int .i64 (ca + cb))] (by kernel_rfl) (by kernel_rfl) (by kernel_rfl) (by kernel_rfl) ?step ?fin
    case step =>
      clear ka kb
      refine grow.Each.cons ?_ ?_
      · intro A W hB hs hJ K hK
        have s0 := hs 8 (by kernel_rfl)
        simp at s0
        have kk := upc hB (cell_of_one Ha.out.b)
        rw [if_pos (by rfl)]
        clear hs hJ
        go_simp
        exact hK _ _ (Below.refl _ _) rfl
      refine grow.Each.cons ?_ ?_
      · intro A W hB hs hJ K hK
        have s0 := hs 11 (by kernel_rfl)
        simp at s0
        have kk := upc hB (cell_of_one Hb.out.b)
        rw [if_pos (by rfl)]
        clear hs hJ
        go_simp
        exact hK _ _ (Below.refl _ _) rfl
      refine grow.Each.cons ?_ ?_
      · intro A W hB hs hJ K hK
        have s0 : A.tmps.getD 56 undef = .agg #[.pointer pa] := hJ 0 56 (by kernel_rfl) (by kernel_rfl)
        simp at s0
        have s1 : A.tmps.getD 57 undef = .agg #[.pointer pb] := hJ 1 57 (by kernel_rfl) (by kernel_rfl)
        simp at s1
        rw [if_pos (by rfl)]
        clear hs hJ
        go_simp
        go_at_call 11
        refine (Join_sm w.heap.size W pa pb oa ob (szle hB Ha.out.bel.size) (Ha.out.up hB).h (Hb.out.up hB).h Sa.out Sb.out (by decide)).mono ?_
        rintro e W2 ⟨pU, rfl, hpU, hrU⟩
        exact hK _ _ hrU ⟨pU, rfl, hpU⟩
      refine grow.Each.cons ?_ ?_
      · intro A W hB hs hJ K hK
        have s0 := hs 8 (by kernel_rfl)
        simp at s0
        have kk := upc hB (cell_of_one Ha.out.b)
        rw [if_pos (by rfl)]
        clear hs hJ
        go_simp
        exact hK _ _ (Below.refl _ _) rfl
      refine grow.Each.cons ?_ ?_
      · intro A W hB hs hJ K hK
        have s0 := hs 11 (by kernel_rfl)
        simp at s0
        have kk := upc hB (cell_of_one Hb.out.b)
        rw [if_pos (by rfl)]
        clear hs hJ
        go_simp
        exact hK _ _ (Below.refl _ _) rfl
      refine grow.Each.cons ?_ ?_
      · intro A W hB hs hJ K hK
        have s0 : A.tmps.getD 59 undef = .agg #[.pointer pa] := hJ 3 59 (by kernel_rfl) (by kernel_rfl)
        simp at s0
        have s1 : A.tmps.getD 60 undef = .agg #[.pointer pb] := hJ 4 60 (by kernel_rfl) (by kernel_rfl)
        simp at s1
        rw [if_pos (by rfl)]
        clear hs hJ
        go_simp
        go_at_call 12
        refine (Meet_sm w.heap.size W pa pb oa ob (szle hB Ha.out.bel.size) (Ha.out.up hB).h (Hb.out.up hB).h Sa.out Sb.out (by decide)).mono ?_
        rintro e W2 ⟨pU, rfl, hpU, hrU⟩
        exact hK _ _ hrU ⟨pU, rfl, hpU⟩
      refine grow.Each.cons ?_ ?_
      · intro A W hB hs hJ K hK
        obtain ⟨pN58, s0, hN58⟩ := hJ 2 58 (by kernel_rfl) (by kernel_rfl)
        simp at s0
        obtain ⟨pN61, s1, hN61⟩ := hJ 5 61 (by kernel_rfl) (by kernel_rfl)
        simp at s1
        rw [if_pos (by rfl)]
        clear hs hJ
        go_simp
        go_at_call 9
        refine (Add_sm w.heap.size W pN58 pN61 (metO fJoin oa ob) (metO fMeet oa ob) (szle hB Ha.out.bel.size) hN58 hN61 (Sm.met fJoin Sa.out Sb.out) (Sm.met fMeet Sa.out Sb.out) (by decide)).mono ?_
        rintro e W2 ⟨pU, rfl, hpU, hrU⟩
        exact hK _ _ hrU ⟨pU, rfl, hpU⟩
      refine grow.Each.cons ?_ ?_
      · intro A W hB hs hJ K hK
        have s0 := hs 2 (by kernel_rfl)
        simp at s0
        rw [if_pos (by rfl)]
        clear hs hJ
        go_simp
        exact hK _ _ (Below.refl _ _) rfl
      refine grow.Each.cons ?_ ?_
      · intro A W hB hs hJ K hK
        obtain ⟨pN62, s0, hN62⟩ := hJ 6 62 (by kernel_rfl) (by kernel_rfl)
        simp at s0
        have s1 : A.tmps.getD 63 undef = .int .i64 x := hJ 7 63 (by kernel_rfl) (by kernel_rfl)
        simp at s1
        rw [if_pos (by rfl)]
        clear hs hJ
        go_simp
        go_at_call 8
        refine (Count_any w.heap.size W pN62 (metO fAdd (metO fJoin oa ob) (metO fMeet oa ob)) x hN62 ((Sm.met fAdd (Sm.met fJoin Sa.out Sb.out) (Sm.met fMeet Sa.out Sb.out))).ok HX.out (ca + cb) HK.out.2.1).mono ?_
        rintro e W2 ⟨rfl, hb1⟩
        exact hK _ _ hb1 rfl
      refine grow.Each.cons ?_ ?_
      · intro A W hB hs hJ K hK
        have s0 : A.tmps.getD 64 undef = .int .i64 (ca + cb) := hJ 8 64 (by kernel_rfl) (by kernel_rfl)
        simp at s0
        rw [if_pos (by rfl)]
        clear hs hJ
        go_simp
        exact hK _ _ (Below.refl _ _) rfl
      exact grow.Each.nil
    case fin =>
      intro f W hB hF
      have f0 : f 0 = .agg #[.pointer pa] := hF 0 (by decide)
      have f1 : f 1 = .agg #[.pointer pb] := hF 1 (by decide)
      obtain ⟨pN58_2, f2, -⟩ := hF 2 (by decide)
      have f3 : f 3 = .agg #[.pointer pa] := hF 3 (by decide)
      have f4 : f 4 = .agg #[.pointer pb] := hF 4 (by decide)
      obtain ⟨pN61_5, f5, -⟩ := hF 5 (by decide)
      obtain ⟨pN62_6, f6, -⟩ := hF 6 (by decide)
      have f7 : f 7 = .int .i64 x := hF 7 (by decide)
      have f8 : f 8 = .int .i64 (ca + cb) := hF 8 (by decide)
      have f9 : f 9 = .int .i64 (ca + cb) := hF 9 (by decide)
      clear hF
      generalize hA : grow.puts _ _ f _ = A'
      simp only [List.length_cons, List.length_nil, Nat.reduceAdd, grow.puts, Act.put, List.getElem?_toArray, List.getElem?_cons_zero, List.getElem?_cons_succ, Option.bind_some, List.setIfInBounds_toArray, List.set_cons_zero, List.set_cons_succ, f0, f1, f2, f3, f4, f5, f6, f7, f8, f9] at hA
      subst hA
      have Han := Lib.hid (Ha.out.up hB)
      have Hbn := Lib.hid (Hb.out.up hB)
      clear hB Ha ka Hb kb
      obtain ⟨U, hU⟩ : ∃ U, U = W := ⟨_, rfl⟩
      rw [← hU] at Han Hbn ⊢
      clear hU W
      have Ha := Han
      have Hb := Hbn
      clear Han Hbn
      have ka := cell_of_one Ha.out.b
      have kb := cell_of_one Hb.out.b
      go_wp2_with fail
      refine grow.wp_grow [grow.kEq (.int .i64 ca), grow.kEq (.agg #[.pointer pa]), grow.kEq (.int .i64 x), grow.kEq (.int .i64 ca), grow.kEq (.bool true), grow.kEq (.bool true), grow.kEq (.int .i64 (ca + cb)), grow.kEq (.agg #[.pointer pa]), grow.kEq (.int .i64 x), grow.kEq (.int .i64 ca), grow.kEq (.agg #[.pointer pb]), grow.kEq (.int .i64 x), grow.kEq (.int .i64 cb), grow.kEq (.int .i64 (ca + cb)), grow.kEq (.bool true), grow.kEq (.bool true), grow.kEq (.bool true), grow.kEq (.agg #[.pointer pa]), grow.kEq (.agg #[.pointer pb]), kBag w.heap.size (metO fLess oa ob), grow.kEq (.agg #[.pointer pa]), grow.kEq (.agg #[.pointer pb]), kBag w.heap.size (metO fMeet oa ob), kBag w.heap.size (metO fAdd (metO fLess oa ob) (metO fMeet oa ob)), grow.kEq (.int .i64 x), grow.kEq (.int .i64 ca), grow.kEq (.agg #[.pointer pa]), grow.kEq (.int .i64 x), grow.kEq (.int .i64 ca), grow.kEq (.bool true), grow.kEq (.bool true), grow.kEq (.bool true)] (by kernel_rfl) (by kernel_rfl) (by kernel_rfl) (by kernel_rfl) ?step ?fin
      case step =>
        clear ka kb
        refine grow.Each.cons ?_ ?_
        · intro A W hB hs hJ K hK
          have s0 := hs 14 (by kernel_rfl)
          simp at s0
          rw [if_pos (by rfl)]
          clear hs hJ
          go_simp
          exact hK _ _ (Below.refl _ _) rfl
        refine grow.Each.cons ?_ ?_
        · intro A W hB hs hJ K hK
          have s0 := hs 8 (by kernel_rfl)
          simp at s0
          have kk := upc hB (cell_of_one Ha.out.b)
          rw [if_pos (by rfl)]
          clear hs hJ
          go_simp
          exact hK _ _ (Below.refl _ _) rfl
        refine grow.Each.cons ?_ ?_
        · intro A W hB hs hJ K hK
          have s0 := hs 2 (by kernel_rfl)
          simp at s0
          rw [if_pos (by rfl)]
          clear hs hJ
          go_simp
          exact hK _ _ (Below.refl _ _) rfl
        refine grow.Each.cons ?_ ?_
        · intro A W hB hs hJ K hK
          have s0 : A.tmps.getD 66 undef = .agg #[.pointer pa] := hJ 1 66 (by kernel_rfl) (by kernel_rfl)
          simp at s0
          have s1 : A.tmps.getD 67 undef = .int .i64 x := hJ 2 67 (by kernel_rfl) (by kernel_rfl)
          simp at s1
          rw [if_pos (by rfl)]
          clear hs hJ
          go_simp
          go_at_call 8
          refine (Count_any w.heap.size W pa oa x (Ha.out.up hB).h (Sa.out).ok HX.out ca HCA.out).mono ?_
          rintro e W2 ⟨rfl, hb1⟩
          exact hK _ _ hb1 rfl
        refine grow.Each.cons ?_ ?_
        · intro A W hB hs hJ K hK
          have s0 : A.tmps.getD 65 undef = .int .i64 ca := hJ 0 65 (by kernel_rfl) (by kernel_rfl)
          simp at s0
          have s1 : A.tmps.getD 68 undef = .int .i64 ca := hJ 3 68 (by kernel_rfl) (by kernel_rfl)
          simp at s1
          have hq : (ca == ca) = true := by simp
          rw [if_pos (by rfl)]
          clear hs hJ
          go_simp
          exact hK _ _ (Below.refl _ _) rfl
        refine grow.Each.cons ?_ ?_
        · intro A W hB hs hJ K hK
          have s0 : A.tmps.getD 69 undef = .bool true := hJ 4 69 (by kernel_rfl) (by kernel_rfl)
          simp at s0
          rw [if_pos (by rfl)]
          clear hs hJ
          go_simp
          exact hK _ _ (Below.refl _ _) rfl
        refine grow.Each.cons ?_ ?_
        · intro A W hB hs hJ K hK
          have eg : A.tmps.getD 70 undef = .bool true := hJ 5 70 (by kernel_rfl) (by kernel_rfl)
          have s0 := hs 15 (by kernel_rfl)
          simp at s0
          rw [if_pos (grow.wanted_of (j := 5) (d := 70) (b := true) rfl (by kernel_rfl) eg)]
          clear eg
          clear hs hJ
          go_simp
          exact hK _ _ (Below.refl _ _) rfl
        refine grow.Each.cons ?_ ?_
        · intro A W hB hs hJ K hK
          have eg : A.tmps.getD 70 undef = .bool true := hJ 5 70 (by kernel_rfl) (by kernel_rfl)
          have s0 := hs 8 (by kernel_rfl)
          simp at s0
          have kk := upc hB (cell_of_one Ha.out.b)
          rw [if_pos (grow.wanted_of (j := 5) (d := 70) (b := true) rfl (by kernel_rfl) eg)]
          clear eg
          clear hs hJ
          go_simp
          exact hK _ _ (Below.refl _ _) rfl
        refine grow.Each.cons ?_ ?_
        · intro A W hB hs hJ K hK
          have eg : A.tmps.getD 70 undef = .bool true := hJ 5 70 (by kernel_rfl) (by kernel_rfl)
          have s0 := hs 2 (by kernel_rfl)
          simp at s0
          rw [if_pos (grow.wanted_of (j := 5) (d := 70) (b := true) rfl (by kernel_rfl) eg)]
          clear eg
          clear hs hJ
          go_simp
          exact hK _ _ (Below.refl _ _) rfl
        refine grow.Each.cons ?_ ?_
        · intro A W hB hs hJ K hK
          have eg : A.tmps.getD 70 undef = .bool true := hJ 5 70 (by kernel_rfl) (by kernel_rfl)
          have s0 : A.tmps.getD 72 undef = .agg #[.pointer pa] := hJ 7 72 (by kernel_rfl) (by kernel_rfl)
          simp at s0
          have s1 : A.tmps.getD 73 undef = .int .i64 x := hJ 8 73 (by kernel_rfl) (by kernel_rfl)
          simp at s1
          rw [if_pos (grow.wanted_of (j := 5) (d := 70) (b := true) rfl (by kernel_rfl) eg)]
          clear eg
          clear hs hJ
          go_simp
          go_at_call 8
          refine (Count_any w.heap.size W pa oa x (Ha.out.up hB).h (Sa.out).ok HX.out ca HCA.out).mono ?_
          rintro e W2 ⟨rfl, hb1⟩
          exact hK _ _ hb1 rfl
        refine grow.Each.cons ?_ ?_
        · intro A W hB hs hJ K hK
          have eg : A.tmps.getD 70 undef = .bool true := hJ 5 70 (by kernel_rfl) (by kernel_rfl)
          have s0 := hs 11 (by kernel_rfl)
          simp at s0
          have kk := upc hB (cell_of_one Hb.out.b)
          rw [if_pos (grow.wanted_of (j := 5) (d := 70) (b := true) rfl (by kernel_rfl) eg)]
          clear eg
          clear hs hJ
          go_simp
          exact hK _ _ (Below.refl _ _) rfl
        refine grow.Each.cons ?_ ?_
        · intro A W hB hs hJ K hK
          have eg : A.tmps.getD 70 undef = .bool true := hJ 5 70 (by kernel_rfl) (by kernel_rfl)
          have s0 := hs 2 (by kernel_rfl)
          simp at s0
          rw [if_pos (grow.wanted_of (j := 5) (d := 70) (b := true) rfl (by kernel_rfl) eg)]
          clear eg
          clear hs hJ
          go_simp
          exact hK _ _ (Below.refl _ _) rfl
        refine grow.Each.cons ?_ ?_
        · intro A W hB hs hJ K hK
          have eg : A.tmps.getD 70 undef = .bool true := hJ 5 70 (by kernel_rfl) (by kernel_rfl)
          have s0 : A.tmps.getD 75 undef = .agg #[.pointer pb] := hJ 10 75 (by kernel_rfl) (by kernel_rfl)
          simp at s0
          have s1 : A.tmps.getD 76 undef = .int .i64 x := hJ 11 76 (by kernel_rfl) (by kernel_rfl)
          simp at s1
          rw [if_pos (grow.wanted_of (j := 5) (d := 70) (b := true) rfl (by kernel_rfl) eg)]
          clear eg
          clear hs hJ
          go_simp
          go_at_call 8
          refine (Count_any w.heap.size W pb ob x (Hb.out.up hB).h (Sb.out).ok HX.out cb HCB.out).mono ?_
          rintro e W2 ⟨rfl, hb1⟩
          exact hK _ _ hb1 rfl
        refine grow.Each.cons ?_ ?_
        · intro A W hB hs hJ K hK
          have eg : A.tmps.getD 70 undef = .bool true := hJ 5 70 (by kernel_rfl) (by kernel_rfl)
          have s0 : A.tmps.getD 74 undef = .int .i64 ca := hJ 9 74 (by kernel_rfl) (by kernel_rfl)
          simp at s0
          have s1 : A.tmps.getD 77 undef = .int .i64 cb := hJ 12 77 (by kernel_rfl) (by kernel_rfl)
          simp at s1
          have hw := Hwr.out
          rw [if_pos (grow.wanted_of (j := 5) (d := 70) (b := true) rfl (by kernel_rfl) eg)]
          clear eg
          clear hs hJ
          go_simp
          exact hK _ _ (Below.refl _ _) rfl
        refine grow.Each.cons ?_ ?_
        · intro A W hB hs hJ K hK
          have eg : A.tmps.getD 70 undef = .bool true := hJ 5 70 (by kernel_rfl) (by kernel_rfl)
          have s0 : A.tmps.getD 71 undef = .int .i64 (ca + cb) := hJ 6 71 (by kernel_rfl) (by kernel_rfl)
          simp at s0
          have s1 : A.tmps.getD 78 undef = .int .i64 (ca + cb) := hJ 13 78 (by kernel_rfl) (by kernel_rfl)
          simp at s1
          have hq : (ca + cb == ca + cb) = true := by simp
          rw [if_pos (grow.wanted_of (j := 5) (d := 70) (b := true) rfl (by kernel_rfl) eg)]
          clear eg
          clear hs hJ
          go_simp
          exact hK _ _ (Below.refl _ _) rfl
        refine grow.Each.cons ?_ ?_
        · intro A W hB hs hJ K hK
          have s0 : A.tmps.getD 70 undef = .bool true := hJ 5 70 (by kernel_rfl) (by kernel_rfl)
          simp at s0
          have s1 : A.tmps.getD 79 undef = .bool true := hJ 14 79 (by kernel_rfl) (by kernel_rfl)
          simp at s1
          rw [if_pos (by rfl)]
          clear hs hJ
          go_simp
          exact hK _ _ (Below.refl _ _) rfl
        refine grow.Each.cons ?_ ?_
        · intro A W hB hs hJ K hK
          have s0 : A.tmps.getD 80 undef = .bool true := hJ 15 80 (by kernel_rfl) (by kernel_rfl)
          simp at s0
          rw [if_pos (by rfl)]
          clear hs hJ
          go_simp
          exact hK _ _ (Below.refl _ _) rfl
        refine grow.Each.cons ?_ ?_
        · intro A W hB hs hJ K hK
          have eg : A.tmps.getD 81 undef = .bool true := hJ 16 81 (by kernel_rfl) (by kernel_rfl)
          have s0 := hs 8 (by kernel_rfl)
          simp at s0
          have kk := upc hB (cell_of_one Ha.out.b)
          rw [if_pos (grow.wanted_of (j := 16) (d := 81) (b := true) rfl (by kernel_rfl) eg)]
          clear eg
          clear hs hJ
          go_simp
          exact hK _ _ (Below.refl _ _) rfl
        refine grow.Each.cons ?_ ?_
        · intro A W hB hs hJ K hK
          have eg : A.tmps.getD 81 undef = .bool true := hJ 16 81 (by kernel_rfl) (by kernel_rfl)
          have s0 := hs 11 (by kernel_rfl)
          simp at s0
          have kk := upc hB (cell_of_one Hb.out.b)
          rw [if_pos (grow.wanted_of (j := 16) (d := 81) (b := true) rfl (by kernel_rfl) eg)]
          clear eg
          clear hs hJ
          go_simp
          exact hK _ _ (Below.refl _ _) rfl
        refine grow.Each.cons ?_ ?_
        · intro A W hB hs hJ K hK
          have eg : A.tmps.getD 81 undef = .bool true := hJ 16 81 (by kernel_rfl) (by kernel_rfl)
          have s0 : A.tmps.getD 82 undef = .agg #[.pointer pa] := hJ 17 82 (by kernel_rfl) (by kernel_rfl)
          simp at s0
          have s1 : A.tmps.getD 83 undef = .agg #[.pointer pb] := hJ 18 83 (by kernel_rfl) (by kernel_rfl)
          simp at s1
          rw [if_pos (grow.wanted_of (j := 16) (d := 81) (b := true) rfl (by kernel_rfl) eg)]
          clear eg
          clear hs hJ
          go_simp
          go_at_call 10
          refine (Less_sm w.heap.size W pa pb oa ob (szle hB Ha.out.bel.size) (Ha.out.up hB).h (Hb.out.up hB).h Sa.out Sb.out (by decide)).mono ?_
          rintro e W2 ⟨pU, rfl, hpU, hrU⟩
          exact hK _ _ hrU ⟨pU, rfl, hpU⟩
        refine grow.Each.cons ?_ ?_
        · intro A W hB hs hJ K hK
          have eg : A.tmps.getD 81 undef = .bool true := hJ 16 81 (by kernel_rfl) (by kernel_rfl)
          have s0 := hs 8 (by kernel_rfl)
          simp at s0
          have kk := upc hB (cell_of_one Ha.out.b)
          rw [if_pos (grow.wanted_of (j := 16) (d := 81) (b := true) rfl (by kernel_rfl) eg)]
          clear eg
          clear hs hJ
          go_simp
          exact hK _ _ (Below.refl _ _) rfl
        refine grow.Each.cons ?_ ?_
        · intro A W hB hs hJ K hK
          have eg : A.tmps.getD 81 undef = .bool true := hJ 16 81 (by kernel_rfl) (by kernel_rfl)
          have s0 := hs 11 (by kernel_rfl)
          simp at s0
          have kk := upc hB (cell_of_one Hb.out.b)
          rw [if_pos (grow.wanted_of (j := 16) (d := 81) (b := true) rfl (by kernel_rfl) eg)]
          clear eg
          clear hs hJ
          go_simp
          exact hK _ _ (Below.refl _ _) rfl
        refine grow.Each.cons ?_ ?_
        · intro A W hB hs hJ K hK
          have eg : A.tmps.getD 81 undef = .bool true := hJ 16 81 (by kernel_rfl) (by kernel_rfl)
          have s0 : A.tmps.getD 85 undef = .agg #[.pointer pa] := hJ 20 85 (by kernel_rfl) (by kernel_rfl)
          simp at s0
          have s1 : A.tmps.getD 86 undef = .agg #[.pointer pb] := hJ 21 86 (by kernel_rfl) (by kernel_rfl)
          simp at s1
          rw [if_pos (grow.wanted_of (j := 16) (d := 81) (b := true) rfl (by kernel_rfl) eg)]
          clear eg
          clear hs hJ
          go_simp
          go_at_call 12
          refine (Meet_sm w.heap.size W pa pb oa ob (szle hB Ha.out.bel.size) (Ha.out.up hB).h (Hb.out.up hB).h Sa.out Sb.out (by decide)).mono ?_
          rintro e W2 ⟨pU, rfl, hpU, hrU⟩
          exact hK _ _ hrU ⟨pU, rfl, hpU⟩
        refine grow.Each.cons ?_ ?_
        · intro A W hB hs hJ K hK
          have eg : A.tmps.getD 81 undef = .bool true := hJ 16 81 (by kernel_rfl) (by kernel_rfl)
          obtain ⟨pN84, s0, hN84⟩ := hJ 19 84 (by kernel_rfl) (by kernel_rfl)
          simp at s0
          obtain ⟨pN87, s1, hN87⟩ := hJ 22 87 (by kernel_rfl) (by kernel_rfl)
          simp at s1
          rw [if_pos (grow.wanted_of (j := 16) (d := 81) (b := true) rfl (by kernel_rfl) eg)]
          clear eg
          clear hs hJ
          go_simp
          go_at_call 9
          refine (Add_sm w.heap.size W pN84 pN87 (metO fLess oa ob) (metO fMeet oa ob) (szle hB Ha.out.bel.size) hN84 hN87 (Sm.met fLess Sa.out Sb.out) (Sm.met fMeet Sa.out Sb.out) (by decide)).mono ?_
          rintro e W2 ⟨pU, rfl, hpU, hrU⟩
          exact hK _ _ hrU ⟨pU, rfl, hpU⟩
        refine grow.Each.cons ?_ ?_
        · intro A W hB hs hJ K hK
          have eg : A.tmps.getD 81 undef = .bool true := hJ 16 81 (by kernel_rfl) (by kernel_rfl)
          have s0 := hs 2 (by kernel_rfl)
          simp at s0
          rw [if_pos (grow.wanted_of (j := 16) (d := 81) (b := true) rfl (by kernel_rfl) eg)]
          clear eg
          clear hs hJ
          go_simp
          exact hK _ _ (Below.refl _ _) rfl
        refine grow.Each.cons ?_ ?_
        · intro A W hB hs hJ K hK
          have eg : A.tmps.getD 81 undef = .bool true := hJ 16 81 (by kernel_rfl) (by kernel_rfl)
          obtain ⟨pN88, s0, hN88⟩ := hJ 23 88 (by kernel_rfl) (by kernel_rfl)
          simp at s0
          have s1 : A.tmps.getD 89 undef = .int .i64 x := hJ 24 89 (by kernel_rfl) (by kernel_rfl)
          simp at s1
          rw [if_pos (grow.wanted_of (j := 16) (d := 81) (b := true) rfl (by kernel_rfl) eg)]
          clear eg
          clear hs hJ
          go_simp
          go_at_call 8
          refine (Count_any w.heap.size W pN88 (metO fAdd (metO fLess oa ob) (metO fMeet oa ob)) x hN88 ((Sm.met fAdd (Sm.met fLess Sa.out Sb.out) (Sm.met fMeet Sa.out Sb.out))).ok HX.out ca HK.out.2.2).mono ?_
          rintro e W2 ⟨rfl, hb1⟩
          exact hK _ _ hb1 rfl
        refine grow.Each.cons ?_ ?_
        · intro A W hB hs hJ K hK
          have eg : A.tmps.getD 81 undef = .bool true := hJ 16 81 (by kernel_rfl) (by kernel_rfl)
          have s0 := hs 8 (by kernel_rfl)
          simp at s0
          have kk := upc hB (cell_of_one Ha.out.b)
          rw [if_pos (grow.wanted_of (j := 16) (d := 81) (b := true) rfl (by kernel_rfl) eg)]
          clear eg
          clear hs hJ
          go_simp
          exact hK _ _ (Below.refl _ _) rfl
        refine grow.Each.cons ?_ ?_
        · intro A W hB hs hJ K hK
          have eg : A.tmps.getD 81 undef = .bool true := hJ 16 81 (by kernel_rfl) (by kernel_rfl)
          have s0 := hs 2 (by kernel_rfl)
          simp at s0
          rw [if_pos (grow.wanted_of (j := 16) (d := 81) (b := true) rfl (by kernel_rfl) eg)]
          clear eg
          clear hs hJ
          go_simp
          exact hK _ _ (Below.refl _ _) rfl
        refine grow.Each.cons ?_ ?_
        · intro A W hB hs hJ K hK
          have eg : A.tmps.getD 81 undef = .bool true := hJ 16 81 (by kernel_rfl) (by kernel_rfl)
          have s0 : A.tmps.getD 91 undef = .agg #[.pointer pa] := hJ 26 91 (by kernel_rfl) (by kernel_rfl)
          simp at s0
          have s1 : A.tmps.getD 92 undef = .int .i64 x := hJ 27 92 (by kernel_rfl) (by kernel_rfl)
          simp at s1
          rw [if_pos (grow.wanted_of (j := 16) (d := 81) (b := true) rfl (by kernel_rfl) eg)]
          clear eg
          clear hs hJ
          go_simp
          go_at_call 8
          refine (Count_any w.heap.size W pa oa x (Ha.out.up hB).h (Sa.out).ok HX.out ca HCA.out).mono ?_
          rintro e W2 ⟨rfl, hb1⟩
          exact hK _ _ hb1 rfl
        refine grow.Each.cons ?_ ?_
        · intro A W hB hs hJ K hK
          have eg : A.tmps.getD 81 undef = .bool true := hJ 16 81 (by kernel_rfl) (by kernel_rfl)
          have s0 : A.tmps.getD 90 undef = .int .i64 ca := hJ 25 90 (by kernel_rfl) (by kernel_rfl)
          simp at s0
          have s1 : A.tmps.getD 93 undef = .int .i64 ca := hJ 28 93 (by kernel_rfl) (by kernel_rfl)
          simp at s1
          have hq : (ca == ca) = true := by simp
          rw [if_pos (grow.wanted_of (j := 16) (d := 81) (b := true) rfl (by kernel_rfl) eg)]
          clear eg
          clear hs hJ
          go_simp
          exact hK _ _ (Below.refl _ _) rfl
        refine grow.Each.cons ?_ ?_
        · intro A W hB hs hJ K hK
          have s0 : A.tmps.getD 81 undef = .bool true := hJ 16 81 (by kernel_rfl) (by kernel_rfl)
          simp at s0
          have s1 : A.tmps.getD 94 undef = .bool true := hJ 29 94 (by kernel_rfl) (by kernel_rfl)
          simp at s1
          rw [if_pos (by rfl)]
          clear hs hJ
          go_simp
          exact hK _ _ (Below.refl _ _) rfl
        refine grow.Each.cons ?_ ?_
        · intro A W hB hs hJ K hK
          have s0 : A.tmps.getD 95 undef = .bool true := hJ 30 95 (by kernel_rfl) (by kernel_rfl)
          simp at s0
          rw [if_pos (by rfl)]
          clear hs hJ
          go_simp
          exact hK _ _ (Below.refl _ _) rfl
        exact grow.Each.nil
      case fin =>
        intro f W hB hF
        have f0 : f 0 = .int .i64 ca := hF 0 (by decide)
        have f1 : f 1 = .agg #[.pointer pa] := hF 1 (by decide)
        have f2 : f 2 = .int .i64 x := hF 2 (by decide)
        have f3 : f 3 = .int .i64 ca := hF 3 (by decide)
        have f4 : f 4 = .bool true := hF 4 (by decide)
        have f5 : f 5 = .bool true := hF 5 (by decide)
        have f6 : f 6 = .int .i64 (ca + cb) := hF 6 (by decide)
        have f7 : f 7 = .agg #[.pointer pa] := hF 7 (by decide)
        have f8 : f 8 = .int .i64 x := hF 8 (by decide)
        have f9 : f 9 = .int .i64 ca := hF 9 (by decide)
        have f10 : f 10 = .agg #[.pointer pb] := hF 10 (by decide)
        have f11 : f 11 = .int .i64 x := hF 11 (by decide)
        have f12 : f 12 = .int .i64 cb := hF 12 (by decide)
        have f13 : f 13 = .int .i64 (ca + cb) := hF 13 (by decide)
        have f14 : f 14 = .bool true := hF 14 (by decide)
        have f15 : f 15 = .bool true := hF 15 (by decide)
        have f16 : f 16 = .bool true := hF 16 (by decide)
        have f17 : f 17 = .agg #[.pointer pa] := hF 17 (by decide)
        have f18 : f 18 = .agg #[.pointer pb] := hF 18 (by decide)
        obtain ⟨pN84_19, f19, -⟩ := hF 19 (by decide)
        have f20 : f 20 = .agg #[.pointer pa] := hF 20 (by decide)
        have f21 : f 21 = .agg #[.pointer pb] := hF 21 (by decide)
        obtain ⟨pN87_22, f22, -⟩ := hF 22 (by decide)
        obtain ⟨pN88_23, f23, -⟩ := hF 23 (by decide)
        have f24 : f 24 = .int .i64 x := hF 24 (by decide)
        have f25 : f 25 = .int .i64 ca := hF 25 (by decide)
        have f26 : f 26 = .agg #[.pointer pa] := hF 26 (by decide)
        have f27 : f 27 = .int .i64 x := hF 27 (by decide)
        have f28 : f 28 = .int .i64 ca := hF 28 (by decide)
        have f29 : f 29 = .bool true := hF 29 (by decide)
        have f30 : f 30 = .bool true := hF 30 (by decide)
        have f31 : f 31 = .bool true := hF 31 (by decide)
        clear hF
        generalize hA : grow.puts _ _ f _ = A'
        simp only [List.length_cons, List.length_nil, Nat.reduceAdd, grow.puts, Act.put, List.getElem?_toArray, List.getElem?_cons_zero, List.getElem?_cons_succ, Option.bind_some, List.setIfInBounds_toArray, List.set_cons_zero, List.set_cons_succ, f0, f1, f2, f3, f4, f5, f6, f7, f8, f9, f10, f11, f12, f13, f14, f15, f16, f17, f18, f19, f20, f21, f22, f23, f24, f25, f26, f27, f28, f29, f30, f31] at hA
        subst hA
        have Hf := Lib.hid (Ha.out.up hB).bel
        clear hB ka kb Ha Hb
        go_wp2_with fail
        go_ret
        exact ⟨rfl, Hf.out⟩

theorem sums_any (a0 : Option Addr) (c0 : Nat) (l0 : List (Int × Int)) (a1 : Option Addr) (c1 : Nat) (l1 : List (Int × Int)) (x : Int) (w : World)
    (b0 : l0.length ≤ 1048576) (r0 : ReadsP w a0 l0) (i0 : ∀ p ∈ l0, I64 p.1) (b1 : l1.length ≤ 1048576) (r1 : ReadsP w a1 l1) (i1 : ∀ p ∈ l1, I64 p.1) (hx : I64 x) (hg : er.Handle w) :
    Calls Tryd.prog 3 #[.slice a0 l0.length c0, .slice a1 l1.length c1, .int .i64 x] w (pat.Yes w) :=
  sums a0 a1 c0 l0.length c1 l1.length l0 l1 x w ⟨r0, rfl, i0, b0⟩ ⟨r1, rfl, i1, b1⟩ hx hg
end Go.Proofs.YtnebmncjohoekaaDoor.bag
