/- A distributive lattice. -/
import Derived.Test.YtnebmncjohoekaaDoorBagSm
namespace Go.Proofs.YtnebmncjohoekaaDoor.bag
open Go.RowKit
open pat (PT HO OOk ocnt olist oget tk I64 lk told oput odrop ounion)


/-- all that is known of three bags -/
structure Lat (x y z : Option PT) (t1 t2 t3 : List (Int × Int)) (m1 m2 m3 : Nat) (ab ac : Bool) : Prop where
  e1 : ocnt (metO fMeet x (metO fJoin y z)) = m1
  e2 : ocnt (metO fJoin (metO fMeet x y) (metO fMeet x z)) = m1
  e3 : ocnt (metO fJoin x (metO fMeet y z)) = m2
  e4 : ocnt (metO fMeet (metO fJoin x y) (metO fJoin x z)) = m2
  e5 : ocnt (metO fJoin x (metO fMeet x y)) = m3
  e6 : ocnt x = m3
  u1 : told (metO fMeet x (metO fJoin y z)) = t1
  u2 : told (metO fJoin (metO fMeet x y) (metO fMeet x z)) = t1
  u3 : told (metO fJoin x (metO fMeet y z)) = t2
  u4 : told (metO fMeet (metO fJoin x y) (metO fJoin x z)) = t2
  u5 : told (metO fJoin x (metO fMeet x y)) = t3
  u6 : told x = t3
  b1 : m1 ≤ 8796093022208
  b2 : m2 ≤ 8796093022208
  b3 : m3 ≤ 8796093022208
  l1 : t1.length = m1
  l2 : t2.length = m2
  l3 : t3.length = m3
  i1 : decide (ocnt (metO fLess x y) = 0) = ab
  i2 : decide (ocnt (metO fLess x z) = 0) = ac
  i3 : decide (ocnt (metO fLess (metO fMeet x y) x) = 0) = true
  i4 : decide (ocnt (metO fLess x (metO fMeet x y)) = 0) = ab
  i5 : decide (ocnt (metO fLess (metO fMeet x y) y) = 0) = true
  i6 : decide (ocnt (metO fLess x (metO fJoin x y)) = 0) = true
  i7 : ab = true → ac = true → decide (ocnt (metO fLess x (metO fMeet y z)) = 0) = true
theorem clamp_meet {a b : Int} (ha : 0 ≤ a ∧ a ≤ most) (hb : 0 ≤ b ∧ b ≤ most) : clamp (fMeet a b) = min a b := by unfold fMeet; exact clamp_id (by omega) (by omega)
theorem clamp_join {a b : Int} (ha : 0 ≤ a ∧ a ≤ most) (hb : 0 ≤ b ∧ b ≤ most) : clamp (fJoin a b) = max a b := by unfold fJoin; exact clamp_id (by omega) (by omega)
theorem cnt_meet {k l : Nat} {x y : Option PT} (hx : Sm k x) (hy : Sm l y) {i : Int} (hi : I64 i) : cnt (metO fMeet x y) i = min (cnt x i) (cnt y i) := by rw [cntm fMeet zeroMeet hx hy hi, clamp_meet (hx.cnt i) (hy.cnt i)]
theorem cnt_join {k l : Nat} {x y : Option PT} (hx : Sm k x) (hy : Sm l y) {i : Int} (hi : I64 i) : cnt (metO fJoin x y) i = max (cnt x i) (cnt y i) := by rw [cntm fJoin zeroJoin hx hy hi, clamp_join (hx.cnt i) (hy.cnt i)]
theorem lat_of {x y z : Option PT} (hx : Sm 1048576 x) (hy : Sm 1048576 y) (hz : Sm 1048576 z) : ∃ t1 t2 t3 m1 m2 m3 ab ac, Lat x y z t1 t2 t3 m1 m2 m3 ab ac := by
  have hxy := Sm.met fMeet hx hy
  have hxz := Sm.met fMeet hx hz
  have hyz := Sm.met fMeet hy hz
  have jxy := Sm.met fJoin hx hy
  have jxz := Sm.met fJoin hx hz
  have jyz := Sm.met fJoin hy hz
  have s1 := Sm.met fMeet hx jyz
  have s2 := Sm.met fJoin hxy hxz
  have s3 := Sm.met fJoin hx hyz
  have s4 := Sm.met fMeet jxy jxz
  have s5 := Sm.met fJoin hx hxy
  have q1 : told (metO fMeet x (metO fJoin y z)) = told (metO fJoin (metO fMeet x y) (metO fMeet x z)) := sm_same s1 s2 fun i hi => by
    rw [cnt_meet hx jyz hi, cnt_join hy hz hi, cnt_join hxy hxz hi, cnt_meet hx hy hi, cnt_meet hx hz hi]; omega
  have q2 : told (metO fJoin x (metO fMeet y z)) = told (metO fMeet (metO fJoin x y) (metO fJoin x z)) := sm_same s3 s4 fun i hi => by
    rw [cnt_join hx hyz hi, cnt_meet hy hz hi, cnt_meet jxy jxz hi, cnt_join hx hy hi, cnt_join hx hz hi]; omega
  have q3 : told (metO fJoin x (metO fMeet x y)) = told x := sm_same s5 hx fun i hi => by
    rw [cnt_join hx hxy hi, cnt_meet hx hy hi]; omega
  have n1 := s1.n
  have n3 := s3.n
  have n6 := hx.n
  refine ⟨_, _, _, _, _, _, decide (ocnt (metO fLess x y) = 0), decide (ocnt (metO fLess x z) = 0), rfl, (told_ocnt q1).symm, rfl, (told_ocnt q2).symm, told_ocnt q3, rfl, rfl, q1.symm, rfl, q2.symm, q3, rfl, by omega, by omega, by omega, pat.told_length _, pat.told_length _, pat.told_length _, rfl, rfl, ?_, ?_, ?_, ?_, ?_⟩
  · rw [decide_eq_true_eq, in_iff hxy hx]; intro i hi; rw [cnt_meet hx hy hi]; omega
  · rw [decide_eq_decide, in_iff hx hxy, in_iff hx hy]
    constructor
    · intro h i hi; have := h i hi; rw [cnt_meet hx hy hi] at this; omega
    · intro h i hi; have := h i hi; rw [cnt_meet hx hy hi]; omega
  · rw [decide_eq_true_eq, in_iff hxy hy]; intro i hi; rw [cnt_meet hx hy hi]; omega
  · rw [decide_eq_true_eq, in_iff hx jxy]; intro i hi; rw [cnt_join hx hy hi]; omega
  · intro h1 h2
    rw [decide_eq_true_eq, in_iff hx hy] at h1
    rw [decide_eq_true_eq, in_iff hx hz] at h2
    rw [decide_eq_true_eq, in_iff hx hyz]
    intro i hi
    have := h1 i hi
    have := h2 i hi
    rw [cnt_meet hy hz hi]
    omega
set_option maxRecDepth 100000 in
set_option maxHeartbeats 16000000 in
theorem lattice (a0 a1 a2 : Option Addr) (c0 n0 c1 n1 c2 n2 : Nat) (l m n : List (Int × Int)) (w : World) (h0 : pat.Row w a0 n0 l) (h1 : pat.Row w a1 n1 m) (h2 : pat.Row w a2 n2 n) (hg : er.Handle w) :
    Calls Tryd.prog 4 #[.slice a0 n0 c0, .slice a1 n1 c1, .slice a2 n2 c2] w (pat.Yes w) := by
  have HR0 := Lib.hid h0
  have HR1 := Lib.hid h1
  have HR2 := Lib.hid h2
  have HG := Lib.hid hg
  clear hg h0 h1 h2
  go_enter Tryd.func4, Tryd.ntmps4
  go_wp2_with fail
  refine (bagged_any w).mono ?_
  rintro e w1 ⟨rfl, hb1⟩
  have HB0 := Lib.hid hb1
  clear hb1
  go_wp2_with fail
  have HC := Lib.hid (filled_any a0 c0 n0 l w1 HR0.out.len (by have := HR0.out.le; omega) (HR0.out.r.up HB0.out) HR0.out.i (HG.out.up HB0.out))
  refine HC.out.mono ?_
  rintro e v0 ⟨oa, pa, q0, m0, d0, rfl, hWe, hHo, hOw, hcn, hbe⟩
  obtain ⟨V0, hV⟩ : ∃ V, V = v0.alloc (.cells #[.pointer pa] 28) := ⟨_, rfl⟩
  have hbV : Below v0.heap.size v0 V0 := by rw [hV]; exact belowAlloc _ _
  have Sa : Hid (Sm 1048576 oa) := Lib.hid ⟨hWe.ok, hWe.bnd, by have := hWe.n; have := HR0.out.le; omega⟩
  have hbB := belowTrans hbe hbV
  have Ha : Hid (Bx w v0.heap.size oa pa V0) := Lib.hid ⟨HB0.out.trans (hbB.mono HB0.out.size), by rw [hV]; exact heap_alloc_new _ _, (pat.HO.lower hHo HB0.out.size).up hbV⟩
  have HB0n : Hid (Below w.heap.size w V0) := Lib.hid Ha.out.bel
  have HW := Lib.hid hV
  clear HB0 hWe hHo hOw hcn hbe hbV hbB hV HC
  have HB0 := HB0n
  clear HB0n
  go_wp2_with fail
  try rw [← HW.out]
  have HC := Lib.hid (filled_any a1 c1 n1 m V0 HR1.out.len (by have := HR1.out.le; omega) (HR1.out.r.up HB0.out) HR1.out.i (HG.out.up HB0.out))
  refine HC.out.mono ?_
  rintro e v1 ⟨ob, pb, q1, m1, d1, rfl, hWe, hHo, hOw, hcn, hbe⟩
  obtain ⟨V1, hV⟩ : ∃ V, V = v1.alloc (.cells #[.pointer pb] 28) := ⟨_, rfl⟩
  have hbV : Below v1.heap.size v1 V1 := by rw [hV]; exact belowAlloc _ _
  have Sb : Hid (Sm 1048576 ob) := Lib.hid ⟨hWe.ok, hWe.bnd, by have := hWe.n; have := HR1.out.le; omega⟩
  have hbB := belowTrans hbe hbV
  have Hb : Hid (Bx w v1.heap.size ob pb V1) := Lib.hid ⟨HB0.out.trans (hbB.mono HB0.out.size), by rw [hV]; exact heap_alloc_new _ _, (pat.HO.lower hHo HB0.out.size).up hbV⟩
  have Han := Lib.hid (Ha.out.up hbB)
  clear Ha
  have Ha := Han
  clear Han
  have HB0n : Hid (Below w.heap.size w V1) := Lib.hid Hb.out.bel
  clear HW
  have HW := Lib.hid hV
  clear HB0 hWe hHo hOw hcn hbe hbV hbB hV HC
  have HB0 := HB0n
  clear HB0n
  go_wp2_with fail
  try rw [← HW.out]
  have HC := Lib.hid (filled_any a2 c2 n2 n V1 HR2.out.len (by have := HR2.out.le; omega) (HR2.out.r.up HB0.out) HR2.out.i (HG.out.up HB0.out))
  refine HC.out.mono ?_
  rintro e v2 ⟨oc, pc, q2, m2, d2, rfl, hWe, hHo, hOw, hcn, hbe⟩
  obtain ⟨V2, hV⟩ : ∃ V, V = v2.alloc (.cells #[.pointer pc] 28) := ⟨_, rfl⟩
  have hbV : Below v2.heap.size v2 V2 := by rw [hV]; exact belowAlloc _ _
  have Sc : Hid (Sm 1048576 oc) := Lib.hid ⟨hWe.ok, hWe.bnd, by have := hWe.n; have := HR2.out.le; omega⟩
  have hbB := belowTrans hbe hbV
  have Hc : Hid (Bx w v2.heap.size oc pc V2) := Lib.hid ⟨HB0.out.trans (hbB.mono HB0.out.size), by rw [hV]; exact heap_alloc_new _ _, (pat.HO.lower hHo HB0.out.size).up hbV⟩
  have Han := Lib.hid (Ha.out.up hbB)
  have Hbn := Lib.hid (Hb.out.up hbB)
  clear Ha Hb
  have Ha := Han
  have Hb := Hbn
  clear Han Hbn
  have HB0n : Hid (Below w.heap.size w V2) := Lib.hid Hc.out.bel
  clear HW
  have HW := Lib.hid hV
  clear HB0 hWe hHo hOw hcn hbe hbV hbB hV HC
  have HB0 := HB0n
  clear HB0n
  have ka := cell_of_one Ha.out.b
  rw [HW.out] at ka
  have kb := cell_of_one Hb.out.b
  rw [HW.out] at kb
  have kc := cell_of_one Hc.out.b
  rw [HW.out] at kc
  go_wp2_with fail
  try rw [← HW.out]
  clear ka kb kc
  obtain ⟨t1, t2, t3, m1, m2, m3, ab, ac, hLat⟩ := lat_of Sa.out Sb.out Sc.out
  have HK := Lib.hid hLat
  clear hLat
  have ka := cell_of_one Ha.out.b
  have kb := cell_of_one Hb.out.b
  have kc := cell_of_one Hc.out.b
  refine grow.wp_grow [grow.kEq (.agg #[.pointer pa]), grow.kEq (.agg #[.pointer pb]), grow.kEq (.agg #[.pointer pc]), kBag w.heap.size (metO fJoin ob oc), kBag w.heap.size (metO fMeet oa (metO fJoin ob oc)), pat.kRow m1 t1, grow.kEq (.agg #[.pointer pa]), grow.kEq (.agg #[.pointer pb]), kBag w.heap.size (metO fMeet oa ob), grow.kEq (.agg #[.pointer pa]), grow.kEq (.agg #[.pointer pc]), kBag w.heap.size (metO fMeet oa oc), kBag w.heap.size (metO fJoin (metO fMeet oa ob) (metO fMeet oa oc)), pat.kRow m1 t1, grow.kEq (.bool true), grow.kEq (.bool true)] (by kernel_rfl) (by kernel_rfl) (by kernel_rfl) (by kernel_rfl) ?step ?fin
  case step =>
    clear ka kb kc
    refine grow.Each.cons ?_ ?_
    · intro A W hB hs hJ K hK
      have s0 := hs 8 (by kernel_rfl)
      simp at s0
      have kk := upc hB (cell_of_one Ha.out.b)
      rw [if_pos (by rfl)]
      clear hs hJ
      go_simp
      exact hK _ _ (Below.refl _ _) rfl
    refine grow.Each.cons ?_ ?_
    · intro A W hB hs hJ K hK
      have s0 := hs 11 (by kernel_rfl)
      simp at s0
      have kk := upc hB (cell_of_one Hb.out.b)
      rw [if_pos (by rfl)]
      clear hs hJ
      go_simp
      exact hK _ _ (Below.refl _ _) rfl
    refine grow.Each.cons ?_ ?_
    · intro A W hB hs hJ K hK
      have s0 := hs 14 (by kernel_rfl)
      simp at s0
      have kk := upc hB (cell_of_one Hc.out.b)
      rw [if_pos (by rfl)]
      clear hs hJ
      go_simp
      exact hK _ _ (Below.refl _ _) rfl
    refine grow.Each.cons ?_ ?_
    · intro A W hB hs hJ K hK
      have s0 : A.tmps.getD 55 undef = .agg #[.pointer pb] := hJ 1 55 (by kernel_rfl) (by kernel_rfl)
      simp at s0
      have s1 : A.tmps.getD 56 undef = .agg #[.pointer pc] := hJ 2 56 (by kernel_rfl) (by kernel_rfl)
      simp at s1
      rw [if_pos (by rfl)]
      clear hs hJ
      go_simp
      go_at_call 11
      refine (Join_sm w.heap.size W pb pc ob oc (szle hB Ha.out.bel.size) (Hb.out.up hB).h (Hc.out.up hB).h Sb.out Sc.out (by decide)).mono ?_
      rintro e W2 ⟨pU, rfl, hpU, hrU⟩
      exact hK _ _ hrU ⟨pU, rfl, hpU⟩
    refine grow.Each.cons ?_ ?_
    · intro A W hB hs hJ K hK
      have s0 : A.tmps.getD 54 undef = .agg #[.pointer pa] := hJ 0 54 (by kernel_rfl) (by kernel_rfl)
      simp at s0
      obtain ⟨pN57, s1, hN57⟩ := hJ 3 57 (by kernel_rfl) (by kernel_rfl)
      simp at s1
      rw [if_pos (by rfl)]
      clear hs hJ
      go_simp
      go_at_call 12
      refine (Meet_sm w.heap.size W pa pN57 oa (metO fJoin ob oc) (szle hB Ha.out.bel.size) (Ha.out.up hB).h hN57 Sa.out (Sm.met fJoin Sb.out Sc.out) (by decide)).mono ?_
      rintro e W2 ⟨pU, rfl, hpU, hrU⟩
      exact hK _ _ hrU ⟨pU, rfl, hpU⟩
    refine grow.Each.cons ?_ ?_
    · intro A W hB hs hJ K hK
      obtain ⟨pN58, s0, hN58⟩ := hJ 4 58 (by kernel_rfl) (by kernel_rfl)
      simp at s0
      rw [if_pos (by rfl)]
      clear hs hJ
      go_simp
      go_at_call 14
      refine (Pairs_any w.heap.size W pN58 (metO fMeet oa (metO fJoin ob oc)) m1 hN58 ((Sm.met fMeet Sa.out (Sm.met fJoin Sb.out Sc.out))).ok HK.out.e1 HK.out.b1 t1 HK.out.u1).mono ?_
      rintro e W2 ⟨a1, c1, rfl, ho1, hb1⟩
      exact hK _ _ hb1 ⟨a1, c1, rfl, OwnP.reads ho1⟩
    refine grow.Each.cons ?_ ?_
    · intro A W hB hs hJ K hK
      have s0 := hs 8 (by kernel_rfl)
      simp at s0
      have kk := upc hB (cell_of_one Ha.out.b)
      rw [if_pos (by rfl)]
      clear hs hJ
      go_simp
      exact hK _ _ (Below.refl _ _) rfl
    refine grow.Each.cons ?_ ?_
    · intro A W hB hs hJ K hK
      have s0 := hs 11 (by kernel_rfl)
      simp at s0
      have kk := upc hB (cell_of_one Hb.out.b)
      rw [if_pos (by rfl)]
      clear hs hJ
      go_simp
      exact hK _ _ (Below.refl _ _) rfl
    refine grow.Each.cons ?_ ?_
    · intro A W hB hs hJ K hK
      have s0 : A.tmps.getD 60 undef = .agg #[.pointer pa] := hJ 6 60 (by kernel_rfl) (by kernel_rfl)
      simp at s0
      have s1 : A.tmps.getD 61 undef = .agg #[.pointer pb] := hJ 7 61 (by kernel_rfl) (by kernel_rfl)
      simp at s1
      rw [if_pos (by rfl)]
      clear hs hJ
      go_simp
      go_at_call 12
      refine (Meet_sm w.heap.size W pa pb oa ob (szle hB Ha.out.bel.size) (Ha.out.up hB).h (Hb.out.up hB).h Sa.out Sb.out (by decide)).mono ?_
      rintro e W2 ⟨pU, rfl, hpU, hrU⟩
      exact hK _ _ hrU ⟨pU, rfl, hpU⟩
    refine grow.Each.cons ?_ ?_
    · intro A W hB hs hJ K hK
      have s0 := hs 8 (by kernel_rfl)
      simp at s0
      have kk := upc hB (cell_of_one Ha.out.b)
      rw [if_pos (by rfl)]
      clear hs hJ
      go_simp
      exact hK _ _ (Below.refl _ _) rfl
    refine grow.Each.cons ?_ ?_
    · intro A W hB hs hJ K hK
      have s0 := hs 14 (by kernel_rfl)
      simp at s0
      have kk := upc hB (cell_of_one Hc.out.b)
      rw [if_pos (by rfl)]
      clear hs hJ
      go_simp
      exact hK _ _ (Below.refl _ _) rfl
    refine grow.Each.cons ?_ ?_
    · intro A W hB hs hJ K hK
      have s0 : A.tmps.getD 63 undef = .agg #[.pointer pa] := hJ 9 63 (by kernel_rfl) (by kernel_rfl)
      simp at s0
      have s1 : A.tmps.getD 64 undef = .agg #[.pointer pc] := hJ 10 64 (by kernel_rfl) (by kernel_rfl)
      simp at s1
      rw [if_pos (by rfl)]
      clear hs hJ
      go_simp
      go_at_call 12
      refine (Meet_sm w.heap.size W pa pc oa oc (szle hB Ha.out.bel.size) (Ha.out.up hB).h (Hc.out.up hB).h Sa.out Sc.out (by decide)).mono ?_
      rintro e W2 ⟨pU, rfl, hpU, hrU⟩
      exact hK _ _ hrU ⟨pU, rfl, hpU⟩
    refine grow.Each.cons ?_ ?_
    · intro A W hB hs hJ K hK
      obtain ⟨pN62, s0, hN62⟩ := hJ 8 62 (by kernel_rfl) (by kernel_rfl)
      simp at s0
      obtain ⟨pN65, s1, hN65⟩ := hJ 11 65 (by kernel_rfl) (by kernel_rfl)
      simp at s1
      rw [if_pos (by rfl)]
      clear hs hJ
      go_simp
      go_at_call 11
      refine (Join_sm w.heap.size W pN62 pN65 (metO fMeet oa ob) (metO fMeet oa oc) (szle hB Ha.out.bel.size) hN62 hN65 (Sm.met fMeet Sa.out Sb.out) (Sm.met fMeet Sa.out Sc.out) (by decide)).mono ?_
      rintro e W2 ⟨pU, rfl, hpU, hrU⟩
      exact hK _ _ hrU ⟨pU, rfl, hpU⟩
    refine grow.Each.cons ?_ ?_
    · intro A W hB hs hJ K hK
      obtain ⟨pN66, s0, hN66⟩ := hJ 12 66 (by kernel_rfl) (by kernel_rfl)
      simp at s0
      rw [if_pos (by rfl)]
      clear hs hJ
      go_simp
      go_at_call 14
      refine (Pairs_any w.heap.size W pN66 (metO fJoin (metO fMeet oa ob) (metO fMeet oa oc)) m1 hN66 ((Sm.met fJoin (Sm.met fMeet Sa.out Sb.out) (Sm.met fMeet Sa.out Sc.out))).ok HK.out.e2 HK.out.b1 t1 HK.out.u2).mono ?_
      rintro e W2 ⟨a1, c1, rfl, ho1, hb1⟩
      exact hK _ _ hb1 ⟨a1, c1, rfl, OwnP.reads ho1⟩
    refine grow.Each.cons ?_ ?_
    · intro A W hB hs hJ K hK
      obtain ⟨aR59, cR59, s0, hR59⟩ := hJ 5 59 (by kernel_rfl) (by kernel_rfl)
      simp at s0
      obtain ⟨aR67, cR67, s1, hR67⟩ := hJ 13 67 (by kernel_rfl) (by kernel_rfl)
      simp at s1
      rw [if_pos (by rfl)]
      clear hs hJ
      go_simp
      go_at_call 13
      refine (samePairs_any aR59 aR67 cR59 cR67 m1 m1 t1 t1 W HK.out.l1 HK.out.l1 hR59 hR67 (by unfold maxLen; have := HK.out.b1; omega) true (decide_eq_true rfl)).mono ?_
      rintro e W2 ⟨rfl, qq, hU⟩
      exact hK _ _ (by rw [hU]; exact belowDrewN _ _) rfl
    refine grow.Each.cons ?_ ?_
    · intro A W hB hs hJ K hK
      have s0 : A.tmps.getD 68 undef = .bool true := hJ 14 68 (by kernel_rfl) (by kernel_rfl)
      simp at s0
      rw [if_pos (by rfl)]
      clear hs hJ
      go_simp
      exact hK _ _ (Below.refl _ _) rfl
    exact grow.Each.nil
  case fin =>
    intro f W hB hF
    have f0 : f 0 = .agg #[.pointer pa] := hF 0 (by decide)
    have f1 : f 1 = .agg #[.pointer pb] := hF 1 (by decide)
    have f2 : f 2 = .agg #[.pointer pc] := hF 2 (by decide)
    obtain ⟨pN57_3, f3, -⟩ := hF 3 (by decide)
    obtain ⟨pN58_4, f4, -⟩ := hF 4 (by decide)
    obtain ⟨aR59_5, cR59_5, f5, -⟩ := hF 5 (by decide)
    have f6 : f 6 = .agg #[.pointer pa] := hF 6 (by decide)
    have f7 : f 7 = .agg #[.pointer pb] := hF 7 (by decide)
    obtain ⟨pN62_8, f8, -⟩ := hF 8 (by decide)
    have f9 : f 9 = .agg #[.pointer pa] := hF 9 (by decide)
    have f10 : f 10 = .agg #[.pointer pc] := hF 10 (by decide)
    obtain ⟨pN65_11, f11, -⟩ := hF 11 (by decide)
    obtain ⟨pN66_12, f12, -⟩ := hF 12 (by decide)
    obtain ⟨aR67_13, cR67_13, f13, -⟩ := hF 13 (by decide)
    have f14 : f 14 = .bool true := hF 14 (by decide)
    have f15 : f 15 = .bool true := hF 15 (by decide)
    clear hF
    generalize hA : grow.puts _ _ f _ = A'
    simp only [List.length_cons, List.length_nil, Nat.reduceAdd, grow.puts, Act.put, List.getElem?_toArray, List.getElem?_cons_zero, List.getElem?_cons_succ, Option.bind_some, List.setIfInBounds_toArray, List.set_cons_zero, List.set_cons_succ, f0, f1, f2, f3, f4, f5, f6, f7, f8, f9, f10, f11, f12, f13, f14, f15] at hA
    subst hA
    have Han := Lib.hid (Ha.out.up hB)
    have Hbn := Lib.hid (Hb.out.up hB)
    have Hcn := Lib.hid (Hc.out.up hB)
    clear hB Ha ka Hb kb Hc kc
    obtain ⟨U, hU⟩ : ∃ U, U = W := ⟨_, rfl⟩
    rw [← hU] at Han Hbn Hcn ⊢
    clear hU W
    have Ha := Han
    have Hb := Hbn
    have Hc := Hcn
    clear Han Hbn Hcn
    have ka := cell_of_one Ha.out.b
    have kb := cell_of_one Hb.out.b
    have kc := cell_of_one Hc.out.b
    go_wp2_with fail
    refine grow.wp_grow [grow.kEq (.agg #[.pointer pa]), grow.kEq (.agg #[.pointer pb]), grow.kEq (.agg #[.pointer pc]), kBag w.heap.size (metO fMeet ob oc), kBag w.heap.size (metO fJoin oa (metO fMeet ob oc)), pat.kRow m2 t2, grow.kEq (.agg #[.pointer pa]), grow.kEq (.agg #[.pointer pb]), kBag w.heap.size (metO fJoin oa ob), grow.kEq (.agg #[.pointer pa]), grow.kEq (.agg #[.pointer pc]), kBag w.heap.size (metO fJoin oa oc), kBag w.heap.size (metO fMeet (metO fJoin oa ob) (metO fJoin oa oc)), pat.kRow m2 t2, grow.kEq (.bool true), grow.kEq (.bool true)] (by kernel_rfl) (by kernel_rfl) (by kernel_rfl) (by kernel_rfl) ?step ?fin
    case step =>
      clear ka kb kc
      refine grow.Each.cons ?_ ?_
      · intro A W hB hs hJ K hK
        have s0 := hs 8 (by kernel_rfl)
        simp at s0
        have kk := upc hB (cell_of_one Ha.out.b)
        rw [if_pos (by rfl)]
        clear hs hJ
        go_simp
        exact hK _ _ (Below.refl _ _) rfl
      refine grow.Each.cons ?_ ?_
      · intro A W hB hs hJ K hK
        have s0 := hs 11 (by kernel_rfl)
        simp at s0
        have kk := upc hB (cell_of_one Hb.out.b)
        rw [if_pos (by rfl)]
        clear hs hJ
        go_simp
        exact hK _ _ (Below.refl _ _) rfl
      refine grow.Each.cons ?_ ?_
      · intro A W hB hs hJ K hK
        have s0 := hs 14 (by kernel_rfl)
        simp at s0
        have kk := upc hB (cell_of_one Hc.out.b)
        rw [if_pos (by rfl)]
        clear hs hJ
        go_simp
        exact hK _ _ (Below.refl _ _) rfl
      refine grow.Each.cons ?_ ?_
      · intro A W hB hs hJ K hK
        have s0 : A.tmps.getD 70 undef = .agg #[.pointer pb] := hJ 1 70 (by kernel_rfl) (by kernel_rfl)
        simp at s0
        have s1 : A.tmps.getD 71 undef = .agg #[.pointer pc] := hJ 2 71 (by kernel_rfl) (by kernel_rfl)
        simp at s1
        rw [if_pos (by rfl)]
        clear hs hJ
        go_simp
        go_at_call 12
        refine (Meet_sm w.heap.size W pb pc ob oc (szle hB Ha.out.bel.size) (Hb.out.up hB).h (Hc.out.up hB).h Sb.out Sc.out (by decide)).mono ?_
        rintro e W2 ⟨pU, rfl, hpU, hrU⟩
        exact hK _ _ hrU ⟨pU, rfl, hpU⟩
      refine grow.Each.cons ?_ ?_
      · intro A W hB hs hJ K hK
        have s0 : A.tmps.getD 69 undef = .agg #[.pointer pa] := hJ 0 69 (by kernel_rfl) (by kernel_rfl)
        simp at s0
        obtain ⟨pN72, s1, hN72⟩ := hJ 3 72 (by kernel_rfl) (by kernel_rfl)
        simp at s1
        rw [if_pos (by rfl)]
        clear hs hJ
        go_simp
        go_at_call 11
        refine (Join_sm w.heap.size W pa pN72 oa (metO fMeet ob oc) (szle hB Ha.out.bel.size) (Ha.out.up hB).h hN72 Sa.out (Sm.met fMeet Sb.out Sc.out) (by decide)).mono ?_
        rintro e W2 ⟨pU, rfl, hpU, hrU⟩
        exact hK _ _ hrU ⟨pU, rfl, hpU⟩
      refine grow.Each.cons ?_ ?_
      · intro A W hB hs hJ K hK
        obtain ⟨pN73, s0, hN73⟩ := hJ 4 73 (by kernel_rfl) (by kernel_rfl)
        simp at s0
        rw [if_pos (by rfl)]
        clear hs hJ
        go_simp
        go_at_call 14
        refine (Pairs_any w.heap.size W pN73 (metO fJoin oa (metO fMeet ob oc)) m2 hN73 ((Sm.met fJoin Sa.out (Sm.met fMeet Sb.out Sc.out))).ok HK.out.e3 HK.out.b2 t2 HK.out.u3).mono ?_
        rintro e W2 ⟨a1, c1, rfl, ho1, hb1⟩
        exact hK _ _ hb1 ⟨a1, c1, rfl, OwnP.reads ho1⟩
      refine grow.Each.cons ?_ ?_
      · intro A W hB hs hJ K hK
        have s0 := hs 8 (by kernel_rfl)
        simp at s0
        have kk := upc hB (cell_of_one Ha.out.b)
        rw [if_pos (by rfl)]
        clear hs hJ
        go_simp
        exact hK _ _ (Below.refl _ _) rfl
      refine grow.Each.cons ?_ ?_
      · intro A W hB hs hJ K hK
        have s0 := hs 11 (by kernel_rfl)
        simp at s0
        have kk := upc hB (cell_of_one Hb.out.b)
        rw [if_pos (by rfl)]
        clear hs hJ
        go_simp
        exact hK _ _ (Below.refl _ _) rfl
      refine grow.Each.cons ?_ ?_
      · intro A W hB hs hJ K hK
        have s0 : A.tmps.getD 75 undef = .agg #[.pointer pa] := hJ 6 75 (by kernel_rfl) (by kernel_rfl)
        simp at s0
        have s1 : A.tmps.getD 76 undef = .agg #[.pointer pb] := hJ 7 76 (by kernel_rfl) (by kernel_rfl)
        simp at s1
        rw [if_pos (by rfl)]
        clear hs hJ
        go_simp
        go_at_call 11
        refine (Join_sm w.heap.size W pa pb oa ob (szle hB Ha.out.bel.size) (Ha.out.up hB).h (Hb.out.up hB).h Sa.out Sb.out (by decide)).mono ?_
        rintro e W2 ⟨pU, rfl, hpU, hrU⟩
        exact hK _ _ hrU ⟨pU, rfl, hpU⟩
      refine grow.Each.cons ?_ ?_
      · intro A W hB hs hJ K hK
        have s0 := hs 8 (by kernel_rfl)
        simp at s0
        have kk := upc hB (cell_of_one Ha.out.b)
        rw [if_pos (by rfl)]
        clear hs hJ
        go_simp
        exact hK _ _ (Below.refl _ _) rfl
      refine grow.Each.cons ?_ ?_
      · intro A W hB hs hJ K hK
        have s0 := hs 14 (by kernel_rfl)
        simp at s0
        have kk := upc hB (cell_of_one Hc.out.b)
        rw [if_pos (by rfl)]
        clear hs hJ
        go_simp
        exact hK _ _ (Below.refl _ _) rfl
      refine grow.Each.cons ?_ ?_
      · intro A W hB hs hJ K hK
        have s0 : A.tmps.getD 78 undef = .agg #[.pointer pa] := hJ 9 78 (by kernel_rfl) (by kernel_rfl)
        simp at s0
        have s1 : A.tmps.getD 79 undef = .agg #[.pointer pc] := hJ 10 79 (by kernel_rfl) (by kernel_rfl)
        simp at s1
        rw [if_pos (by rfl)]
        clear hs hJ
        go_simp
        go_at_call 11
        refine (Join_sm w.heap.size W pa pc oa oc (szle hB Ha.out.bel.size) (Ha.out.up hB).h (Hc.out.up hB).h Sa.out Sc.out (by decide)).mono ?_
        rintro e W2 ⟨pU, rfl, hpU, hrU⟩
        exact hK _ _ hrU ⟨pU, rfl, hpU⟩
      refine grow.Each.cons ?_ ?_
      · intro A W hB hs hJ K hK
        obtain ⟨pN77, s0, hN77⟩ := hJ 8 77 (by kernel_rfl) (by kernel_rfl)
        simp at s0
        obtain ⟨pN80, s1, hN80⟩ := hJ 11 80 (by kernel_rfl) (by kernel_rfl)
        simp at s1
        rw [if_pos (by rfl)]
        clear hs hJ
        go_simp
        go_at_call 12
        refine (Meet_sm w.heap.size W pN77 pN80 (metO fJoin oa ob) (metO fJoin oa oc) (szle hB Ha.out.bel.size) hN77 hN80 (Sm.met fJoin Sa.out Sb.out) (Sm.met fJoin Sa.out Sc.out) (by decide)).mono ?_
        rintro e W2 ⟨pU, rfl, hpU, hrU⟩
        exact hK _ _ hrU ⟨pU, rfl, hpU⟩
      refine grow.Each.cons ?_ ?_
      · intro A W hB hs hJ K hK
        obtain ⟨pN81, s0, hN81⟩ := hJ 12 81 (by kernel_rfl) (by kernel_rfl)
        simp at s0
        rw [if_pos (by rfl)]
        clear hs hJ
        go_simp
        go_at_call 14
        refine (Pairs_any w.heap.size W pN81 (metO fMeet (metO fJoin oa ob) (metO fJoin oa oc)) m2 hN81 ((Sm.met fMeet (Sm.met fJoin Sa.out Sb.out) (Sm.met fJoin Sa.out Sc.out))).ok HK.out.e4 HK.out.b2 t2 HK.out.u4).mono ?_
        rintro e W2 ⟨a1, c1, rfl, ho1, hb1⟩
        exact hK _ _ hb1 ⟨a1, c1, rfl, OwnP.reads ho1⟩
      refine grow.Each.cons ?_ ?_
      · intro A W hB hs hJ K hK
        obtain ⟨aR74, cR74, s0, hR74⟩ := hJ 5 74 (by kernel_rfl) (by kernel_rfl)
        simp at s0
        obtain ⟨aR82, cR82, s1, hR82⟩ := hJ 13 82 (by kernel_rfl) (by kernel_rfl)
        simp at s1
        rw [if_pos (by rfl)]
        clear hs hJ
        go_simp
        go_at_call 13
        refine (samePairs_any aR74 aR82 cR74 cR82 m2 m2 t2 t2 W HK.out.l2 HK.out.l2 hR74 hR82 (by unfold maxLen; have := HK.out.b2; omega) true (decide_eq_true rfl)).mono ?_
        rintro e W2 ⟨rfl, qq, hU⟩
        exact hK _ _ (by rw [hU]; exact belowDrewN _ _) rfl
      refine grow.Each.cons ?_ ?_
      · intro A W hB hs hJ K hK
        have s0 : A.tmps.getD 83 undef = .bool true := hJ 14 83 (by kernel_rfl) (by kernel_rfl)
        simp at s0
        rw [if_pos (by rfl)]
        clear hs hJ
        go_simp
        exact hK _ _ (Below.refl _ _) rfl
      exact grow.Each.nil
    case fin =>
      intro f W hB hF
      have f0 : f 0 = .agg #[.pointer pa] := hF 0 (by decide)
      have f1 : f 1 = .agg #[.pointer pb] := hF 1 (by decide)
      have f2 : f 2 = .agg #[.pointer pc] := hF 2 (by decide)
      obtain ⟨pN72_3, f3, -⟩ := hF 3 (by decide)
      obtain ⟨pN73_4, f4, -⟩ := hF 4 (by decide)
      obtain ⟨aR74_5, cR74_5, f5, -⟩ := hF 5 (by decide)
      have f6 : f 6 = .agg #[.pointer pa] := hF 6 (by decide)
      have f7 : f 7 = .agg #[.pointer pb] := hF 7 (by decide)
      obtain ⟨pN77_8, f8, -⟩ := hF 8 (by decide)
      have f9 : f 9 = .agg #[.pointer pa] := hF 9 (by decide)
      have f10 : f 10 = .agg #[.pointer pc] := hF 10 (by decide)
      obtain ⟨pN80_11, f11, -⟩ := hF 11 (by decide)
      obtain ⟨pN81_12, f12, -⟩ := hF 12 (by decide)
      obtain ⟨aR82_13, cR82_13, f13, -⟩ := hF 13 (by decide)
      have f14 : f 14 = .bool true := hF 14 (by decide)
      have f15 : f 15 = .bool true := hF 15 (by decide)
      clear hF
      generalize hA : grow.puts _ _ f _ = A'
      simp only [List.length_cons, List.length_nil, Nat.reduceAdd, grow.puts, Act.put, List.getElem?_toArray, List.getElem?_cons_zero, List.getElem?_cons_succ, Option.bind_some, List.setIfInBounds_toArray, List.set_cons_zero, List.set_cons_succ, f0, f1, f2, f3, f4, f5, f6, f7, f8, f9, f10, f11, f12, f13, f14, f15] at hA
      subst hA
      have Han := Lib.hid (Ha.out.up hB)
      have Hbn := Lib.hid (Hb.out.up hB)
      have Hcn := Lib.hid (Hc.out.up hB)
      clear hB Ha ka Hb kb Hc kc
      obtain ⟨U, hU⟩ : ∃ U, U = W := ⟨_, rfl⟩
      rw [← hU] at Han Hbn Hcn ⊢
      clear hU W
      have Ha := Han
      have Hb := Hbn
      have Hc := Hcn
      clear Han Hbn Hcn
      have ka := cell_of_one Ha.out.b
      have kb := cell_of_one Hb.out.b
      have kc := cell_of_one Hc.out.b
      go_wp2_with fail
      refine grow.wp_grow [grow.kEq (.agg #[.pointer pa]), grow.kEq (.agg #[.pointer pa]), grow.kEq (.agg #[.pointer pb]), kBag w.heap.size (metO fMeet oa ob), kBag w.heap.size (metO fJoin oa (metO fMeet oa ob)), pat.kRow m3 t3, grow.kEq (.agg #[.pointer pa]), pat.kRow m3 t3, grow.kEq (.bool true), grow.kEq (.bool true)] (by kernel_rfl) (by kernel_rfl) (by kernel_rfl) (by kernel_rfl) ?step ?fin
      case step =>
        clear ka kb kc
        refine grow.Each.cons ?_ ?_
        · intro A W hB hs hJ K hK
          have s0 := hs 8 (by kernel_rfl)
          simp at s0
          have kk := upc hB (cell_of_one Ha.out.b)
          rw [if_pos (by rfl)]
          clear hs hJ
          go_simp
          exact hK _ _ (Below.refl _ _) rfl
        refine grow.Each.cons ?_ ?_
        · intro A W hB hs hJ K hK
          have s0 := hs 8 (by kernel_rfl)
          simp at s0
          have kk := upc hB (cell_of_one Ha.out.b)
          rw [if_pos (by rfl)]
          clear hs hJ
          go_simp
          exact hK _ _ (Below.refl _ _) rfl
        refine grow.Each.cons ?_ ?_
        · intro A W hB hs hJ K hK
          have s0 := hs 11 (by kernel_rfl)
          simp at s0
          have kk := upc hB (cell_of_one Hb.out.b)
          rw [if_pos (by rfl)]
          clear hs hJ
          go_simp
          exact hK _ _ (Below.refl _ _) rfl
        refine grow.Each.cons ?_ ?_
        · intro A W hB hs hJ K hK
          have s0 : A.tmps.getD 85 undef = .agg #[.pointer pa] := hJ 1 85 (by kernel_rfl) (by kernel_rfl)
          simp at s0
          have s1 : A.tmps.getD 86 undef = .agg #[.pointer pb] := hJ 2 86 (by kernel_rfl) (by kernel_rfl)
          simp at s1
          rw [if_pos (by rfl)]
          clear hs hJ
          go_simp
          go_at_call 12
          refine (Meet_sm w.heap.size W pa pb oa ob (szle hB Ha.out.bel.size) (Ha.out.up hB).h (Hb.out.up hB).h Sa.out Sb.out (by decide)).mono ?_
          rintro e W2 ⟨pU, rfl, hpU, hrU⟩
          exact hK _ _ hrU ⟨pU, rfl, hpU⟩
        refine grow.Each.cons ?_ ?_
        · intro A W hB hs hJ K hK
          have s0 : A.tmps.getD 84 undef = .agg #[.pointer pa] := hJ 0 84 (by kernel_rfl) (by kernel_rfl)
          simp at s0
          obtain ⟨pN87, s1, hN87⟩ := hJ 3 87 (by kernel_rfl) (by kernel_rfl)
          simp at s1
          rw [if_pos (by rfl)]
          clear hs hJ
          go_simp
          go_at_call 11
          refine (Join_sm w.heap.size W pa pN87 oa (metO fMeet oa ob) (szle hB Ha.out.bel.size) (Ha.out.up hB).h hN87 Sa.out (Sm.met fMeet Sa.out Sb.out) (by decide)).mono ?_
          rintro e W2 ⟨pU, rfl, hpU, hrU⟩
          exact hK _ _ hrU ⟨pU, rfl, hpU⟩
        refine grow.Each.cons ?_ ?_
        · intro A W hB hs hJ K hK
          obtain ⟨pN88, s0, hN88⟩ := hJ 4 88 (by kernel_rfl) (by kernel_rfl)
          simp at s0
          rw [if_pos (by rfl)]
          clear hs hJ
          go_simp
          go_at_call 14
          refine (Pairs_any w.heap.size W pN88 (metO fJoin oa (metO fMeet oa ob)) m3 hN88 ((Sm.met fJoin Sa.out (Sm.met fMeet Sa.out Sb.out))).ok HK.out.e5 HK.out.b3 t3 HK.out.u5).mono ?_
          rintro e W2 ⟨a1, c1, rfl, ho1, hb1⟩
          exact hK _ _ hb1 ⟨a1, c1, rfl, OwnP.reads ho1⟩
        refine grow.Each.cons ?_ ?_
        · intro A W hB hs hJ K hK
          have s0 := hs 8 (by kernel_rfl)
          simp at s0
          have kk := upc hB (cell_of_one Ha.out.b)
          rw [if_pos (by rfl)]
          clear hs hJ
          go_simp
          exact hK _ _ (Below.refl _ _) rfl
        refine grow.Each.cons ?_ ?_
        · intro A W hB hs hJ K hK
          have s0 : A.tmps.getD 90 undef = .agg #[.pointer pa] := hJ 6 90 (by kernel_rfl) (by kernel_rfl)
          simp at s0
          rw [if_pos (by rfl)]
          clear hs hJ
          go_simp
          go_at_call 14
          refine (Pairs_any w.heap.size W pa oa m3 (Ha.out.up hB).h (Sa.out).ok HK.out.e6 HK.out.b3 t3 HK.out.u6).mono ?_
          rintro e W2 ⟨a1, c1, rfl, ho1, hb1⟩
          exact hK _ _ hb1 ⟨a1, c1, rfl, OwnP.reads ho1⟩
        refine grow.Each.cons ?_ ?_
        · intro A W hB hs hJ K hK
          obtain ⟨aR89, cR89, s0, hR89⟩ := hJ 5 89 (by kernel_rfl) (by kernel_rfl)
          simp at s0
          obtain ⟨aR91, cR91, s1, hR91⟩ := hJ 7 91 (by kernel_rfl) (by kernel_rfl)
          simp at s1
          rw [if_pos (by rfl)]
          clear hs hJ
          go_simp
          go_at_call 13
          refine (samePairs_any aR89 aR91 cR89 cR91 m3 m3 t3 t3 W HK.out.l3 HK.out.l3 hR89 hR91 (by unfold maxLen; have := HK.out.b3; omega) true (decide_eq_true rfl)).mono ?_
          rintro e W2 ⟨rfl, qq, hU⟩
          exact hK _ _ (by rw [hU]; exact belowDrewN _ _) rfl
        refine grow.Each.cons ?_ ?_
        · intro A W hB hs hJ K hK
          have s0 : A.tmps.getD 92 undef = .bool true := hJ 8 92 (by kernel_rfl) (by kernel_rfl)
          simp at s0
          rw [if_pos (by rfl)]
          clear hs hJ
          go_simp
          exact hK _ _ (Below.refl _ _) rfl
        exact grow.Each.nil
      case fin =>
        intro f W hB hF
        have f0 : f 0 = .agg #[.pointer pa] := hF 0 (by decide)
        have f1 : f 1 = .agg #[.pointer pa] := hF 1 (by decide)
        have f2 : f 2 = .agg #[.pointer pb] := hF 2 (by decide)
        obtain ⟨pN87_3, f3, -⟩ := hF 3 (by decide)
        obtain ⟨pN88_4, f4, -⟩ := hF 4 (by decide)
        obtain ⟨aR89_5, cR89_5, f5, -⟩ := hF 5 (by decide)
        have f6 : f 6 = .agg #[.pointer pa] := hF 6 (by decide)
        obtain ⟨aR91_7, cR91_7, f7, -⟩ := hF 7 (by decide)
        have f8 : f 8 = .bool true := hF 8 (by decide)
        have f9 : f 9 = .bool true := hF 9 (by decide)
        clear hF
        generalize hA : grow.puts _ _ f _ = A'
        simp only [List.length_cons, List.length_nil, Nat.reduceAdd, grow.puts, Act.put, List.getElem?_toArray, List.getElem?_cons_zero, List.getElem?_cons_succ, Option.bind_some, List.setIfInBounds_toArray, List.set_cons_zero, List.set_cons_succ, f0, f1, f2, f3, f4, f5, f6, f7, f8, f9] at hA
        subst hA
        have Han := Lib.hid (Ha.out.up hB)
        have Hbn := Lib.hid (Hb.out.up hB)
        have Hcn := Lib.hid (Hc.out.up hB)
        clear hB Ha ka Hb kb Hc kc
        obtain ⟨U, hU⟩ : ∃ U, U = W := ⟨_, rfl⟩
        rw [← hU] at Han Hbn Hcn ⊢
        clear hU W
        have Ha := Han
        have Hb := Hbn
        have Hc := Hcn
        clear Han Hbn Hcn
        have ka := cell_of_one Ha.out.b
        have kb := cell_of_one Hb.out.b
        have kc := cell_of_one Hc.out.b
        go_wp2_with fail
        refine grow.wp_grow [grow.kEq (.agg #[.pointer pa]), grow.kEq (.agg #[.pointer pb]), grow.kEq (.bool ab), grow.kEq (.agg #[.pointer pa]), grow.kEq (.agg #[.pointer pb]), kBag w.heap.size (metO fMeet oa ob), grow.kEq (.agg #[.pointer pa]), grow.kEq (.bool true), grow.kEq (.bool true), grow.kEq (.agg #[.pointer pa]), grow.kEq (.agg #[.pointer pa]), grow.kEq (.agg #[.pointer pb]), kBag w.heap.size (metO fMeet oa ob), grow.kEq (.bool ab), grow.kEq (.bool ab), grow.kEq (.bool true), grow.kEq (.bool true)] (by kernel_rfl) (by kernel_rfl) (by kernel_rfl) (by kernel_rfl) ?step ?fin
        case step =>
          clear ka kb kc
          refine grow.Each.cons ?_ ?_
          · intro A W hB hs hJ K hK
            have s0 := hs 8 (by kernel_rfl)
            simp at s0
            have kk := upc hB (cell_of_one Ha.out.b)
            rw [if_pos (by rfl)]
            clear hs hJ
            go_simp
            exact hK _ _ (Below.refl _ _) rfl
          refine grow.Each.cons ?_ ?_
          · intro A W hB hs hJ K hK
            have s0 := hs 11 (by kernel_rfl)
            simp at s0
            have kk := upc hB (cell_of_one Hb.out.b)
            rw [if_pos (by rfl)]
            clear hs hJ
            go_simp
            exact hK _ _ (Below.refl _ _) rfl
          refine grow.Each.cons ?_ ?_
          · intro A W hB hs hJ K hK
            have s0 : A.tmps.getD 93 undef = .agg #[.pointer pa] := hJ 0 93 (by kernel_rfl) (by kernel_rfl)
            simp at s0
            have s1 : A.tmps.getD 94 undef = .agg #[.pointer pb] := hJ 1 94 (by kernel_rfl) (by kernel_rfl)
            simp at s1
            rw [if_pos (by rfl)]
            clear hs hJ
            go_simp
            go_at_call 15
            refine (In_sm w.heap.size W pa pb oa ob (szle hB Ha.out.bel.size) (Ha.out.up hB).h (Hb.out.up hB).h Sa.out Sb.out (by decide) ab HK.out.i1).mono ?_
            rintro e W2 ⟨rfl, hb1⟩
            exact hK _ _ hb1 rfl
          refine grow.Each.cons ?_ ?_
          · intro A W hB hs hJ K hK
            have s0 := hs 8 (by kernel_rfl)
            simp at s0
            have kk := upc hB (cell_of_one Ha.out.b)
            rw [if_pos (by rfl)]
            clear hs hJ
            go_simp
            exact hK _ _ (Below.refl _ _) rfl
          refine grow.Each.cons ?_ ?_
          · intro A W hB hs hJ K hK
            have s0 := hs 11 (by kernel_rfl)
            simp at s0
            have kk := upc hB (cell_of_one Hb.out.b)
            rw [if_pos (by rfl)]
            clear hs hJ
            go_simp
            exact hK _ _ (Below.refl _ _) rfl
          refine grow.Each.cons ?_ ?_
          · intro A W hB hs hJ K hK
            have s0 : A.tmps.getD 96 undef = .agg #[.pointer pa] := hJ 3 96 (by kernel_rfl) (by kernel_rfl)
            simp at s0
            have s1 : A.tmps.getD 97 undef = .agg #[.pointer pb] := hJ 4 97 (by kernel_rfl) (by kernel_rfl)
            simp at s1
            rw [if_pos (by rfl)]
            clear hs hJ
            go_simp
            go_at_call 12
            refine (Meet_sm w.heap.size W pa pb oa ob (szle hB Ha.out.bel.size) (Ha.out.up hB).h (Hb.out.up hB).h Sa.out Sb.out (by decide)).mono ?_
            rintro e W2 ⟨pU, rfl, hpU, hrU⟩
            exact hK _ _ hrU ⟨pU, rfl, hpU⟩
          refine grow.Each.cons ?_ ?_
          · intro A W hB hs hJ K hK
            have s0 := hs 8 (by kernel_rfl)
            simp at s0
            have kk := upc hB (cell_of_one Ha.out.b)
            rw [if_pos (by rfl)]
            clear hs hJ
            go_simp
            exact hK _ _ (Below.refl _ _) rfl
          refine grow.Each.cons ?_ ?_
          · intro A W hB hs hJ K hK
            obtain ⟨pN98, s0, hN98⟩ := hJ 5 98 (by kernel_rfl) (by kernel_rfl)
            simp at s0
            have s1 : A.tmps.getD 99 undef = .agg #[.pointer pa] := hJ 6 99 (by kernel_rfl) (by kernel_rfl)
            simp at s1
            rw [if_pos (by rfl)]
            clear hs hJ
            go_simp
            go_at_call 15
            refine (In_sm w.heap.size W pN98 pa (metO fMeet oa ob) oa (szle hB Ha.out.bel.size) hN98 (Ha.out.up hB).h (Sm.met fMeet Sa.out Sb.out) Sa.out (by decide) true HK.out.i3).mono ?_
            rintro e W2 ⟨rfl, hb1⟩
            exact hK _ _ hb1 rfl
          refine grow.Each.cons ?_ ?_
          · intro A W hB hs hJ K hK
            have s0 : A.tmps.getD 100 undef = .bool true := hJ 7 100 (by kernel_rfl) (by kernel_rfl)
            simp at s0
            rw [if_pos (by rfl)]
            clear hs hJ
            go_simp
            exact hK _ _ (Below.refl _ _) rfl
          refine grow.Each.cons ?_ ?_
          · intro A W hB hs hJ K hK
            have eg : A.tmps.getD 101 undef = .bool true := hJ 8 101 (by kernel_rfl) (by kernel_rfl)
            have s0 := hs 8 (by kernel_rfl)
            simp at s0
            have kk := upc hB (cell_of_one Ha.out.b)
            rw [if_pos (grow.wanted_of (j := 8) (d := 101) (b := true) rfl (by kernel_rfl) eg)]
            clear eg
            clear hs hJ
            go_simp
            exact hK _ _ (Below.refl _ _) rfl
          refine grow.Each.cons ?_ ?_
          · intro A W hB hs hJ K hK
            have eg : A.tmps.getD 101 undef = .bool true := hJ 8 101 (by kernel_rfl) (by kernel_rfl)
            have s0 := hs 8 (by kernel_rfl)
            simp at s0
            have kk := upc hB (cell_of_one Ha.out.b)
            rw [if_pos (grow.wanted_of (j := 8) (d := 101) (b := true) rfl (by kernel_rfl) eg)]
            clear eg
            clear hs hJ
            go_simp
            exact hK _ _ (Below.refl _ _) rfl
          refine grow.Each.cons ?_ ?_
          · intro A W hB hs hJ K hK
            have eg : A.tmps.getD 101 undef = .bool true := hJ 8 101 (by kernel_rfl) (by kernel_rfl)
            have s0 := hs 11 (by kernel_rfl)
            simp at s0
            have kk := upc hB (cell_of_one Hb.out.b)
            rw [if_pos (grow.wanted_of (j := 8) (d := 101) (b := true) rfl (by kernel_rfl) eg)]
            clear eg
            clear hs hJ
            go_simp
            exact hK _ _ (Below.refl _ _) rfl
          refine grow.Each.cons ?_ ?_
          · intro A W hB hs hJ K hK
            have eg : A.tmps.getD 101 undef = .bool true := hJ 8 101 (by kernel_rfl) (by kernel_rfl)
            have s0 : A.tmps.getD 103 undef = .agg #[.pointer pa] := hJ 10 103 (by kernel_rfl) (by kernel_rfl)
            simp at s0
            have s1 : A.tmps.getD 104 undef = .agg #[.pointer pb] := hJ 11 104 (by kernel_rfl) (by kernel_rfl)
            simp at s1
            rw [if_pos (grow.wanted_of (j := 8) (d := 101) (b := true) rfl (by kernel_rfl) eg)]
            clear eg
            clear hs hJ
            go_simp
            go_at_call 12
            refine (Meet_sm w.heap.size W pa pb oa ob (szle hB Ha.out.bel.size) (Ha.out.up hB).h (Hb.out.up hB).h Sa.out Sb.out (by decide)).mono ?_
            rintro e W2 ⟨pU, rfl, hpU, hrU⟩
            exact hK _ _ hrU ⟨pU, rfl, hpU⟩
          refine grow.Each.cons ?_ ?_
          · intro A W hB hs hJ K hK
            have eg : A.tmps.getD 101 undef = .bool true := hJ 8 101 (by kernel_rfl) (by kernel_rfl)
            have s0 : A.tmps.getD 102 undef = .agg #[.pointer pa] := hJ 9 102 (by kernel_rfl) (by kernel_rfl)
            simp at s0
            obtain ⟨pN105, s1, hN105⟩ := hJ 12 105 (by kernel_rfl) (by kernel_rfl)
            simp at s1
            rw [if_pos (grow.wanted_of (j := 8) (d := 101) (b := true) rfl (by kernel_rfl) eg)]
            clear eg
            clear hs hJ
            go_simp
            go_at_call 15
            refine (In_sm w.heap.size W pa pN105 oa (metO fMeet oa ob) (szle hB Ha.out.bel.size) (Ha.out.up hB).h hN105 Sa.out (Sm.met fMeet Sa.out Sb.out) (by decide) ab HK.out.i4).mono ?_
            rintro e W2 ⟨rfl, hb1⟩
            exact hK _ _ hb1 rfl
          refine grow.Each.cons ?_ ?_
          · intro A W hB hs hJ K hK
            have s0 : A.tmps.getD 101 undef = .bool true := hJ 8 101 (by kernel_rfl) (by kernel_rfl)
            simp at s0
            have s1 : A.tmps.getD 106 undef = .bool ab := hJ 13 106 (by kernel_rfl) (by kernel_rfl)
            simp at s1
            rw [if_pos (by rfl)]
            clear hs hJ
            go_simp
            exact hK _ _ (Below.refl _ _) rfl
          refine grow.Each.cons ?_ ?_
          · intro A W hB hs hJ K hK
            have s0 : A.tmps.getD 95 undef = .bool ab := hJ 2 95 (by kernel_rfl) (by kernel_rfl)
            simp at s0
            have s1 : A.tmps.getD 107 undef = .bool ab := hJ 14 107 (by kernel_rfl) (by kernel_rfl)
            simp at s1
            have hq : (ab == ab) = true := by simp
            rw [if_pos (by rfl)]
            clear hs hJ
            go_simp
            exact hK _ _ (Below.refl _ _) rfl
          refine grow.Each.cons ?_ ?_
          · intro A W hB hs hJ K hK
            have s0 : A.tmps.getD 108 undef = .bool true := hJ 15 108 (by kernel_rfl) (by kernel_rfl)
            simp at s0
            rw [if_pos (by rfl)]
            clear hs hJ
            go_simp
            exact hK _ _ (Below.refl _ _) rfl
          exact grow.Each.nil
        case fin =>
          intro f W hB hF
          have f0 : f 0 = .agg #[.pointer pa] := hF 0 (by decide)
          have f1 : f 1 = .agg #[.pointer pb] := hF 1 (by decide)
          have f2 : f 2 = .bool ab := hF 2 (by decide)
          have f3 : f 3 = .agg #[.pointer pa] := hF 3 (by decide)
          have f4 : f 4 = .agg #[.pointer pb] := hF 4 (by decide)
          obtain ⟨pN98_5, f5, -⟩ := hF 5 (by decide)
          have f6 : f 6 = .agg #[.pointer pa] := hF 6 (by decide)
          have f7 : f 7 = .bool true := hF 7 (by decide)
          have f8 : f 8 = .bool true := hF 8 (by decide)
          have f9 : f 9 = .agg #[.pointer pa] := hF 9 (by decide)
          have f10 : f 10 = .agg #[.pointer pa] := hF 10 (by decide)
          have f11 : f 11 = .agg #[.pointer pb] := hF 11 (by decide)
          obtain ⟨pN105_12, f12, -⟩ := hF 12 (by decide)
          have f13 : f 13 = .bool ab := hF 13 (by decide)
          have f14 : f 14 = .bool ab := hF 14 (by decide)
          have f15 : f 15 = .bool true := hF 15 (by decide)
          have f16 : f 16 = .bool true := hF 16 (by decide)
          clear hF
          generalize hA : grow.puts _ _ f _ = A'
          simp only [List.length_cons, List.length_nil, Nat.reduceAdd, grow.puts, Act.put, List.getElem?_toArray, List.getElem?_cons_zero, List.getElem?_cons_succ, Option.bind_some, List.setIfInBounds_toArray, List.set_cons_zero, List.set_cons_succ, f0, f1, f2, f3, f4, f5, f6, f7, f8, f9, f10, f11, f12, f13, f14, f15, f16] at hA
          subst hA
          have Han := Lib.hid (Ha.out.up hB)
          have Hbn := Lib.hid (Hb.out.up hB)
          have Hcn := Lib.hid (Hc.out.up hB)
          clear hB Ha ka Hb kb Hc kc
          obtain ⟨U, hU⟩ : ∃ U, U = W := ⟨_, rfl⟩
          rw [← hU] at Han Hbn Hcn ⊢
          clear hU W
          have Ha := Han
          have Hb := Hbn
          have Hc := Hcn
          clear Han Hbn Hcn
          have ka := cell_of_one Ha.out.b
          have kb := cell_of_one Hb.out.b
          have kc := cell_of_one Hc.out.b
          go_wp2_with fail
          cases ab with
          | false =>
            refine grow.wp_grow [grow.kEq (.bool true), grow.kEq (.bool true), grow.kEq (.bool true), grow.kEq (.bool true), grow.kEq (.bool true), grow.kEq (.bool true), grow.kEq (.bool true), grow.kEq (.bool true), grow.kEq (.bool true), grow.kEq (.bool true), grow.kEq (.bool true), grow.kEq (.agg #[.pointer pa]), grow.kEq (.agg #[.pointer pb]), kBag w.heap.size (metO fMeet oa ob), grow.kEq (.agg #[.pointer pb]), grow.kEq (.bool true), grow.kEq (.bool true), grow.kEq (.bool true), grow.kEq (.agg #[.pointer pa]), grow.kEq (.agg #[.pointer pa]), grow.kEq (.agg #[.pointer pb]), kBag w.heap.size (metO fJoin oa ob), grow.kEq (.bool true), grow.kEq (.bool true), grow.kEq (.bool true), grow.kEq (.agg #[.pointer pa]), grow.kEq (.agg #[.pointer pb]), grow.kEq (.bool false), grow.kEq (.bool true), grow.kEq (.bool true), grow.kEq (undef), grow.kEq (undef), grow.kEq (undef), grow.kEq (undef), grow.kEq (.bool true), grow.kEq (.bool true), grow.kEq (undef), grow.kEq (undef), grow.kEq (undef), grow.kEq (undef), grow.kEq (undef), grow.kEq (.bool true), grow.kEq (.bool true), grow.kEq (.bool true)] (by kernel_rfl) (by kernel_rfl) (by kernel_rfl) (by kernel_rfl) ?step ?fin
            case step =>
              clear ka kb kc
              refine grow.Each.cons ?_ ?_
              · intro A W hB hs hJ K hK
                have s0 := hs 17 (by kernel_rfl)
                simp at s0
                rw [if_pos (by rfl)]
                clear hs hJ
                go_simp
                exact hK _ _ (Below.refl _ _) rfl
              refine grow.Each.cons ?_ ?_
              · intro A W hB hs hJ K hK
                have s0 : A.tmps.getD 109 undef = .bool true := hJ 0 109 (by kernel_rfl) (by kernel_rfl)
                simp at s0
                rw [if_pos (by rfl)]
                clear hs hJ
                go_simp
                exact hK _ _ (Below.refl _ _) rfl
              refine grow.Each.cons ?_ ?_
              · intro A W hB hs hJ K hK
                have eg : A.tmps.getD 110 undef = .bool true := hJ 1 110 (by kernel_rfl) (by kernel_rfl)
                have s0 := hs 18 (by kernel_rfl)
                simp at s0
                rw [if_pos (grow.wanted_of (j := 1) (d := 110) (b := true) rfl (by kernel_rfl) eg)]
                clear eg
                clear hs hJ
                go_simp
                exact hK _ _ (Below.refl _ _) rfl
              refine grow.Each.cons ?_ ?_
              · intro A W hB hs hJ K hK
                have s0 : A.tmps.getD 110 undef = .bool true := hJ 1 110 (by kernel_rfl) (by kernel_rfl)
                simp at s0
                have s1 : A.tmps.getD 111 undef = .bool true := hJ 2 111 (by kernel_rfl) (by kernel_rfl)
                simp at s1
                rw [if_pos (by rfl)]
                clear hs hJ
                go_simp
                exact hK _ _ (Below.refl _ _) rfl
              refine grow.Each.cons ?_ ?_
              · intro A W hB hs hJ K hK
                have s0 : A.tmps.getD 112 undef = .bool true := hJ 3 112 (by kernel_rfl) (by kernel_rfl)
                simp at s0
                rw [if_pos (by rfl)]
                clear hs hJ
                go_simp
                exact hK _ _ (Below.refl _ _) rfl
              refine grow.Each.cons ?_ ?_
              · intro A W hB hs hJ K hK
                have eg : A.tmps.getD 113 undef = .bool true := hJ 4 113 (by kernel_rfl) (by kernel_rfl)
                have s0 := hs 19 (by kernel_rfl)
                simp at s0
                rw [if_pos (grow.wanted_of (j := 4) (d := 113) (b := true) rfl (by kernel_rfl) eg)]
                clear eg
                clear hs hJ
                go_simp
                exact hK _ _ (Below.refl _ _) rfl
              refine grow.Each.cons ?_ ?_
              · intro A W hB hs hJ K hK
                have s0 : A.tmps.getD 113 undef = .bool true := hJ 4 113 (by kernel_rfl) (by kernel_rfl)
                simp at s0
                have s1 : A.tmps.getD 114 undef = .bool true := hJ 5 114 (by kernel_rfl) (by kernel_rfl)
                simp at s1
                rw [if_pos (by rfl)]
                clear hs hJ
                go_simp
                exact hK _ _ (Below.refl _ _) rfl
              refine grow.Each.cons ?_ ?_
              · intro A W hB hs hJ K hK
                have s0 : A.tmps.getD 115 undef = .bool true := hJ 6 115 (by kernel_rfl) (by kernel_rfl)
                simp at s0
                rw [if_pos (by rfl)]
                clear hs hJ
                go_simp
                exact hK _ _ (Below.refl _ _) rfl
              refine grow.Each.cons ?_ ?_
              · intro A W hB hs hJ K hK
                have eg : A.tmps.getD 116 undef = .bool true := hJ 7 116 (by kernel_rfl) (by kernel_rfl)
                have s0 := hs 20 (by kernel_rfl)
                simp at s0
                rw [if_pos (grow.wanted_of (j := 7) (d := 116) (b := true) rfl (by kernel_rfl) eg)]
                clear eg
                clear hs hJ
                go_simp
                exact hK _ _ (Below.refl _ _) rfl
              refine grow.Each.cons ?_ ?_
              · intro A W hB hs hJ K hK
                have s0 : A.tmps.getD 116 undef = .bool true := hJ 7 116 (by kernel_rfl) (by kernel_rfl)
                simp at s0
                have s1 : A.tmps.getD 117 undef = .bool true := hJ 8 117 (by kernel_rfl) (by kernel_rfl)
                simp at s1
                rw [if_pos (by rfl)]
                clear hs hJ
                go_simp
                exact hK _ _ (Below.refl _ _) rfl
              refine grow.Each.cons ?_ ?_
              · intro A W hB hs hJ K hK
                have s0 : A.tmps.getD 118 undef = .bool true := hJ 9 118 (by kernel_rfl) (by kernel_rfl)
                simp at s0
                rw [if_pos (by rfl)]
                clear hs hJ
                go_simp
                exact hK _ _ (Below.refl _ _) rfl
              refine grow.Each.cons ?_ ?_
              · intro A W hB hs hJ K hK
                have eg : A.tmps.getD 119 undef = .bool true := hJ 10 119 (by kernel_rfl) (by kernel_rfl)
                have s0 := hs 8 (by kernel_rfl)
                simp at s0
                have kk := upc hB (cell_of_one Ha.out.b)
                rw [if_pos (grow.wanted_of (j := 10) (d := 119) (b := true) rfl (by kernel_rfl) eg)]
                clear eg
                clear hs hJ
                go_simp
                exact hK _ _ (Below.refl _ _) rfl
              refine grow.Each.cons ?_ ?_
              · intro A W hB hs hJ K hK
                have eg : A.tmps.getD 119 undef = .bool true := hJ 10 119 (by kernel_rfl) (by kernel_rfl)
                have s0 := hs 11 (by kernel_rfl)
                simp at s0
                have kk := upc hB (cell_of_one Hb.out.b)
                rw [if_pos (grow.wanted_of (j := 10) (d := 119) (b := true) rfl (by kernel_rfl) eg)]
                clear eg
                clear hs hJ
                go_simp
                exact hK _ _ (Below.refl _ _) rfl
              refine grow.Each.cons ?_ ?_
              · intro A W hB hs hJ K hK
                have eg : A.tmps.getD 119 undef = .bool true := hJ 10 119 (by kernel_rfl) (by kernel_rfl)
                have s0 : A.tmps.getD 120 undef = .agg #[.pointer pa] := hJ 11 120 (by kernel_rfl) (by kernel_rfl)
                simp at s0
                have s1 : A.tmps.getD 121 undef = .agg #[.pointer pb] := hJ 12 121 (by kernel_rfl) (by kernel_rfl)
                simp at s1
                rw [if_pos (grow.wanted_of (j := 10) (d := 119) (b := true) rfl (by kernel_rfl) eg)]
                clear eg
                clear hs hJ
                go_simp
                go_at_call 12
                refine (Meet_sm w.heap.size W pa pb oa ob (szle hB Ha.out.bel.size) (Ha.out.up hB).h (Hb.out.up hB).h Sa.out Sb.out (by decide)).mono ?_
                rintro e W2 ⟨pU, rfl, hpU, hrU⟩
                exact hK _ _ hrU ⟨pU, rfl, hpU⟩
              refine grow.Each.cons ?_ ?_
              · intro A W hB hs hJ K hK
                have eg : A.tmps.getD 119 undef = .bool true := hJ 10 119 (by kernel_rfl) (by kernel_rfl)
                have s0 := hs 11 (by kernel_rfl)
                simp at s0
                have kk := upc hB (cell_of_one Hb.out.b)
                rw [if_pos (grow.wanted_of (j := 10) (d := 119) (b := true) rfl (by kernel_rfl) eg)]
                clear eg
                clear hs hJ
                go_simp
                exact hK _ _ (Below.refl _ _) rfl
              refine grow.Each.cons ?_ ?_
              · intro A W hB hs hJ K hK
                have eg : A.tmps.getD 119 undef = .bool true := hJ 10 119 (by kernel_rfl) (by kernel_rfl)
                obtain ⟨pN122, s0, hN122⟩ := hJ 13 122 (by kernel_rfl) (by kernel_rfl)
                simp at s0
                have s1 : A.tmps.getD 123 undef = .agg #[.pointer pb] := hJ 14 123 (by kernel_rfl) (by kernel_rfl)
                simp at s1
                rw [if_pos (grow.wanted_of (j := 10) (d := 119) (b := true) rfl (by kernel_rfl) eg)]
                clear eg
                clear hs hJ
                go_simp
                go_at_call 15
                refine (In_sm w.heap.size W pN122 pb (metO fMeet oa ob) ob (szle hB Ha.out.bel.size) hN122 (Hb.out.up hB).h (Sm.met fMeet Sa.out Sb.out) Sb.out (by decide) true HK.out.i5).mono ?_
                rintro e W2 ⟨rfl, hb1⟩
                exact hK _ _ hb1 rfl
              refine grow.Each.cons ?_ ?_
              · intro A W hB hs hJ K hK
                have s0 : A.tmps.getD 119 undef = .bool true := hJ 10 119 (by kernel_rfl) (by kernel_rfl)
                simp at s0
                have s1 : A.tmps.getD 124 undef = .bool true := hJ 15 124 (by kernel_rfl) (by kernel_rfl)
                simp at s1
                rw [if_pos (by rfl)]
                clear hs hJ
                go_simp
                exact hK _ _ (Below.refl _ _) rfl
              refine grow.Each.cons ?_ ?_
              · intro A W hB hs hJ K hK
                have s0 : A.tmps.getD 125 undef = .bool true := hJ 16 125 (by kernel_rfl) (by kernel_rfl)
                simp at s0
                rw [if_pos (by rfl)]
                clear hs hJ
                go_simp
                exact hK _ _ (Below.refl _ _) rfl
              refine grow.Each.cons ?_ ?_
              · intro A W hB hs hJ K hK
                have eg : A.tmps.getD 126 undef = .bool true := hJ 17 126 (by kernel_rfl) (by kernel_rfl)
                have s0 := hs 8 (by kernel_rfl)
                simp at s0
                have kk := upc hB (cell_of_one Ha.out.b)
                rw [if_pos (grow.wanted_of (j := 17) (d := 126) (b := true) rfl (by kernel_rfl) eg)]
                clear eg
                clear hs hJ
                go_simp
                exact hK _ _ (Below.refl _ _) rfl
              refine grow.Each.cons ?_ ?_
              · intro A W hB hs hJ K hK
                have eg : A.tmps.getD 126 undef = .bool true := hJ 17 126 (by kernel_rfl) (by kernel_rfl)
                have s0 := hs 8 (by kernel_rfl)
                simp at s0
                have kk := upc hB (cell_of_one Ha.out.b)
                rw [if_pos (grow.wanted_of (j := 17) (d := 126) (b := true) rfl (by kernel_rfl) eg)]
                clear eg
                clear hs hJ
                go_simp
                exact hK _ _ (Below.refl _ _) rfl
              refine grow.Each.cons ?_ ?_
              · intro A W hB hs hJ K hK
                have eg : A.tmps.getD 126 undef = .bool true := hJ 17 126 (by kernel_rfl) (by kernel_rfl)
                have s0 := hs 11 (by kernel_rfl)
                simp at s0
                have kk := upc hB (cell_of_one Hb.out.b)
                rw [if_pos (grow.wanted_of (j := 17) (d := 126) (b := true) rfl (by kernel_rfl) eg)]
                clear eg
                clear hs hJ
                go_simp
                exact hK _ _ (Below.refl _ _) rfl
              refine grow.Each.cons ?_ ?_
              · intro A W hB hs hJ K hK
                have eg : A.tmps.getD 126 undef = .bool true := hJ 17 126 (by kernel_rfl) (by kernel_rfl)
                have s0 : A.tmps.getD 128 undef = .agg #[.pointer pa] := hJ 19 128 (by kernel_rfl) (by kernel_rfl)
                simp at s0
                have s1 : A.tmps.getD 129 undef = .agg #[.pointer pb] := hJ 20 129 (by kernel_rfl) (by kernel_rfl)
                simp at s1
                rw [if_pos (grow.wanted_of (j := 17) (d := 126) (b := true) rfl (by kernel_rfl) eg)]
                clear eg
                clear hs hJ
                go_simp
                go_at_call 11
                refine (Join_sm w.heap.size W pa pb oa ob (szle hB Ha.out.bel.size) (Ha.out.up hB).h (Hb.out.up hB).h Sa.out Sb.out (by decide)).mono ?_
                rintro e W2 ⟨pU, rfl, hpU, hrU⟩
                exact hK _ _ hrU ⟨pU, rfl, hpU⟩
              refine grow.Each.cons ?_ ?_
              · intro A W hB hs hJ K hK
                have eg : A.tmps.getD 126 undef = .bool true := hJ 17 126 (by kernel_rfl) (by kernel_rfl)
                have s0 : A.tmps.getD 127 undef = .agg #[.pointer pa] := hJ 18 127 (by kernel_rfl) (by kernel_rfl)
                simp at s0
                obtain ⟨pN130, s1, hN130⟩ := hJ 21 130 (by kernel_rfl) (by kernel_rfl)
                simp at s1
                rw [if_pos (grow.wanted_of (j := 17) (d := 126) (b := true) rfl (by kernel_rfl) eg)]
                clear eg
                clear hs hJ
                go_simp
                go_at_call 15
                refine (In_sm w.heap.size W pa pN130 oa (metO fJoin oa ob) (szle hB Ha.out.bel.size) (Ha.out.up hB).h hN130 Sa.out (Sm.met fJoin Sa.out Sb.out) (by decide) true HK.out.i6).mono ?_
                rintro e W2 ⟨rfl, hb1⟩
                exact hK _ _ hb1 rfl
              refine grow.Each.cons ?_ ?_
              · intro A W hB hs hJ K hK
                have s0 : A.tmps.getD 126 undef = .bool true := hJ 17 126 (by kernel_rfl) (by kernel_rfl)
                simp at s0
                have s1 : A.tmps.getD 131 undef = .bool true := hJ 22 131 (by kernel_rfl) (by kernel_rfl)
                simp at s1
                rw [if_pos (by rfl)]
                clear hs hJ
                go_simp
                exact hK _ _ (Below.refl _ _) rfl
              refine grow.Each.cons ?_ ?_
              · intro A W hB hs hJ K hK
                have s0 : A.tmps.getD 132 undef = .bool true := hJ 23 132 (by kernel_rfl) (by kernel_rfl)
                simp at s0
                rw [if_pos (by rfl)]
                clear hs hJ
                go_simp
                exact hK _ _ (Below.refl _ _) rfl
              refine grow.Each.cons ?_ ?_
              · intro A W hB hs hJ K hK
                have eg : A.tmps.getD 133 undef = .bool true := hJ 24 133 (by kernel_rfl) (by kernel_rfl)
                have s0 := hs 8 (by kernel_rfl)
                simp at s0
                have kk := upc hB (cell_of_one Ha.out.b)
                rw [if_pos (grow.wanted_of (j := 24) (d := 133) (b := true) rfl (by kernel_rfl) eg)]
                clear eg
                clear hs hJ
                go_simp
                exact hK _ _ (Below.refl _ _) rfl
              refine grow.Each.cons ?_ ?_
              · intro A W hB hs hJ K hK
                have eg : A.tmps.getD 133 undef = .bool true := hJ 24 133 (by kernel_rfl) (by kernel_rfl)
                have s0 := hs 11 (by kernel_rfl)
                simp at s0
                have kk := upc hB (cell_of_one Hb.out.b)
                rw [if_pos (grow.wanted_of (j := 24) (d := 133) (b := true) rfl (by kernel_rfl) eg)]
                clear eg
                clear hs hJ
                go_simp
                exact hK _ _ (Below.refl _ _) rfl
              refine grow.Each.cons ?_ ?_
              · intro A W hB hs hJ K hK
                have eg : A.tmps.getD 133 undef = .bool true := hJ 24 133 (by kernel_rfl) (by kernel_rfl)
                have s0 : A.tmps.getD 134 undef = .agg #[.pointer pa] := hJ 25 134 (by kernel_rfl) (by kernel_rfl)
                simp at s0
                have s1 : A.tmps.getD 135 undef = .agg #[.pointer pb] := hJ 26 135 (by kernel_rfl) (by kernel_rfl)
                simp at s1
                rw [if_pos (grow.wanted_of (j := 24) (d := 133) (b := true) rfl (by kernel_rfl) eg)]
                clear eg
                clear hs hJ
                go_simp
                go_at_call 15
                refine (In_sm w.heap.size W pa pb oa ob (szle hB Ha.out.bel.size) (Ha.out.up hB).h (Hb.out.up hB).h Sa.out Sb.out (by decide) false HK.out.i1).mono ?_
                rintro e W2 ⟨rfl, hb1⟩
                exact hK _ _ hb1 rfl
              refine grow.Each.cons ?_ ?_
              · intro A W hB hs hJ K hK
                have eg : A.tmps.getD 133 undef = .bool true := hJ 24 133 (by kernel_rfl) (by kernel_rfl)
                have s0 : A.tmps.getD 136 undef = .bool false := hJ 27 136 (by kernel_rfl) (by kernel_rfl)
                simp at s0
                rw [if_pos (grow.wanted_of (j := 24) (d := 133) (b := true) rfl (by kernel_rfl) eg)]
                clear eg
                clear hs hJ
                go_simp
                exact hK _ _ (Below.refl _ _) rfl
              refine grow.Each.cons ?_ ?_
              · intro A W hB hs hJ K hK
                have eg : A.tmps.getD 133 undef = .bool true := hJ 24 133 (by kernel_rfl) (by kernel_rfl)
                have s0 : A.tmps.getD 137 undef = .bool true := hJ 28 137 (by kernel_rfl) (by kernel_rfl)
                simp at s0
                rw [if_pos (grow.wanted_of (j := 24) (d := 133) (b := true) rfl (by kernel_rfl) eg)]
                clear eg
                clear hs hJ
                go_simp
                exact hK _ _ (Below.refl _ _) rfl
              refine grow.Each.cons ?_ ?_
              · intro A W hB hs hJ K hK
                have eg : A.tmps.getD 138 undef = .bool true := hJ 29 138 (by kernel_rfl) (by kernel_rfl)
                rw [if_neg (grow.unwanted_of (j := 29) (d := 138) (b := false) (c := true) rfl (by kernel_rfl) eg (by decide))]
                exact hK _ _ (Below.refl _ _) rfl
              refine grow.Each.cons ?_ ?_
              · intro A W hB hs hJ K hK
                have eg : A.tmps.getD 138 undef = .bool true := hJ 29 138 (by kernel_rfl) (by kernel_rfl)
                rw [if_neg (grow.unwanted_of (j := 29) (d := 138) (b := false) (c := true) rfl (by kernel_rfl) eg (by decide))]
                exact hK _ _ (Below.refl _ _) rfl
              refine grow.Each.cons ?_ ?_
              · intro A W hB hs hJ K hK
                have eg : A.tmps.getD 138 undef = .bool true := hJ 29 138 (by kernel_rfl) (by kernel_rfl)
                rw [if_neg (grow.unwanted_of (j := 29) (d := 138) (b := false) (c := true) rfl (by kernel_rfl) eg (by decide))]
                exact hK _ _ (Below.refl _ _) rfl
              refine grow.Each.cons ?_ ?_
              · intro A W hB hs hJ K hK
                have eg : A.tmps.getD 138 undef = .bool true := hJ 29 138 (by kernel_rfl) (by kernel_rfl)
                rw [if_neg (grow.unwanted_of (j := 29) (d := 138) (b := false) (c := true) rfl (by kernel_rfl) eg (by decide))]
                exact hK _ _ (Below.refl _ _) rfl
              refine grow.Each.cons ?_ ?_
              · intro A W hB hs hJ K hK
                have eg : A.tmps.getD 133 undef = .bool true := hJ 24 133 (by kernel_rfl) (by kernel_rfl)
                have s0 : A.tmps.getD 138 undef = .bool true := hJ 29 138 (by kernel_rfl) (by kernel_rfl)
                simp at s0
                have s1 : A.tmps.getD 142 undef = undef := hJ 33 142 (by kernel_rfl) (by kernel_rfl)
                simp at s1
                rw [if_pos (grow.wanted_of (j := 24) (d := 133) (b := true) rfl (by kernel_rfl) eg)]
                clear eg
                clear hs hJ
                go_simp
                exact hK _ _ (Below.refl _ _) rfl
              refine grow.Each.cons ?_ ?_
              · intro A W hB hs hJ K hK
                have eg : A.tmps.getD 133 undef = .bool true := hJ 24 133 (by kernel_rfl) (by kernel_rfl)
                have s0 : A.tmps.getD 143 undef = .bool true := hJ 34 143 (by kernel_rfl) (by kernel_rfl)
                simp at s0
                rw [if_pos (grow.wanted_of (j := 24) (d := 133) (b := true) rfl (by kernel_rfl) eg)]
                clear eg
                clear hs hJ
                go_simp
                exact hK _ _ (Below.refl _ _) rfl
              refine grow.Each.cons ?_ ?_
              · intro A W hB hs hJ K hK
                have eg : A.tmps.getD 144 undef = .bool true := hJ 35 144 (by kernel_rfl) (by kernel_rfl)
                rw [if_neg (grow.unwanted_of (j := 35) (d := 144) (b := false) (c := true) rfl (by kernel_rfl) eg (by decide))]
                exact hK _ _ (Below.refl _ _) rfl
              refine grow.Each.cons ?_ ?_
              · intro A W hB hs hJ K hK
                have eg : A.tmps.getD 144 undef = .bool true := hJ 35 144 (by kernel_rfl) (by kernel_rfl)
                rw [if_neg (grow.unwanted_of (j := 35) (d := 144) (b := false) (c := true) rfl (by kernel_rfl) eg (by decide))]
                exact hK _ _ (Below.refl _ _) rfl
              refine grow.Each.cons ?_ ?_
              · intro A W hB hs hJ K hK
                have eg : A.tmps.getD 144 undef = .bool true := hJ 35 144 (by kernel_rfl) (by kernel_rfl)
                rw [if_neg (grow.unwanted_of (j := 35) (d := 144) (b := false) (c := true) rfl (by kernel_rfl) eg (by decide))]
                exact hK _ _ (Below.refl _ _) rfl
              refine grow.Each.cons ?_ ?_
              · intro A W hB hs hJ K hK
                have eg : A.tmps.getD 144 undef = .bool true := hJ 35 144 (by kernel_rfl) (by kernel_rfl)
                rw [if_neg (grow.unwanted_of (j := 35) (d := 144) (b := false) (c := true) rfl (by kernel_rfl) eg (by decide))]
                exact hK _ _ (Below.refl _ _) rfl
              refine grow.Each.cons ?_ ?_
              · intro A W hB hs hJ K hK
                have eg : A.tmps.getD 144 undef = .bool true := hJ 35 144 (by kernel_rfl) (by kernel_rfl)
                rw [if_neg (grow.unwanted_of (j := 35) (d := 144) (b := false) (c := true) rfl (by kernel_rfl) eg (by decide))]
                exact hK _ _ (Below.refl _ _) rfl
              refine grow.Each.cons ?_ ?_
              · intro A W hB hs hJ K hK
                have eg : A.tmps.getD 133 undef = .bool true := hJ 24 133 (by kernel_rfl) (by kernel_rfl)
                have s0 : A.tmps.getD 144 undef = .bool true := hJ 35 144 (by kernel_rfl) (by kernel_rfl)
                simp at s0
                have s1 : A.tmps.getD 149 undef = undef := hJ 40 149 (by kernel_rfl) (by kernel_rfl)
                simp at s1
                rw [if_pos (grow.wanted_of (j := 24) (d := 133) (b := true) rfl (by kernel_rfl) eg)]
                clear eg
                clear hs hJ
                go_simp
                exact hK _ _ (Below.refl _ _) rfl
              refine grow.Each.cons ?_ ?_
              · intro A W hB hs hJ K hK
                have s0 : A.tmps.getD 133 undef = .bool true := hJ 24 133 (by kernel_rfl) (by kernel_rfl)
                simp at s0
                have s1 : A.tmps.getD 150 undef = .bool true := hJ 41 150 (by kernel_rfl) (by kernel_rfl)
                simp at s1
                rw [if_pos (by rfl)]
                clear hs hJ
                go_simp
                exact hK _ _ (Below.refl _ _) rfl
              refine grow.Each.cons ?_ ?_
              · intro A W hB hs hJ K hK
                have s0 : A.tmps.getD 151 undef = .bool true := hJ 42 151 (by kernel_rfl) (by kernel_rfl)
                simp at s0
                rw [if_pos (by rfl)]
                clear hs hJ
                go_simp
                exact hK _ _ (Below.refl _ _) rfl
              exact grow.Each.nil
            case fin =>
              intro f W hB hF
              have f0 : f 0 = .bool true := hF 0 (by decide)
              have f1 : f 1 = .bool true := hF 1 (by decide)
              have f2 : f 2 = .bool true := hF 2 (by decide)
              have f3 : f 3 = .bool true := hF 3 (by decide)
              have f4 : f 4 = .bool true := hF 4 (by decide)
              have f5 : f 5 = .bool true := hF 5 (by decide)
              have f6 : f 6 = .bool true := hF 6 (by decide)
              have f7 : f 7 = .bool true := hF 7 (by decide)
              have f8 : f 8 = .bool true := hF 8 (by decide)
              have f9 : f 9 = .bool true := hF 9 (by decide)
              have f10 : f 10 = .bool true := hF 10 (by decide)
              have f11 : f 11 = .agg #[.pointer pa] := hF 11 (by decide)
              have f12 : f 12 = .agg #[.pointer pb] := hF 12 (by decide)
              obtain ⟨pN122_13, f13, -⟩ := hF 13 (by decide)
              have f14 : f 14 = .agg #[.pointer pb] := hF 14 (by decide)
              have f15 : f 15 = .bool true := hF 15 (by decide)
              have f16 : f 16 = .bool true := hF 16 (by decide)
              have f17 : f 17 = .bool true := hF 17 (by decide)
              have f18 : f 18 = .agg #[.pointer pa] := hF 18 (by decide)
              have f19 : f 19 = .agg #[.pointer pa] := hF 19 (by decide)
              have f20 : f 20 = .agg #[.pointer pb] := hF 20 (by decide)
              obtain ⟨pN130_21, f21, -⟩ := hF 21 (by decide)
              have f22 : f 22 = .bool true := hF 22 (by decide)
              have f23 : f 23 = .bool true := hF 23 (by decide)
              have f24 : f 24 = .bool true := hF 24 (by decide)
              have f25 : f 25 = .agg #[.pointer pa] := hF 25 (by decide)
              have f26 : f 26 = .agg #[.pointer pb] := hF 26 (by decide)
              have f27 : f 27 = .bool false := hF 27 (by decide)
              have f28 : f 28 = .bool true := hF 28 (by decide)
              have f29 : f 29 = .bool true := hF 29 (by decide)
              have f30 : f 30 = undef := hF 30 (by decide)
              have f31 : f 31 = undef := hF 31 (by decide)
              have f32 : f 32 = undef := hF 32 (by decide)
              have f33 : f 33 = undef := hF 33 (by decide)
              have f34 : f 34 = .bool true := hF 34 (by decide)
              have f35 : f 35 = .bool true := hF 35 (by decide)
              have f36 : f 36 = undef := hF 36 (by decide)
              have f37 : f 37 = undef := hF 37 (by decide)
              have f38 : f 38 = undef := hF 38 (by decide)
              have f39 : f 39 = undef := hF 39 (by decide)
              have f40 : f 40 = undef := hF 40 (by decide)
              have f41 : f 41 = .bool true := hF 41 (by decide)
              have f42 : f 42 = .bool true := hF 42 (by decide)
              have f43 : f 43 = .bool true := hF 43 (by decide)
              clear hF
              generalize hA : grow.puts _ _ f _ = A'
              simp only [List.length_cons, List.length_nil, Nat.reduceAdd, grow.puts, Act.put, List.getElem?_toArray, List.getElem?_cons_zero, List.getElem?_cons_succ, Option.bind_some, List.setIfInBounds_toArray, List.set_cons_zero, List.set_cons_succ, f0, f1, f2, f3, f4, f5, f6, f7, f8, f9, f10, f11, f12, f13, f14, f15, f16, f17, f18, f19, f20, f21, f22, f23, f24, f25, f26, f27, f28, f29, f30, f31, f32, f33, f34, f35, f36, f37, f38, f39, f40, f41, f42, f43] at hA
              subst hA
              have Hf := Lib.hid (Ha.out.up hB).bel
              clear hB ka kb kc Ha Hb Hc
              go_wp2_with fail
              go_ret
              exact ⟨rfl, Hf.out⟩
          | true =>
            cases ac with
            | false =>
              refine grow.wp_grow [grow.kEq (.bool true), grow.kEq (.bool true), grow.kEq (.bool true), grow.kEq (.bool true), grow.kEq (.bool true), grow.kEq (.bool true), grow.kEq (.bool true), grow.kEq (.bool true), grow.kEq (.bool true), grow.kEq (.bool true), grow.kEq (.bool true), grow.kEq (.agg #[.pointer pa]), grow.kEq (.agg #[.pointer pb]), kBag w.heap.size (metO fMeet oa ob), grow.kEq (.agg #[.pointer pb]), grow.kEq (.bool true), grow.kEq (.bool true), grow.kEq (.bool true), grow.kEq (.agg #[.pointer pa]), grow.kEq (.agg #[.pointer pa]), grow.kEq (.agg #[.pointer pb]), kBag w.heap.size (metO fJoin oa ob), grow.kEq (.bool true), grow.kEq (.bool true), grow.kEq (.bool true), grow.kEq (.agg #[.pointer pa]), grow.kEq (.agg #[.pointer pb]), grow.kEq (.bool true), grow.kEq (.bool false), grow.kEq (.bool false), grow.kEq (.agg #[.pointer pa]), grow.kEq (.agg #[.pointer pc]), grow.kEq (.bool false), grow.kEq (.bool true), grow.kEq (.bool true), grow.kEq (.bool true), grow.kEq (undef), grow.kEq (undef), grow.kEq (undef), grow.kEq (undef), grow.kEq (undef), grow.kEq (.bool true), grow.kEq (.bool true), grow.kEq (.bool true)] (by kernel_rfl) (by kernel_rfl) (by kernel_rfl) (by kernel_rfl) ?step ?fin
              case step =>
                clear ka kb kc
                refine grow.Each.cons ?_ ?_
                · intro A W hB hs hJ K hK
                  have s0 := hs 17 (by kernel_rfl)
                  simp at s0
                  rw [if_pos (by rfl)]
                  clear hs hJ
                  go_simp
                  exact hK _ _ (Below.refl _ _) rfl
                refine grow.Each.cons ?_ ?_
                · intro A W hB hs hJ K hK
                  have s0 : A.tmps.getD 109 undef = .bool true := hJ 0 109 (by kernel_rfl) (by kernel_rfl)
                  simp at s0
                  rw [if_pos (by rfl)]
                  clear hs hJ
                  go_simp
                  exact hK _ _ (Below.refl _ _) rfl
                refine grow.Each.cons ?_ ?_
                · intro A W hB hs hJ K hK
                  have eg : A.tmps.getD 110 undef = .bool true := hJ 1 110 (by kernel_rfl) (by kernel_rfl)
                  have s0 := hs 18 (by kernel_rfl)
                  simp at s0
                  rw [if_pos (grow.wanted_of (j := 1) (d := 110) (b := true) rfl (by kernel_rfl) eg)]
                  clear eg
                  clear hs hJ
                  go_simp
                  exact hK _ _ (Below.refl _ _) rfl
                refine grow.Each.cons ?_ ?_
                · intro A W hB hs hJ K hK
                  have s0 : A.tmps.getD 110 undef = .bool true := hJ 1 110 (by kernel_rfl) (by kernel_rfl)
                  simp at s0
                  have s1 : A.tmps.getD 111 undef = .bool true := hJ 2 111 (by kernel_rfl) (by kernel_rfl)
                  simp at s1
                  rw [if_pos (by rfl)]
                  clear hs hJ
                  go_simp
                  exact hK _ _ (Below.refl _ _) rfl
                refine grow.Each.cons ?_ ?_
                · intro A W hB hs hJ K hK
                  have s0 : A.tmps.getD 112 undef = .bool true := hJ 3 112 (by kernel_rfl) (by kernel_rfl)
                  simp at s0
                  rw [if_pos (by rfl)]
                  clear hs hJ
                  go_simp
                  exact hK _ _ (Below.refl _ _) rfl
                refine grow.Each.cons ?_ ?_
                · intro A W hB hs hJ K hK
                  have eg : A.tmps.getD 113 undef = .bool true := hJ 4 113 (by kernel_rfl) (by kernel_rfl)
                  have s0 := hs 19 (by kernel_rfl)
                  simp at s0
                  rw [if_pos (grow.wanted_of (j := 4) (d := 113) (b := true) rfl (by kernel_rfl) eg)]
                  clear eg
                  clear hs hJ
                  go_simp
                  exact hK _ _ (Below.refl _ _) rfl
                refine grow.Each.cons ?_ ?_
                · intro A W hB hs hJ K hK
                  have s0 : A.tmps.getD 113 undef = .bool true := hJ 4 113 (by kernel_rfl) (by kernel_rfl)
                  simp at s0
                  have s1 : A.tmps.getD 114 undef = .bool true := hJ 5 114 (by kernel_rfl) (by kernel_rfl)
                  simp at s1
                  rw [if_pos (by rfl)]
                  clear hs hJ
                  go_simp
                  exact hK _ _ (Below.refl _ _) rfl
                refine grow.Each.cons ?_ ?_
                · intro A W hB hs hJ K hK
                  have s0 : A.tmps.getD 115 undef = .bool true := hJ 6 115 (by kernel_rfl) (by kernel_rfl)
                  simp at s0
                  rw [if_pos (by rfl)]
                  clear hs hJ
                  go_simp
                  exact hK _ _ (Below.refl _ _) rfl
                refine grow.Each.cons ?_ ?_
                · intro A W hB hs hJ K hK
                  have eg : A.tmps.getD 116 undef = .bool true := hJ 7 116 (by kernel_rfl) (by kernel_rfl)
                  have s0 := hs 20 (by kernel_rfl)
                  simp at s0
                  rw [if_pos (grow.wanted_of (j := 7) (d := 116) (b := true) rfl (by kernel_rfl) eg)]
                  clear eg
                  clear hs hJ
                  go_simp
                  exact hK _ _ (Below.refl _ _) rfl
                refine grow.Each.cons ?_ ?_
                · intro A W hB hs hJ K hK
                  have s0 : A.tmps.getD 116 undef = .bool true := hJ 7 116 (by kernel_rfl) (by kernel_rfl)
                  simp at s0
                  have s1 : A.tmps.getD 117 undef = .bool true := hJ 8 117 (by kernel_rfl) (by kernel_rfl)
                  simp at s1
                  rw [if_pos (by rfl)]
                  clear hs hJ
                  go_simp
                  exact hK _ _ (Below.refl _ _) rfl
                refine grow.Each.cons ?_ ?_
                · intro A W hB hs hJ K hK
                  have s0 : A.tmps.getD 118 undef = .bool true := hJ 9 118 (by kernel_rfl) (by kernel_rfl)
                  simp at s0
                  rw [if_pos (by rfl)]
                  clear hs hJ
                  go_simp
                  exact hK _ _ (Below.refl _ _) rfl
                refine grow.Each.cons ?_ ?_
                · intro A W hB hs hJ K hK
                  have eg : A.tmps.getD 119 undef = .bool true := hJ 10 119 (by kernel_rfl) (by kernel_rfl)
                  have s0 := hs 8 (by kernel_rfl)
                  simp at s0
                  have kk := upc hB (cell_of_one Ha.out.b)
                  rw [if_pos (grow.wanted_of (j := 10) (d := 119) (b := true) rfl (by kernel_rfl) eg)]
                  clear eg
                  clear hs hJ
                  go_simp
                  exact hK _ _ (Below.refl _ _) rfl
                refine grow.Each.cons ?_ ?_
                · intro A W hB hs hJ K hK
                  have eg : A.tmps.getD 119 undef = .bool true := hJ 10 119 (by kernel_rfl) (by kernel_rfl)
                  have s0 := hs 11 (by kernel_rfl)
                  simp at s0
                  have kk := upc hB (cell_of_one Hb.out.b)
                  rw [if_pos (grow.wanted_of (j := 10) (d := 119) (b := true) rfl (by kernel_rfl) eg)]
                  clear eg
                  clear hs hJ
                  go_simp
                  exact hK _ _ (Below.refl _ _) rfl
                refine grow.Each.cons ?_ ?_
                · intro A W hB hs hJ K hK
                  have eg : A.tmps.getD 119 undef = .bool true := hJ 10 119 (by kernel_rfl) (by kernel_rfl)
                  have s0 : A.tmps.getD 120 undef = .agg #[.pointer pa] := hJ 11 120 (by kernel_rfl) (by kernel_rfl)
                  simp at s0
                  have s1 : A.tmps.getD 121 undef = .agg #[.pointer pb] := hJ 12 121 (by kernel_rfl) (by kernel_rfl)
                  simp at s1
                  rw [if_pos (grow.wanted_of (j := 10) (d := 119) (b := true) rfl (by kernel_rfl) eg)]
                  clear eg
                  clear hs hJ
                  go_simp
                  go_at_call 12
                  refine (Meet_sm w.heap.size W pa pb oa ob (szle hB Ha.out.bel.size) (Ha.out.up hB).h (Hb.out.up hB).h Sa.out Sb.out (by decide)).mono ?_
                  rintro e W2 ⟨pU, rfl, hpU, hrU⟩
                  exact hK _ _ hrU ⟨pU, rfl, hpU⟩
                refine grow.Each.cons ?_ ?_
                · intro A W hB hs hJ K hK
                  have eg : A.tmps.getD 119 undef = .bool true := hJ 10 119 (by kernel_rfl) (by kernel_rfl)
                  have s0 := hs 11 (by kernel_rfl)
                  simp at s0
                  have kk := upc hB (cell_of_one Hb.out.b)
                  rw [if_pos (grow.wanted_of (j := 10) (d := 119) (b := true) rfl (by kernel_rfl) eg)]
                  clear eg
                  clear hs hJ
                  go_simp
                  exact hK _ _ (Below.refl _ _) rfl
                refine grow.Each.cons ?_ ?_
                · intro A W hB hs hJ K hK
                  have eg : A.tmps.getD 119 undef = .bool true := hJ 10 119 (by kernel_rfl) (by kernel_rfl)
                  obtain ⟨pN122, s0, hN122⟩ := hJ 13 122 (by kernel_rfl) (by kernel_rfl)
                  simp at s0
                  have s1 : A.tmps.getD 123 undef = .agg #[.pointer pb] := hJ 14 123 (by kernel_rfl) (by kernel_rfl)
                  simp at s1
                  rw [if_pos (grow.wanted_of (j := 10) (d := 119) (b := true) rfl (by kernel_rfl) eg)]
                  clear eg
                  clear hs hJ
                  go_simp
                  go_at_call 15
                  refine (In_sm w.heap.size W pN122 pb (metO fMeet oa ob) ob (szle hB Ha.out.bel.size) hN122 (Hb.out.up hB).h (Sm.met fMeet Sa.out Sb.out) Sb.out (by decide) true HK.out.i5).mono ?_
                  rintro e W2 ⟨rfl, hb1⟩
                  exact hK _ _ hb1 rfl
                refine grow.Each.cons ?_ ?_
                · intro A W hB hs hJ K hK
                  have s0 : A.tmps.getD 119 undef = .bool true := hJ 10 119 (by kernel_rfl) (by kernel_rfl)
                  simp at s0
                  have s1 : A.tmps.getD 124 undef = .bool true := hJ 15 124 (by kernel_rfl) (by kernel_rfl)
                  simp at s1
                  rw [if_pos (by rfl)]
                  clear hs hJ
                  go_simp
                  exact hK _ _ (Below.refl _ _) rfl
                refine grow.Each.cons ?_ ?_
                · intro A W hB hs hJ K hK
                  have s0 : A.tmps.getD 125 undef = .bool true := hJ 16 125 (by kernel_rfl) (by kernel_rfl)
                  simp at s0
                  rw [if_pos (by rfl)]
                  clear hs hJ
                  go_simp
                  exact hK _ _ (Below.refl _ _) rfl
                refine grow.Each.cons ?_ ?_
                · intro A W hB hs hJ K hK
                  have eg : A.tmps.getD 126 undef = .bool true := hJ 17 126 (by kernel_rfl) (by kernel_rfl)
                  have s0 := hs 8 (by kernel_rfl)
                  simp at s0
                  have kk := upc hB (cell_of_one Ha.out.b)
                  rw [if_pos (grow.wanted_of (j := 17) (d := 126) (b := true) rfl (by kernel_rfl) eg)]
                  clear eg
                  clear hs hJ
                  go_simp
                  exact hK _ _ (Below.refl _ _) rfl
                refine grow.Each.cons ?_ ?_
                · intro A W hB hs hJ K hK
                  have eg : A.tmps.getD 126 undef = .bool true := hJ 17 126 (by kernel_rfl) (by kernel_rfl)
                  have s0 := hs 8 (by kernel_rfl)
                  simp at s0
                  have kk := upc hB (cell_of_one Ha.out.b)
                  rw [if_pos (grow.wanted_of (j := 17) (d := 126) (b := true) rfl (by kernel_rfl) eg)]
                  clear eg
                  clear hs hJ
                  go_simp
                  exact hK _ _ (Below.refl _ _) rfl
                refine grow.Each.cons ?_ ?_
                · intro A W hB hs hJ K hK
                  have eg : A.tmps.getD 126 undef = .bool true := hJ 17 126 (by kernel_rfl) (by kernel_rfl)
                  have s0 := hs 11 (by kernel_rfl)
                  simp at s0
                  have kk := upc hB (cell_of_one Hb.out.b)
                  rw [if_pos (grow.wanted_of (j := 17) (d := 126) (b := true) rfl (by kernel_rfl) eg)]
                  clear eg
                  clear hs hJ
                  go_simp
                  exact hK _ _ (Below.refl _ _) rfl
                refine grow.Each.cons ?_ ?_
                · intro A W hB hs hJ K hK
                  have eg : A.tmps.getD 126 undef = .bool true := hJ 17 126 (by kernel_rfl) (by kernel_rfl)
                  have s0 : A.tmps.getD 128 undef = .agg #[.pointer pa] := hJ 19 128 (by kernel_rfl) (by kernel_rfl)
                  simp at s0
                  have s1 : A.tmps.getD 129 undef = .agg #[.pointer pb] := hJ 20 129 (by kernel_rfl) (by kernel_rfl)
                  simp at s1
                  rw [if_pos (grow.wanted_of (j := 17) (d := 126) (b := true) rfl (by kernel_rfl) eg)]
                  clear eg
                  clear hs hJ
                  go_simp
                  go_at_call 11
                  refine (Join_sm w.heap.size W pa pb oa ob (szle hB Ha.out.bel.size) (Ha.out.up hB).h (Hb.out.up hB).h Sa.out Sb.out (by decide)).mono ?_
                  rintro e W2 ⟨pU, rfl, hpU, hrU⟩
                  exact hK _ _ hrU ⟨pU, rfl, hpU⟩
                refine grow.Each.cons ?_ ?_
                · intro A W hB hs hJ K hK
                  have eg : A.tmps.getD 126 undef = .bool true := hJ 17 126 (by kernel_rfl) (by kernel_rfl)
                  have s0 : A.tmps.getD 127 undef = .agg #[.pointer pa] := hJ 18 127 (by kernel_rfl) (by kernel_rfl)
                  simp at s0
                  obtain ⟨pN130, s1, hN130⟩ := hJ 21 130 (by kernel_rfl) (by kernel_rfl)
                  simp at s1
                  rw [if_pos (grow.wanted_of (j := 17) (d := 126) (b := true) rfl (by kernel_rfl) eg)]
                  clear eg
                  clear hs hJ
                  go_simp
                  go_at_call 15
                  refine (In_sm w.heap.size W pa pN130 oa (metO fJoin oa ob) (szle hB Ha.out.bel.size) (Ha.out.up hB).h hN130 Sa.out (Sm.met fJoin Sa.out Sb.out) (by decide) true HK.out.i6).mono ?_
                  rintro e W2 ⟨rfl, hb1⟩
                  exact hK _ _ hb1 rfl
                refine grow.Each.cons ?_ ?_
                · intro A W hB hs hJ K hK
                  have s0 : A.tmps.getD 126 undef = .bool true := hJ 17 126 (by kernel_rfl) (by kernel_rfl)
                  simp at s0
                  have s1 : A.tmps.getD 131 undef = .bool true := hJ 22 131 (by kernel_rfl) (by kernel_rfl)
                  simp at s1
                  rw [if_pos (by rfl)]
                  clear hs hJ
                  go_simp
                  exact hK _ _ (Below.refl _ _) rfl
                refine grow.Each.cons ?_ ?_
                · intro A W hB hs hJ K hK
                  have s0 : A.tmps.getD 132 undef = .bool true := hJ 23 132 (by kernel_rfl) (by kernel_rfl)
                  simp at s0
                  rw [if_pos (by rfl)]
                  clear hs hJ
                  go_simp
                  exact hK _ _ (Below.refl _ _) rfl
                refine grow.Each.cons ?_ ?_
                · intro A W hB hs hJ K hK
                  have eg : A.tmps.getD 133 undef = .bool true := hJ 24 133 (by kernel_rfl) (by kernel_rfl)
                  have s0 := hs 8 (by kernel_rfl)
                  simp at s0
                  have kk := upc hB (cell_of_one Ha.out.b)
                  rw [if_pos (grow.wanted_of (j := 24) (d := 133) (b := true) rfl (by kernel_rfl) eg)]
                  clear eg
                  clear hs hJ
                  go_simp
                  exact hK _ _ (Below.refl _ _) rfl
                refine grow.Each.cons ?_ ?_
                · intro A W hB hs hJ K hK
                  have eg : A.tmps.getD 133 undef = .bool true := hJ 24 133 (by kernel_rfl) (by kernel_rfl)
                  have s0 := hs 11 (by kernel_rfl)
                  simp at s0
                  have kk := upc hB (cell_of_one Hb.out.b)
                  rw [if_pos (grow.wanted_of (j := 24) (d := 133) (b := true) rfl (by kernel_rfl) eg)]
                  clear eg
                  clear hs hJ
                  go_simp
                  exact hK _ _ (Below.refl _ _) rfl
                refine grow.Each.cons ?_ ?_
                · intro A W hB hs hJ K hK
                  have eg : A.tmps.getD 133 undef = .bool true := hJ 24 133 (by kernel_rfl) (by kernel_rfl)
                  have s0 : A.tmps.getD 134 undef = .agg #[.pointer pa] := hJ 25 134 (by kernel_rfl) (by kernel_rfl)
                  simp at s0
                  have s1 : A.tmps.getD 135 undef = .agg #[.pointer pb] := hJ 26 135 (by kernel_rfl) (by kernel_rfl)
                  simp at s1
                  rw [if_pos (grow.wanted_of (j := 24) (d := 133) (b := true) rfl (by kernel_rfl) eg)]
                  clear eg
                  clear hs hJ
                  go_simp
                  go_at_call 15
                  refine (In_sm w.heap.size W pa pb oa ob (szle hB Ha.out.bel.size) (Ha.out.up hB).h (Hb.out.up hB).h Sa.out Sb.out (by decide) true HK.out.i1).mono ?_
                  rintro e W2 ⟨rfl, hb1⟩
                  exact hK _ _ hb1 rfl
                refine grow.Each.cons ?_ ?_
                · intro A W hB hs hJ K hK
                  have eg : A.tmps.getD 133 undef = .bool true := hJ 24 133 (by kernel_rfl) (by kernel_rfl)
                  have s0 : A.tmps.getD 136 undef = .bool true := hJ 27 136 (by kernel_rfl) (by kernel_rfl)
                  simp at s0
                  rw [if_pos (grow.wanted_of (j := 24) (d := 133) (b := true) rfl (by kernel_rfl) eg)]
                  clear eg
                  clear hs hJ
                  go_simp
                  exact hK _ _ (Below.refl _ _) rfl
                refine grow.Each.cons ?_ ?_
                · intro A W hB hs hJ K hK
                  have eg : A.tmps.getD 133 undef = .bool true := hJ 24 133 (by kernel_rfl) (by kernel_rfl)
                  have s0 : A.tmps.getD 137 undef = .bool false := hJ 28 137 (by kernel_rfl) (by kernel_rfl)
                  simp at s0
                  rw [if_pos (grow.wanted_of (j := 24) (d := 133) (b := true) rfl (by kernel_rfl) eg)]
                  clear eg
                  clear hs hJ
                  go_simp
                  exact hK _ _ (Below.refl _ _) rfl
                refine grow.Each.cons ?_ ?_
                · intro A W hB hs hJ K hK
                  have eg : A.tmps.getD 138 undef = .bool false := hJ 29 138 (by kernel_rfl) (by kernel_rfl)
                  have s0 := hs 8 (by kernel_rfl)
                  simp at s0
                  have kk := upc hB (cell_of_one Ha.out.b)
                  rw [if_pos (grow.wanted_of (j := 29) (d := 138) (b := false) rfl (by kernel_rfl) eg)]
                  clear eg
                  clear hs hJ
                  go_simp
                  exact hK _ _ (Below.refl _ _) rfl
                refine grow.Each.cons ?_ ?_
                · intro A W hB hs hJ K hK
                  have eg : A.tmps.getD 138 undef = .bool false := hJ 29 138 (by kernel_rfl) (by kernel_rfl)
                  have s0 := hs 14 (by kernel_rfl)
                  simp at s0
                  have kk := upc hB (cell_of_one Hc.out.b)
                  rw [if_pos (grow.wanted_of (j := 29) (d := 138) (b := false) rfl (by kernel_rfl) eg)]
                  clear eg
                  clear hs hJ
                  go_simp
                  exact hK _ _ (Below.refl _ _) rfl
                refine grow.Each.cons ?_ ?_
                · intro A W hB hs hJ K hK
                  have eg : A.tmps.getD 138 undef = .bool false := hJ 29 138 (by kernel_rfl) (by kernel_rfl)
                  have s0 : A.tmps.getD 139 undef = .agg #[.pointer pa] := hJ 30 139 (by kernel_rfl) (by kernel_rfl)
                  simp at s0
                  have s1 : A.tmps.getD 140 undef = .agg #[.pointer pc] := hJ 31 140 (by kernel_rfl) (by kernel_rfl)
                  simp at s1
                  rw [if_pos (grow.wanted_of (j := 29) (d := 138) (b := false) rfl (by kernel_rfl) eg)]
                  clear eg
                  clear hs hJ
                  go_simp
                  go_at_call 15
                  refine (In_sm w.heap.size W pa pc oa oc (szle hB Ha.out.bel.size) (Ha.out.up hB).h (Hc.out.up hB).h Sa.out Sc.out (by decide) false HK.out.i2).mono ?_
                  rintro e W2 ⟨rfl, hb1⟩
                  exact hK _ _ hb1 rfl
                refine grow.Each.cons ?_ ?_
                · intro A W hB hs hJ K hK
                  have eg : A.tmps.getD 138 undef = .bool false := hJ 29 138 (by kernel_rfl) (by kernel_rfl)
                  have s0 : A.tmps.getD 141 undef = .bool false := hJ 32 141 (by kernel_rfl) (by kernel_rfl)
                  simp at s0
                  rw [if_pos (grow.wanted_of (j := 29) (d := 138) (b := false) rfl (by kernel_rfl) eg)]
                  clear eg
                  clear hs hJ
                  go_simp
                  exact hK _ _ (Below.refl _ _) rfl
                refine grow.Each.cons ?_ ?_
                · intro A W hB hs hJ K hK
                  have eg : A.tmps.getD 133 undef = .bool true := hJ 24 133 (by kernel_rfl) (by kernel_rfl)
                  have s0 : A.tmps.getD 138 undef = .bool false := hJ 29 138 (by kernel_rfl) (by kernel_rfl)
                  simp at s0
                  have s1 : A.tmps.getD 142 undef = .bool true := hJ 33 142 (by kernel_rfl) (by kernel_rfl)
                  simp at s1
                  rw [if_pos (grow.wanted_of (j := 24) (d := 133) (b := true) rfl (by kernel_rfl) eg)]
                  clear eg
                  clear hs hJ
                  go_simp
                  exact hK _ _ (Below.refl _ _) rfl
                refine grow.Each.cons ?_ ?_
                · intro A W hB hs hJ K hK
                  have eg : A.tmps.getD 133 undef = .bool true := hJ 24 133 (by kernel_rfl) (by kernel_rfl)
                  have s0 : A.tmps.getD 143 undef = .bool true := hJ 34 143 (by kernel_rfl) (by kernel_rfl)
                  simp at s0
                  rw [if_pos (grow.wanted_of (j := 24) (d := 133) (b := true) rfl (by kernel_rfl) eg)]
                  clear eg
                  clear hs hJ
                  go_simp
                  exact hK _ _ (Below.refl _ _) rfl
                refine grow.Each.cons ?_ ?_
                · intro A W hB hs hJ K hK
                  have eg : A.tmps.getD 144 undef = .bool true := hJ 35 144 (by kernel_rfl) (by kernel_rfl)
                  rw [if_neg (grow.unwanted_of (j := 35) (d := 144) (b := false) (c := true) rfl (by kernel_rfl) eg (by decide))]
                  exact hK _ _ (Below.refl _ _) rfl
                refine grow.Each.cons ?_ ?_
                · intro A W hB hs hJ K hK
                  have eg : A.tmps.getD 144 undef = .bool true := hJ 35 144 (by kernel_rfl) (by kernel_rfl)
                  rw [if_neg (grow.unwanted_of (j := 35) (d := 144) (b := false) (c := true) rfl (by kernel_rfl) eg (by decide))]
                  exact hK _ _ (Below.refl _ _) rfl
                refine grow.Each.cons ?_ ?_
                · intro A W hB hs hJ K hK
                  have eg : A.tmps.getD 144 undef = .bool true := hJ 35 144 (by kernel_rfl) (by kernel_rfl)
                  rw [if_neg (grow.unwanted_of (j := 35) (d := 144) (b := false) (c := true) rfl (by kernel_rfl) eg (by decide))]
                  exact hK _ _ (Below.refl _ _) rfl
                refine grow.Each.cons ?_ ?_
                · intro A W hB hs hJ K hK
                  have eg : A.tmps.getD 144 undef = .bool true := hJ 35 144 (by kernel_rfl) (by kernel_rfl)
                  rw [if_neg (grow.unwanted_of (j := 35) (d := 144) (b := false) (c := true) rfl (by kernel_rfl) eg (by decide))]
                  exact hK _ _ (Below.refl _ _) rfl
                refine grow.Each.cons ?_ ?_
                · intro A W hB hs hJ K hK
                  have eg : A.tmps.getD 144 undef = .bool true := hJ 35 144 (by kernel_rfl) (by kernel_rfl)
                  rw [if_neg (grow.unwanted_of (j := 35) (d := 144) (b := false) (c := true) rfl (by kernel_rfl) eg (by decide))]
                  exact hK _ _ (Below.refl _ _) rfl
                refine grow.Each.cons ?_ ?_
                · intro A W hB hs hJ K hK
                  have eg : A.tmps.getD 133 undef = .bool true := hJ 24 133 (by kernel_rfl) (by kernel_rfl)
                  have s0 : A.tmps.getD 144 undef = .bool true := hJ 35 144 (by kernel_rfl) (by kernel_rfl)
                  simp at s0
                  have s1 : A.tmps.getD 149 undef = undef := hJ 40 149 (by kernel_rfl) (by kernel_rfl)
                  simp at s1
                  rw [if_pos (grow.wanted_of (j := 24) (d := 133) (b := true) rfl (by kernel_rfl) eg)]
                  clear eg
                  clear hs hJ
                  go_simp
                  exact hK _ _ (Below.refl _ _) rfl
                refine grow.Each.cons ?_ ?_
                · intro A W hB hs hJ K hK
                  have s0 : A.tmps.getD 133 undef = .bool true := hJ 24 133 (by kernel_rfl) (by kernel_rfl)
                  simp at s0
                  have s1 : A.tmps.getD 150 undef = .bool true := hJ 41 150 (by kernel_rfl) (by kernel_rfl)
                  simp at s1
                  rw [if_pos (by rfl)]
                  clear hs hJ
                  go_simp
                  exact hK _ _ (Below.refl _ _) rfl
                refine grow.Each.cons ?_ ?_
                · intro A W hB hs hJ K hK
                  have s0 : A.tmps.getD 151 undef = .bool true := hJ 42 151 (by kernel_rfl) (by kernel_rfl)
                  simp at s0
                  rw [if_pos (by rfl)]
                  clear hs hJ
                  go_simp
                  exact hK _ _ (Below.refl _ _) rfl
                exact grow.Each.nil
              case fin =>
                intro f W hB hF
                have f0 : f 0 = .bool true := hF 0 (by decide)
                have f1 : f 1 = .bool true := hF 1 (by decide)
                have f2 : f 2 = .bool true := hF 2 (by decide)
                have f3 : f 3 = .bool true := hF 3 (by decide)
                have f4 : f 4 = .bool true := hF 4 (by decide)
                have f5 : f 5 = .bool true := hF 5 (by decide)
                have f6 : f 6 = .bool true := hF 6 (by decide)
                have f7 : f 7 = .bool true := hF 7 (by decide)
                have f8 : f 8 = .bool true := hF 8 (by decide)
                have f9 : f 9 = .bool true := hF 9 (by decide)
                have f10 : f 10 = .bool true := hF 10 (by decide)
                have f11 : f 11 = .agg #[.pointer pa] := hF 11 (by decide)
                have f12 : f 12 = .agg #[.pointer pb] := hF 12 (by decide)
                obtain ⟨pN122_13, f13, -⟩ := hF 13 (by decide)
                have f14 : f 14 = .agg #[.pointer pb] := hF 14 (by decide)
                have f15 : f 15 = .bool true := hF 15 (by decide)
                have f16 : f 16 = .bool true := hF 16 (by decide)
                have f17 : f 17 = .bool true := hF 17 (by decide)
                have f18 : f 18 = .agg #[.pointer pa] := hF 18 (by decide)
                have f19 : f 19 = .agg #[.pointer pa] := hF 19 (by decide)
                have f20 : f 20 = .agg #[.pointer pb] := hF 20 (by decide)
                obtain ⟨pN130_21, f21, -⟩ := hF 21 (by decide)
                have f22 : f 22 = .bool true := hF 22 (by decide)
                have f23 : f 23 = .bool true := hF 23 (by decide)
                have f24 : f 24 = .bool true := hF 24 (by decide)
                have f25 : f 25 = .agg #[.pointer pa] := hF 25 (by decide)
                have f26 : f 26 = .agg #[.pointer pb] := hF 26 (by decide)
                have f27 : f 27 = .bool true := hF 27 (by decide)
                have f28 : f 28 = .bool false := hF 28 (by decide)
                have f29 : f 29 = .bool false := hF 29 (by decide)
                have f30 : f 30 = .agg #[.pointer pa] := hF 30 (by decide)
                have f31 : f 31 = .agg #[.pointer pc] := hF 31 (by decide)
                have f32 : f 32 = .bool false := hF 32 (by decide)
                have f33 : f 33 = .bool true := hF 33 (by decide)
                have f34 : f 34 = .bool true := hF 34 (by decide)
                have f35 : f 35 = .bool true := hF 35 (by decide)
                have f36 : f 36 = undef := hF 36 (by decide)
                have f37 : f 37 = undef := hF 37 (by decide)
                have f38 : f 38 = undef := hF 38 (by decide)
                have f39 : f 39 = undef := hF 39 (by decide)
                have f40 : f 40 = undef := hF 40 (by decide)
                have f41 : f 41 = .bool true := hF 41 (by decide)
                have f42 : f 42 = .bool true := hF 42 (by decide)
                have f43 : f 43 = .bool true := hF 43 (by decide)
                clear hF
                generalize hA : grow.puts _ _ f _ = A'
                simp only [List.length_cons, List.length_nil, Nat.reduceAdd, grow.puts, Act.put, List.getElem?_toArray, List.getElem?_cons_zero, List.getElem?_cons_succ, Option.bind_some, List.setIfInBounds_toArray, List.set_cons_zero, List.set_cons_succ, f0, f1, f2, f3, f4, f5, f6, f7, f8, f9, f10, f11, f12, f13, f14, f15, f16, f17, f18, f19, f20, f21, f22, f23, f24, f25, f26, f27, f28, f29, f30, f31, f32, f33, f34, f35, f36, f37, f38, f39, f40, f41, f42, f43] at hA
                subst hA
                have Hf := Lib.hid (Ha.out.up hB).bel
                clear hB ka kb kc Ha Hb Hc
                go_wp2_with fail
                go_ret
                exact ⟨rfl, Hf.out⟩
            | true =>
              refine grow.wp_grow [grow.kEq (.bool true), grow.kEq (.bool true), grow.kEq (.bool true), grow.kEq (.bool true), grow.kEq (.bool true), grow.kEq (.bool true), grow.kEq (.bool true), grow.kEq (.bool true), grow.kEq (.bool true), grow.kEq (.bool true), grow.kEq (.bool true), grow.kEq (.agg #[.pointer pa]), grow.kEq (.agg #[.pointer pb]), kBag w.heap.size (metO fMeet oa ob), grow.kEq (.agg #[.pointer pb]), grow.kEq (.bool true), grow.kEq (.bool true), grow.kEq (.bool true), grow.kEq (.agg #[.pointer pa]), grow.kEq (.agg #[.pointer pa]), grow.kEq (.agg #[.pointer pb]), kBag w.heap.size (metO fJoin oa ob), grow.kEq (.bool true), grow.kEq (.bool true), grow.kEq (.bool true), grow.kEq (.agg #[.pointer pa]), grow.kEq (.agg #[.pointer pb]), grow.kEq (.bool true), grow.kEq (.bool false), grow.kEq (.bool false), grow.kEq (.agg #[.pointer pa]), grow.kEq (.agg #[.pointer pc]), grow.kEq (.bool true), grow.kEq (.bool false), grow.kEq (.bool false), grow.kEq (.bool false), grow.kEq (.agg #[.pointer pa]), grow.kEq (.agg #[.pointer pb]), grow.kEq (.agg #[.pointer pc]), kBag w.heap.size (metO fMeet ob oc), grow.kEq (.bool true), grow.kEq (.bool true), grow.kEq (.bool true), grow.kEq (.bool true)] (by kernel_rfl) (by kernel_rfl) (by kernel_rfl) (by kernel_rfl) ?step ?fin
              case step =>
                clear ka kb kc
                refine grow.Each.cons ?_ ?_
                · intro A W hB hs hJ K hK
                  have s0 := hs 17 (by kernel_rfl)
                  simp at s0
                  rw [if_pos (by rfl)]
                  clear hs hJ
                  go_simp
                  exact hK _ _ (Below.refl _ _) rfl
                refine grow.Each.cons ?_ ?_
                · intro A W hB hs hJ K hK
                  have s0 : A.tmps.getD 109 undef = .bool true := hJ 0 109 (by kernel_rfl) (by kernel_rfl)
                  simp at s0
                  rw [if_pos (by rfl)]
                  clear hs hJ
                  go_simp
                  exact hK _ _ (Below.refl _ _) rfl
                refine grow.Each.cons ?_ ?_
                · intro A W hB hs hJ K hK
                  have eg : A.tmps.getD 110 undef = .bool true := hJ 1 110 (by kernel_rfl) (by kernel_rfl)
                  have s0 := hs 18 (by kernel_rfl)
                  simp at s0
                  rw [if_pos (grow.wanted_of (j := 1) (d := 110) (b := true) rfl (by kernel_rfl) eg)]
                  clear eg
                  clear hs hJ
                  go_simp
                  exact hK _ _ (Below.refl _ _) rfl
                refine grow.Each.cons ?_ ?_
                · intro A W hB hs hJ K hK
                  have s0 : A.tmps.getD 110 undef = .bool true := hJ 1 110 (by kernel_rfl) (by kernel_rfl)
                  simp at s0
                  have s1 : A.tmps.getD 111 undef = .bool true := hJ 2 111 (by kernel_rfl) (by kernel_rfl)
                  simp at s1
                  rw [if_pos (by rfl)]
                  clear hs hJ
                  go_simp
                  exact hK _ _ (Below.refl _ _) rfl
                refine grow.Each.cons ?_ ?_
                · intro A W hB hs hJ K hK
                  have s0 : A.tmps.getD 112 undef = .bool true := hJ 3 112 (by kernel_rfl) (by kernel_rfl)
                  simp at s0
                  rw [if_pos (by rfl)]
                  clear hs hJ
                  go_simp
                  exact hK _ _ (Below.refl _ _) rfl
                refine grow.Each.cons ?_ ?_
                · intro A W hB hs hJ K hK
                  have eg : A.tmps.getD 113 undef = .bool true := hJ 4 113 (by kernel_rfl) (by kernel_rfl)
                  have s0 := hs 19 (by kernel_rfl)
                  simp at s0
                  rw [if_pos (grow.wanted_of (j := 4) (d := 113) (b := true) rfl (by kernel_rfl) eg)]
                  clear eg
                  clear hs hJ
                  go_simp
                  exact hK _ _ (Below.refl _ _) rfl
                refine grow.Each.cons ?_ ?_
                · intro A W hB hs hJ K hK
                  have s0 : A.tmps.getD 113 undef = .bool true := hJ 4 113 (by kernel_rfl) (by kernel_rfl)
                  simp at s0
                  have s1 : A.tmps.getD 114 undef = .bool true := hJ 5 114 (by kernel_rfl) (by kernel_rfl)
                  simp at s1
                  rw [if_pos (by rfl)]
                  clear hs hJ
                  go_simp
                  exact hK _ _ (Below.refl _ _) rfl
                refine grow.Each.cons ?_ ?_
                · intro A W hB hs hJ K hK
                  have s0 : A.tmps.getD 115 undef = .bool true := hJ 6 115 (by kernel_rfl) (by kernel_rfl)
                  simp at s0
                  rw [if_pos (by rfl)]
                  clear hs hJ
                  go_simp
                  exact hK _ _ (Below.refl _ _) rfl
                refine grow.Each.cons ?_ ?_
                · intro A W hB hs hJ K hK
                  have eg : A.tmps.getD 116 undef = .bool true := hJ 7 116 (by kernel_rfl) (by kernel_rfl)
                  have s0 := hs 20 (by kernel_rfl)
                  simp at s0
                  rw [if_pos (grow.wanted_of (j := 7) (d := 116) (b := true) rfl (by kernel_rfl) eg)]
                  clear eg
                  clear hs hJ
                  go_simp
                  exact hK _ _ (Below.refl _ _) rfl
                refine grow.Each.cons ?_ ?_
                · intro A W hB hs hJ K hK
                  have s0 : A.tmps.getD 116 undef = .bool true := hJ 7 116 (by kernel_rfl) (by kernel_rfl)
                  simp at s0
                  have s1 : A.tmps.getD 117 undef = .bool true := hJ 8 117 (by kernel_rfl) (by kernel_rfl)
                  simp at s1
                  rw [if_pos (by rfl)]
                  clear hs hJ
                  go_simp
                  exact hK _ _ (Below.refl _ _) rfl
                refine grow.Each.cons ?_ ?_
                · intro A W hB hs hJ K hK
                  have s0 : A.tmps.getD 118 undef = .bool true := hJ 9 118 (by kernel_rfl) (by kernel_rfl)
                  simp at s0
                  rw [if_pos (by rfl)]
                  clear hs hJ
                  go_simp
                  exact hK _ _ (Below.refl _ _) rfl
                refine grow.Each.cons ?_ ?_
                · intro A W hB hs hJ K hK
                  have eg : A.tmps.getD 119 undef = .bool true := hJ 10 119 (by kernel_rfl) (by kernel_rfl)
                  have s0 := hs 8 (by kernel_rfl)
                  simp at s0
                  have kk := upc hB (cell_of_one Ha.out.b)
                  rw [if_pos (grow.wanted_of (j := 10) (d := 119) (b := true) rfl (by kernel_rfl) eg)]
                  clear eg
                  clear hs hJ
                  go_simp
                  exact hK _ _ (Below.refl _ _) rfl
                refine grow.Each.cons ?_ ?_
                · intro A W hB hs hJ K hK
                  have eg : A.tmps.getD 119 undef = .bool true := hJ 10 119 (by kernel_rfl) (by kernel_rfl)
                  have s0 := hs 11 (by kernel_rfl)
                  simp at s0
                  have kk := upc hB (cell_of_one Hb.out.b)
                  rw [if_pos (grow.wanted_of (j := 10) (d := 119) (b := true) rfl (by kernel_rfl) eg)]
                  clear eg
                  clear hs hJ
                  go_simp
                  exact hK _ _ (Below.refl _ _) rfl
                refine grow.Each.cons ?_ ?_
                · intro A W hB hs hJ K hK
                  have eg : A.tmps.getD 119 undef = .bool true := hJ 10 119 (by kernel_rfl) (by kernel_rfl)
                  have s0 : A.tmps.getD 120 undef = .agg #[.pointer pa] := hJ 11 120 (by kernel_rfl) (by kernel_rfl)
                  simp at s0
                  have s1 : A.tmps.getD 121 undef = .agg #[.pointer pb] := hJ 12 121 (by kernel_rfl) (by kernel_rfl)
                  simp at s1
                  rw [if_pos (grow.wanted_of (j := 10) (d := 119) (b := true) rfl (by kernel_rfl) eg)]
                  clear eg
                  clear hs hJ
                  go_simp
                  go_at_call 12
                  refine (Meet_sm w.heap.size W pa pb oa ob (szle hB Ha.out.bel.size) (Ha.out.up hB).h (Hb.out.up hB).h Sa.out Sb.out (by decide)).mono ?_
                  rintro e W2 ⟨pU, rfl, hpU, hrU⟩
                  exact hK _ _ hrU ⟨pU, rfl, hpU⟩
                refine grow.Each.cons ?_ ?_
                · intro A W hB hs hJ K hK
                  have eg : A.tmps.getD 119 undef = .bool true := hJ 10 119 (by kernel_rfl) (by kernel_rfl)
                  have s0 := hs 11 (by kernel_rfl)
                  simp at s0
                  have kk := upc hB (cell_of_one Hb.out.b)
                  rw [if_pos (grow.wanted_of (j := 10) (d := 119) (b := true) rfl (by kernel_rfl) eg)]
                  clear eg
                  clear hs hJ
                  go_simp
                  exact hK _ _ (Below.refl _ _) rfl
                refine grow.Each.cons ?_ ?_
                · intro A W hB hs hJ K hK
                  have eg : A.tmps.getD 119 undef = .bool true := hJ 10 119 (by kernel_rfl) (by kernel_rfl)
                  obtain ⟨pN122, s0, hN122⟩ := hJ 13 122 (by kernel_rfl) (by kernel_rfl)
                  simp at s0
                  have s1 : A.tmps.getD 123 undef = .agg #[.pointer pb] := hJ 14 123 (by kernel_rfl) (by kernel_rfl)
                  simp at s1
                  rw [if_pos (grow.wanted_of (j := 10) (d := 119) (b := true) rfl (by kernel_rfl) eg)]
                  clear eg
                  clear hs hJ
                  go_simp
                  go_at_call 15
                  refine (In_sm w.heap.size W pN122 pb (metO fMeet oa ob) ob (szle hB Ha.out.bel.size) hN122 (Hb.out.up hB).h (Sm.met fMeet Sa.out Sb.out) Sb.out (by decide) true HK.out.i5).mono ?_
                  rintro e W2 ⟨rfl, hb1⟩
                  exact hK _ _ hb1 rfl
                refine grow.Each.cons ?_ ?_
                · intro A W hB hs hJ K hK
                  have s0 : A.tmps.getD 119 undef = .bool true := hJ 10 119 (by kernel_rfl) (by kernel_rfl)
                  simp at s0
                  have s1 : A.tmps.getD 124 undef = .bool true := hJ 15 124 (by kernel_rfl) (by kernel_rfl)
                  simp at s1
                  rw [if_pos (by rfl)]
                  clear hs hJ
                  go_simp
                  exact hK _ _ (Below.refl _ _) rfl
                refine grow.Each.cons ?_ ?_
                · intro A W hB hs hJ K hK
                  have s0 : A.tmps.getD 125 undef = .bool true := hJ 16 125 (by kernel_rfl) (by kernel_rfl)
                  simp at s0
                  rw [if_pos (by rfl)]
                  clear hs hJ
                  go_simp
                  exact hK _ _ (Below.refl _ _) rfl
                refine grow.Each.cons ?_ ?_
                · intro A W hB hs hJ K hK
                  have eg : A.tmps.getD 126 undef = .bool true := hJ 17 126 (by kernel_rfl) (by kernel_rfl)
                  have s0 := hs 8 (by kernel_rfl)
                  simp at s0
                  have kk := upc hB (cell_of_one Ha.out.b)
                  rw [if_pos (grow.wanted_of (j := 17) (d := 126) (b := true) rfl (by kernel_rfl) eg)]
                  clear eg
                  clear hs hJ
                  go_simp
                  exact hK _ _ (Below.refl _ _) rfl
                refine grow.Each.cons ?_ ?_
                · intro A W hB hs hJ K hK
                  have eg : A.tmps.getD 126 undef = .bool true := hJ 17 126 (by kernel_rfl) (by kernel_rfl)
                  have s0 := hs 8 (by kernel_rfl)
                  simp at s0
                  have kk := upc hB (cell_of_one Ha.out.b)
                  rw [if_pos (grow.wanted_of (j := 17) (d := 126) (b := true) rfl (by kernel_rfl) eg)]
                  clear eg
                  clear hs hJ
                  go_simp
                  exact hK _ _ (Below.refl _ _) rfl
                refine grow.Each.cons ?_ ?_
                · intro A W hB hs hJ K hK
                  have eg : A.tmps.getD 126 undef = .bool true := hJ 17 126 (by kernel_rfl) (by kernel_rfl)
                  have s0 := hs 11 (by kernel_rfl)
                  simp at s0
                  have kk := upc hB (cell_of_one Hb.out.b)
                  rw [if_pos (grow.wanted_of (j := 17) (d := 126) (b := true) rfl (by kernel_rfl) eg)]
                  clear eg
                  clear hs hJ
                  go_simp
                  exact hK _ _ (Below.refl _ _) rfl
                refine grow.Each.cons ?_ ?_
                · intro A W hB hs hJ K hK
                  have eg : A.tmps.getD 126 undef = .bool true := hJ 17 126 (by kernel_rfl) (by kernel_rfl)
                  have s0 : A.tmps.getD 128 undef = .agg #[.pointer pa] := hJ 19 128 (by kernel_rfl) (by kernel_rfl)
                  simp at s0
                  have s1 : A.tmps.getD 129 undef = .agg #[.pointer pb] := hJ 20 129 (by kernel_rfl) (by kernel_rfl)
                  simp at s1
                  rw [if_pos (grow.wanted_of (j := 17) (d := 126) (b := true) rfl (by kernel_rfl) eg)]
                  clear eg
                  clear hs hJ
                  go_simp
                  go_at_call 11
                  refine (Join_sm w.heap.size W pa pb oa ob (szle hB Ha.out.bel.size) (Ha.out.up hB).h (Hb.out.up hB).h Sa.out Sb.out (by decide)).mono ?_
                  rintro e W2 ⟨pU, rfl, hpU, hrU⟩
                  exact hK _ _ hrU ⟨pU, rfl, hpU⟩
                refine grow.Each.cons ?_ ?_
                · intro A W hB hs hJ K hK
                  have eg : A.tmps.getD 126 undef = .bool true := hJ 17 126 (by kernel_rfl) (by kernel_rfl)
                  have s0 : A.tmps.getD 127 undef = .agg #[.pointer pa] := hJ 18 127 (by kernel_rfl) (by kernel_rfl)
                  simp at s0
                  obtain ⟨pN130, s1, hN130⟩ := hJ 21 130 (by kernel_rfl) (by kernel_rfl)
                  simp at s1
                  rw [if_pos (grow.wanted_of (j := 17) (d := 126) (b := true) rfl (by kernel_rfl) eg)]
                  clear eg
                  clear hs hJ
                  go_simp
                  go_at_call 15
                  refine (In_sm w.heap.size W pa pN130 oa (metO fJoin oa ob) (szle hB Ha.out.bel.size) (Ha.out.up hB).h hN130 Sa.out (Sm.met fJoin Sa.out Sb.out) (by decide) true HK.out.i6).mono ?_
                  rintro e W2 ⟨rfl, hb1⟩
                  exact hK _ _ hb1 rfl
                refine grow.Each.cons ?_ ?_
                · intro A W hB hs hJ K hK
                  have s0 : A.tmps.getD 126 undef = .bool true := hJ 17 126 (by kernel_rfl) (by kernel_rfl)
                  simp at s0
                  have s1 : A.tmps.getD 131 undef = .bool true := hJ 22 131 (by kernel_rfl) (by kernel_rfl)
                  simp at s1
                  rw [if_pos (by rfl)]
                  clear hs hJ
                  go_simp
                  exact hK _ _ (Below.refl _ _) rfl
                refine grow.Each.cons ?_ ?_
                · intro A W hB hs hJ K hK
                  have s0 : A.tmps.getD 132 undef = .bool true := hJ 23 132 (by kernel_rfl) (by kernel_rfl)
                  simp at s0
                  rw [if_pos (by rfl)]
                  clear hs hJ
                  go_simp
                  exact hK _ _ (Below.refl _ _) rfl
                refine grow.Each.cons ?_ ?_
                · intro A W hB hs hJ K hK
                  have eg : A.tmps.getD 133 undef = .bool true := hJ 24 133 (by kernel_rfl) (by kernel_rfl)
                  have s0 := hs 8 (by kernel_rfl)
                  simp at s0
                  have kk := upc hB (cell_of_one Ha.out.b)
                  rw [if_pos (grow.wanted_of (j := 24) (d := 133) (b := true) rfl (by kernel_rfl) eg)]
                  clear eg
                  clear hs hJ
                  go_simp
                  exact hK _ _ (Below.refl _ _) rfl
                refine grow.Each.cons ?_ ?_
                · intro A W hB hs hJ K hK
                  have eg : A.tmps.getD 133 undef = .bool true := hJ 24 133 (by kernel_rfl) (by kernel_rfl)
                  have s0 := hs 11 (by kernel_rfl)
                  simp at s0
                  have kk := upc hB (cell_of_one Hb.out.b)
                  rw [if_pos (grow.wanted_of (j := 24) (d := 133) (b := true) rfl (by kernel_rfl) eg)]
                  clear eg
                  clear hs hJ
                  go_simp
                  exact hK _ _ (Below.refl _ _) rfl
                refine grow.Each.cons ?_ ?_
                · intro A W hB hs hJ K hK
                  have eg : A.tmps.getD 133 undef = .bool true := hJ 24 133 (by kernel_rfl) (by kernel_rfl)
                  have s0 : A.tmps.getD 134 undef = .agg #[.pointer pa] := hJ 25 134 (by kernel_rfl) (by kernel_rfl)
                  simp at s0
                  have s1 : A.tmps.getD 135 undef = .agg #[.pointer pb] := hJ 26 135 (by kernel_rfl) (by kernel_rfl)
                  simp at s1
                  rw [if_pos (grow.wanted_of (j := 24) (d := 133) (b := true) rfl (by kernel_rfl) eg)]
                  clear eg
                  clear hs hJ
                  go_simp
                  go_at_call 15
                  refine (In_sm w.heap.size W pa pb oa ob (szle hB Ha.out.bel.size) (Ha.out.up hB).h (Hb.out.up hB).h Sa.out Sb.out (by decide) true HK.out.i1).mono ?_
                  rintro e W2 ⟨rfl, hb1⟩
                  exact hK _ _ hb1 rfl
                refine grow.Each.cons ?_ ?_
                · intro A W hB hs hJ K hK
                  have eg : A.tmps.getD 133 undef = .bool true := hJ 24 133 (by kernel_rfl) (by kernel_rfl)
                  have s0 : A.tmps.getD 136 undef = .bool true := hJ 27 136 (by kernel_rfl) (by kernel_rfl)
                  simp at s0
                  rw [if_pos (grow.wanted_of (j := 24) (d := 133) (b := true) rfl (by kernel_rfl) eg)]
                  clear eg
                  clear hs hJ
                  go_simp
                  exact hK _ _ (Below.refl _ _) rfl
                refine grow.Each.cons ?_ ?_
                · intro A W hB hs hJ K hK
                  have eg : A.tmps.getD 133 undef = .bool true := hJ 24 133 (by kernel_rfl) (by kernel_rfl)
                  have s0 : A.tmps.getD 137 undef = .bool false := hJ 28 137 (by kernel_rfl) (by kernel_rfl)
                  simp at s0
                  rw [if_pos (grow.wanted_of (j := 24) (d := 133) (b := true) rfl (by kernel_rfl) eg)]
                  clear eg
                  clear hs hJ
                  go_simp
                  exact hK _ _ (Below.refl _ _) rfl
                refine grow.Each.cons ?_ ?_
                · intro A W hB hs hJ K hK
                  have eg : A.tmps.getD 138 undef = .bool false := hJ 29 138 (by kernel_rfl) (by kernel_rfl)
                  have s0 := hs 8 (by kernel_rfl)
                  simp at s0
                  have kk := upc hB (cell_of_one Ha.out.b)
                  rw [if_pos (grow.wanted_of (j := 29) (d := 138) (b := false) rfl (by kernel_rfl) eg)]
                  clear eg
                  clear hs hJ
                  go_simp
                  exact hK _ _ (Below.refl _ _) rfl
                refine grow.Each.cons ?_ ?_
                · intro A W hB hs hJ K hK
                  have eg : A.tmps.getD 138 undef = .bool false := hJ 29 138 (by kernel_rfl) (by kernel_rfl)
                  have s0 := hs 14 (by kernel_rfl)
                  simp at s0
                  have kk := upc hB (cell_of_one Hc.out.b)
                  rw [if_pos (grow.wanted_of (j := 29) (d := 138) (b := false) rfl (by kernel_rfl) eg)]
                  clear eg
                  clear hs hJ
                  go_simp
                  exact hK _ _ (Below.refl _ _) rfl
                refine grow.Each.cons ?_ ?_
                · intro A W hB hs hJ K hK
                  have eg : A.tmps.getD 138 undef = .bool false := hJ 29 138 (by kernel_rfl) (by kernel_rfl)
                  have s0 : A.tmps.getD 139 undef = .agg #[.pointer pa] := hJ 30 139 (by kernel_rfl) (by kernel_rfl)
                  simp at s0
                  have s1 : A.tmps.getD 140 undef = .agg #[.pointer pc] := hJ 31 140 (by kernel_rfl) (by kernel_rfl)
                  simp at s1
                  rw [if_pos (grow.wanted_of (j := 29) (d := 138) (b := false) rfl (by kernel_rfl) eg)]
                  clear eg
                  clear hs hJ
                  go_simp
                  go_at_call 15
                  refine (In_sm w.heap.size W pa pc oa oc (szle hB Ha.out.bel.size) (Ha.out.up hB).h (Hc.out.up hB).h Sa.out Sc.out (by decide) true HK.out.i2).mono ?_
                  rintro e W2 ⟨rfl, hb1⟩
                  exact hK _ _ hb1 rfl
                refine grow.Each.cons ?_ ?_
                · intro A W hB hs hJ K hK
                  have eg : A.tmps.getD 138 undef = .bool false := hJ 29 138 (by kernel_rfl) (by kernel_rfl)
                  have s0 : A.tmps.getD 141 undef = .bool true := hJ 32 141 (by kernel_rfl) (by kernel_rfl)
                  simp at s0
                  rw [if_pos (grow.wanted_of (j := 29) (d := 138) (b := false) rfl (by kernel_rfl) eg)]
                  clear eg
                  clear hs hJ
                  go_simp
                  exact hK _ _ (Below.refl _ _) rfl
                refine grow.Each.cons ?_ ?_
                · intro A W hB hs hJ K hK
                  have eg : A.tmps.getD 133 undef = .bool true := hJ 24 133 (by kernel_rfl) (by kernel_rfl)
                  have s0 : A.tmps.getD 138 undef = .bool false := hJ 29 138 (by kernel_rfl) (by kernel_rfl)
                  simp at s0
                  have s1 : A.tmps.getD 142 undef = .bool false := hJ 33 142 (by kernel_rfl) (by kernel_rfl)
                  simp at s1
                  rw [if_pos (grow.wanted_of (j := 24) (d := 133) (b := true) rfl (by kernel_rfl) eg)]
                  clear eg
                  clear hs hJ
                  go_simp
                  exact hK _ _ (Below.refl _ _) rfl
                refine grow.Each.cons ?_ ?_
                · intro A W hB hs hJ K hK
                  have eg : A.tmps.getD 133 undef = .bool true := hJ 24 133 (by kernel_rfl) (by kernel_rfl)
                  have s0 : A.tmps.getD 143 undef = .bool false := hJ 34 143 (by kernel_rfl) (by kernel_rfl)
                  simp at s0
                  rw [if_pos (grow.wanted_of (j := 24) (d := 133) (b := true) rfl (by kernel_rfl) eg)]
                  clear eg
                  clear hs hJ
                  go_simp
                  exact hK _ _ (Below.refl _ _) rfl
                refine grow.Each.cons ?_ ?_
                · intro A W hB hs hJ K hK
                  have eg : A.tmps.getD 144 undef = .bool false := hJ 35 144 (by kernel_rfl) (by kernel_rfl)
                  have s0 := hs 8 (by kernel_rfl)
                  simp at s0
                  have kk := upc hB (cell_of_one Ha.out.b)
                  rw [if_pos (grow.wanted_of (j := 35) (d := 144) (b := false) rfl (by kernel_rfl) eg)]
                  clear eg
                  clear hs hJ
                  go_simp
                  exact hK _ _ (Below.refl _ _) rfl
                refine grow.Each.cons ?_ ?_
                · intro A W hB hs hJ K hK
                  have eg : A.tmps.getD 144 undef = .bool false := hJ 35 144 (by kernel_rfl) (by kernel_rfl)
                  have s0 := hs 11 (by kernel_rfl)
                  simp at s0
                  have kk := upc hB (cell_of_one Hb.out.b)
                  rw [if_pos (grow.wanted_of (j := 35) (d := 144) (b := false) rfl (by kernel_rfl) eg)]
                  clear eg
                  clear hs hJ
                  go_simp
                  exact hK _ _ (Below.refl _ _) rfl
                refine grow.Each.cons ?_ ?_
                · intro A W hB hs hJ K hK
                  have eg : A.tmps.getD 144 undef = .bool false := hJ 35 144 (by kernel_rfl) (by kernel_rfl)
                  have s0 := hs 14 (by kernel_rfl)
                  simp at s0
                  have kk := upc hB (cell_of_one Hc.out.b)
                  rw [if_pos (grow.wanted_of (j := 35) (d := 144) (b := false) rfl (by kernel_rfl) eg)]
                  clear eg
                  clear hs hJ
                  go_simp
                  exact hK _ _ (Below.refl _ _) rfl
                refine grow.Each.cons ?_ ?_
                · intro A W hB hs hJ K hK
                  have eg : A.tmps.getD 144 undef = .bool false := hJ 35 144 (by kernel_rfl) (by kernel_rfl)
                  have s0 : A.tmps.getD 146 undef = .agg #[.pointer pb] := hJ 37 146 (by kernel_rfl) (by kernel_rfl)
                  simp at s0
                  have s1 : A.tmps.getD 147 undef = .agg #[.pointer pc] := hJ 38 147 (by kernel_rfl) (by kernel_rfl)
                  simp at s1
                  rw [if_pos (grow.wanted_of (j := 35) (d := 144) (b := false) rfl (by kernel_rfl) eg)]
                  clear eg
                  clear hs hJ
                  go_simp
                  go_at_call 12
                  refine (Meet_sm w.heap.size W pb pc ob oc (szle hB Ha.out.bel.size) (Hb.out.up hB).h (Hc.out.up hB).h Sb.out Sc.out (by decide)).mono ?_
                  rintro e W2 ⟨pU, rfl, hpU, hrU⟩
                  exact hK _ _ hrU ⟨pU, rfl, hpU⟩
                refine grow.Each.cons ?_ ?_
                · intro A W hB hs hJ K hK
                  have eg : A.tmps.getD 144 undef = .bool false := hJ 35 144 (by kernel_rfl) (by kernel_rfl)
                  have s0 : A.tmps.getD 145 undef = .agg #[.pointer pa] := hJ 36 145 (by kernel_rfl) (by kernel_rfl)
                  simp at s0
                  obtain ⟨pN148, s1, hN148⟩ := hJ 39 148 (by kernel_rfl) (by kernel_rfl)
                  simp at s1
                  rw [if_pos (grow.wanted_of (j := 35) (d := 144) (b := false) rfl (by kernel_rfl) eg)]
                  clear eg
                  clear hs hJ
                  go_simp
                  go_at_call 15
                  refine (In_sm w.heap.size W pa pN148 oa (metO fMeet ob oc) (szle hB Ha.out.bel.size) (Ha.out.up hB).h hN148 Sa.out (Sm.met fMeet Sb.out Sc.out) (by decide) true (HK.out.i7 rfl rfl)).mono ?_
                  rintro e W2 ⟨rfl, hb1⟩
                  exact hK _ _ hb1 rfl
                refine grow.Each.cons ?_ ?_
                · intro A W hB hs hJ K hK
                  have eg : A.tmps.getD 133 undef = .bool true := hJ 24 133 (by kernel_rfl) (by kernel_rfl)
                  have s0 : A.tmps.getD 144 undef = .bool false := hJ 35 144 (by kernel_rfl) (by kernel_rfl)
                  simp at s0
                  have s1 : A.tmps.getD 149 undef = .bool true := hJ 40 149 (by kernel_rfl) (by kernel_rfl)
                  simp at s1
                  rw [if_pos (grow.wanted_of (j := 24) (d := 133) (b := true) rfl (by kernel_rfl) eg)]
                  clear eg
                  clear hs hJ
                  go_simp
                  exact hK _ _ (Below.refl _ _) rfl
                refine grow.Each.cons ?_ ?_
                · intro A W hB hs hJ K hK
                  have s0 : A.tmps.getD 133 undef = .bool true := hJ 24 133 (by kernel_rfl) (by kernel_rfl)
                  simp at s0
                  have s1 : A.tmps.getD 150 undef = .bool true := hJ 41 150 (by kernel_rfl) (by kernel_rfl)
                  simp at s1
                  rw [if_pos (by rfl)]
                  clear hs hJ
                  go_simp
                  exact hK _ _ (Below.refl _ _) rfl
                refine grow.Each.cons ?_ ?_
                · intro A W hB hs hJ K hK
                  have s0 : A.tmps.getD 151 undef = .bool true := hJ 42 151 (by kernel_rfl) (by kernel_rfl)
                  simp at s0
                  rw [if_pos (by rfl)]
                  clear hs hJ
                  go_simp
                  exact hK _ _ (Below.refl _ _) rfl
                exact grow.Each.nil
              case fin =>
                intro f W hB hF
                have f0 : f 0 = .bool true := hF 0 (by decide)
                have f1 : f 1 = .bool true := hF 1 (by decide)
                have f2 : f 2 = .bool true := hF 2 (by decide)
                have f3 : f 3 = .bool true := hF 3 (by decide)
                have f4 : f 4 = .bool true := hF 4 (by decide)
                have f5 : f 5 = .bool true := hF 5 (by decide)
                have f6 : f 6 = .bool true := hF 6 (by decide)
                have f7 : f 7 = .bool true := hF 7 (by decide)
                have f8 : f 8 = .bool true := hF 8 (by decide)
                have f9 : f 9 = .bool true := hF 9 (by decide)
                have f10 : f 10 = .bool true := hF 10 (by decide)
                have f11 : f 11 = .agg #[.pointer pa] := hF 11 (by decide)
                have f12 : f 12 = .agg #[.pointer pb] := hF 12 (by decide)
                obtain ⟨pN122_13, f13, -⟩ := hF 13 (by decide)
                have f14 : f 14 = .agg #[.pointer pb] := hF 14 (by decide)
                have f15 : f 15 = .bool true := hF 15 (by decide)
                have f16 : f 16 = .bool true := hF 16 (by decide)
                have f17 : f 17 = .bool true := hF 17 (by decide)
                have f18 : f 18 = .agg #[.pointer pa] := hF 18 (by decide)
                have f19 : f 19 = .agg #[.pointer pa] := hF 19 (by decide)
                have f20 : f 20 = .agg #[.pointer pb] := hF 20 (by decide)
                obtain ⟨pN130_21, f21, -⟩ := hF 21 (by decide)
                have f22 : f 22 = .bool true := hF 22 (by decide)
                have f23 : f 23 = .bool true := hF 23 (by decide)
                have f24 : f 24 = .bool true := hF 24 (by decide)
                have f25 : f 25 = .agg #[.pointer pa] := hF 25 (by decide)
                have f26 : f 26 = .agg #[.pointer pb] := hF 26 (by decide)
                have f27 : f 27 = .bool true := hF 27 (by decide)
                have f28 : f 28 = .bool false := hF 28 (by decide)
                have f29 : f 29 = .bool false := hF 29 (by decide)
                have f30 : f 30 = .agg #[.pointer pa] := hF 30 (by decide)
                have f31 : f 31 = .agg #[.pointer pc] := hF 31 (by decide)
                have f32 : f 32 = .bool true := hF 32 (by decide)
                have f33 : f 33 = .bool false := hF 33 (by decide)
                have f34 : f 34 = .bool false := hF 34 (by decide)
                have f35 : f 35 = .bool false := hF 35 (by decide)
                have f36 : f 36 = .agg #[.pointer pa] := hF 36 (by decide)
                have f37 : f 37 = .agg #[.pointer pb] := hF 37 (by decide)
                have f38 : f 38 = .agg #[.pointer pc] := hF 38 (by decide)
                obtain ⟨pN148_39, f39, -⟩ := hF 39 (by decide)
                have f40 : f 40 = .bool true := hF 40 (by decide)
                have f41 : f 41 = .bool true := hF 41 (by decide)
                have f42 : f 42 = .bool true := hF 42 (by decide)
                have f43 : f 43 = .bool true := hF 43 (by decide)
                clear hF
                generalize hA : grow.puts _ _ f _ = A'
                simp only [List.length_cons, List.length_nil, Nat.reduceAdd, grow.puts, Act.put, List.getElem?_toArray, List.getElem?_cons_zero, List.getElem?_cons_succ, Option.bind_some, List.setIfInBounds_toArray, List.set_cons_zero, List.set_cons_succ, f0, f1, f2, f3, f4, f5, f6, f7, f8, f9, f10, f11, f12, f13, f14, f15, f16, f17, f18, f19, f20, f21, f22, f23, f24, f25, f26, f27, f28, f29, f30, f31, f32, f33, f34, f35, f36, f37, f38, f39, f40, f41, f42, f43] at hA
                subst hA
                have Hf := Lib.hid (Ha.out.up hB).bel
                clear hB ka kb kc Ha Hb Hc
                go_wp2_with fail
                go_ret
                exact ⟨rfl, Hf.out⟩

theorem lattice_any (a0 : Option Addr) (c0 : Nat) (l0 : List (Int × Int)) (a1 : Option Addr) (c1 : Nat) (l1 : List (Int × Int)) (a2 : Option Addr) (c2 : Nat) (l2 : List (Int × Int)) (w : World)
    (b0 : l0.length ≤ 1048576) (r0 : ReadsP w a0 l0) (i0 : ∀ p ∈ l0, I64 p.1) (b1 : l1.length ≤ 1048576) (r1 : ReadsP w a1 l1) (i1 : ∀ p ∈ l1, I64 p.1) (b2 : l2.length ≤ 1048576) (r2 : ReadsP w a2 l2) (i2 : ∀ p ∈ l2, I64 p.1) (hg : er.Handle w) :
    Calls Tryd.prog 4 #[.slice a0 l0.length c0, .slice a1 l1.length c1, .slice a2 l2.length c2] w (pat.Yes w) :=
  lattice a0 a1 a2 c0 l0.length c1 l1.length c2 l2.length l0 l1 l2 w ⟨r0, rfl, i0, b0⟩ ⟨r1, rfl, i1, b1⟩ ⟨r2, rfl, i2, b2⟩ hg
end Go.Proofs.YtnebmncjohoekaaDoor.bag
