/- Package finger, many things (ord): even, link, split. (Printed by mm.py.) -/
import Derived.Test.YtnigadnjppeckaaManyO1
namespace Go.Proofs.Ytnigadnjppeckaa.manyO
open Go.RowKit

theorem heavy_val {B : Nat} {w : World} {p q : Option Addr} {t u : BT V} {b : Bool} (h : In B w p t) (h' : In B w q u) (hn : t.size ≤ 1152921504606846976) (hn' : u.size ≤ 1152921504606846976) (hv : heavyB t u = b) :
    Calls Try.prog 128 #[.pointer p, .pointer q] w fun e w' => e = .returned (.bool b) ∧ w = w' := by
  subst hv
  exact heavy_any h h' hn hn'
theorem made_any (B : Nat) (w : World) (pl : Option Addr) (l : BT V) (v : V) (pr : Option Addr) (r : BT V) (hB : B ≤ w.heap.size) (hl : In B w pl l) (hr : In B w pr r) (hs : l.size + r.size ≤ 1152921504606846976) :
    Calls Try.prog 130 #[.pointer pl, .int .i64 v, .pointer pr] w (Ret B w (Is (l.inorder ++ v :: r.inorder) (l.size + 1 + r.size))) :=
  (made_eq B w pl l v pr r hB hl hr hs).mono fun _ _ h => h.imp fun t ht => by subst ht; exact ⟨rfl, by simp only [BT.size]; omega⟩

set_option maxRecDepth 100000 in
set_option maxHeartbeats 4000000 in
theorem even_0 (B : Nat) (w : World) (pl : Option Addr) (l : BT V) (prl : Option Addr) (rl : BT V) (prr : Option Addr) (rr : BT V) (br : Nat) (xr : V) (v : V) (hB : B ≤ w.heap.size) (hl : In B w pl l) (hrl : In B w prl rl) (hrr : In B w prr rr) (hbr : w.heap[br]? = some (.cells (cs xr rl rr ++ [Value.pointer prl, Value.pointer prr]).toArray 142 (0, 0))) (hr : In B w (some ⟨br, 0, none⟩) (BT.node xr rl rr)) (hs : l.size + rl.size + rr.size ≤ 1152921504606846900) (hvA : heavyB (BT.node xr rl rr) l = true) (hc : decide ((BT.size rl : Int) + 1 < 2 * ((BT.size rr : Int) + 1)) = true) :
    Calls Try.prog 129 #[.pointer pl, .int .i64 v, .pointer (some ⟨br, 0, none⟩)] w (Ret B w (Is (BT.inorder l ++ v :: BT.inorder (BT.node xr rl rr)) (BT.size l + 1 + BT.size (BT.node xr rl rr)))) := by
  have hb0 := Below.refl w.heap.size w
  have Hl := Lib.hid (hl.up hb0)
  have hzl : BT.size l ≤ 1152921504606846976 := by (try simp only [BT.size]); omega
  have Hrl := Lib.hid (hrl.up hb0)
  have hzrl : BT.size rl ≤ 1152921504606846976 := by (try simp only [BT.size]); omega
  have Hrr := Lib.hid (hrr.up hb0)
  have hzrr : BT.size rr ≤ 1152921504606846976 := by (try simp only [BT.size]); omega
  have Hr := Lib.hid (hr.up hb0)
  have kxr0 := upc hb0 (cv0 hbr)
  have klr := upc hb0 (cl hbr)
  have krr := upc hb0 (cr hbr)
  have hzr : BT.size (BT.node xr rl rr) ≤ 1152921504606846976 := by (try simp only [BT.size]); omega
  have HB := Lib.hid (szle hb0 hB)
  have Hb := Lib.hid hb0
  clear hb0 hB hl hrl hrr hr hbr
  have EA := Lib.hid hvA
  clear hvA
  have hw2 : IntKind.i64.wrap (2 * ((BT.size rr : Int) + 1)) = 2 * ((BT.size rr : Int) + 1) := IntWalk.i64_in _ (by omega)
  go_enter Try.func129, Try.ntmps129
  go_wp2_with fail
  go_quiet ((first | (go_at_call_of 128 (Value.pointer (some ⟨br, 0, none⟩)); exact quietOf (heavy_val (Hr.out.up (belowDrewN _ _)) (Hl.out.up (belowDrewN _ _)) hzr hzl EA.out)) | (go_at_call_of 136 (Value.pointer prl); exact quietOf (weight_any (Hrl.out.up (belowDrewN _ _)) hzrl)) | (go_at_call_of 136 (Value.pointer prr); exact quietOf (weight_any (Hrr.out.up (belowDrewN _ _)) hzrr))))
  obtain ⟨V11, hV11⟩ : ∃ V11, V11 = w.drewN nq := ⟨_, rfl⟩
  rw [← hV11]
  have hup2 : Below w.heap.size w V11 := by rw [hV11]; exact belowDrewN _ _
  replace Hl := Lib.hid (Hl.out.up hup2)
  replace Hrl := Lib.hid (Hrl.out.up hup2)
  replace Hrr := Lib.hid (Hrr.out.up hup2)
  replace Hr := Lib.hid (Hr.out.up hup2)
  replace kxr0 := upc hup2 kxr0
  replace klr := upc hup2 klr
  replace krr := upc hup2 krr
  replace HB := Lib.hid (szle hup2 HB.out)
  replace Hb := Lib.hid (belowTrans Hb.out hup2)
  clear hup2
  clear hV11 nq
  clear hc hw2
  go_wp2_with fail
  refine grow.wp_grow [grow.kEq (.func (.func 130) #[] #[]), grow.kEq (.func (.func 130) #[] #[]), grow.kEq (.pointer pl), grow.kEq (.int .i64 v), grow.kEq (.pointer (some ⟨br, 0, none⟩)), grow.kEq (.pointer (some ⟨br, 0, none⟩)), grow.kEq (.pointer (some ⟨br, 4, none⟩)), grow.kEq (.pointer prl), kT B (Is (BT.inorder l ++ v :: BT.inorder rl) (BT.size l + 1 + BT.size rl)), grow.kEq (.pointer (some ⟨br, 0, none⟩)), grow.kEq (.pointer (some ⟨br, 0, none⟩)), grow.kEq (.pointer (some ⟨br, 0, none⟩)), grow.kEq (.int .i64 xr), grow.kEq (.pointer (some ⟨br, 0, none⟩)), grow.kEq (.pointer (some ⟨br, 0, none⟩)), grow.kEq (.pointer (some ⟨br, 5, none⟩)), grow.kEq (.pointer prr), kT B (Is ((BT.inorder l ++ v :: BT.inorder rl) ++ xr :: BT.inorder rr) ((BT.size l + 1 + BT.size rl) + 1 + BT.size rr)), kT B (Is ((BT.inorder l ++ v :: BT.inorder rl) ++ xr :: BT.inorder rr) ((BT.size l + 1 + BT.size rl) + 1 + BT.size rr))] (by kernel_rfl) (by kernel_rfl) (by kernel_rfl) (by kernel_rfl) ?step ?fin
  case step =>
    refine grow.Each.cons ?_ ?_
    · intro A W hB hs hJ K hK
      have s0 := hs 7 (by kernel_rfl)
      simp at s0
      rw [if_pos (by rfl)]
      clear hs hJ
      go_simp
      exact hK _ _ (Below.refl _ _) rfl
    refine grow.Each.cons ?_ ?_
    · intro A W hB hs hJ K hK
      have s0 := hs 7 (by kernel_rfl)
      simp at s0
      rw [if_pos (by rfl)]
      clear hs hJ
      go_simp
      exact hK _ _ (Below.refl _ _) rfl
    refine grow.Each.cons ?_ ?_
    · intro A W hB hs hJ K hK
      have s0 := hs 0 (by kernel_rfl)
      simp at s0
      rw [if_pos (by rfl)]
      clear hs hJ
      go_simp
      exact hK _ _ (Below.refl _ _) rfl
    refine grow.Each.cons ?_ ?_
    · intro A W hB hs hJ K hK
      have s0 := hs 1 (by kernel_rfl)
      simp at s0
      rw [if_pos (by rfl)]
      clear hs hJ
      go_simp
      exact hK _ _ (Below.refl _ _) rfl
    refine grow.Each.cons ?_ ?_
    · intro A W hB hs hJ K hK
      have s0 := hs 2 (by kernel_rfl)
      simp at s0
      rw [if_pos (by rfl)]
      clear hs hJ
      go_simp
      exact hK _ _ (Below.refl _ _) rfl
    refine grow.Each.cons ?_ ?_
    · intro A W hB hs hJ K hK
      have s0 : A.tmps.getD 32 undef = .pointer (some ⟨br, 0, none⟩) := hJ 4 32 (by kernel_rfl) (by kernel_rfl)
      simp at s0
      rw [if_pos (by rfl)]
      clear hs hJ
      go_simp
      exact hK _ _ (Below.refl _ _) rfl
    refine grow.Each.cons ?_ ?_
    · intro A W hB hs hJ K hK
      have s0 : A.tmps.getD 33 undef = .pointer (some ⟨br, 0, none⟩) := hJ 5 33 (by kernel_rfl) (by kernel_rfl)
      simp at s0
      rw [if_pos (by rfl)]
      clear hs hJ
      go_simp
      exact hK _ _ (Below.refl _ _) rfl
    refine grow.Each.cons ?_ ?_
    · intro A W hB hs hJ K hK
      have s0 : A.tmps.getD 34 undef = .pointer (some ⟨br, 4, none⟩) := hJ 6 34 (by kernel_rfl) (by kernel_rfl)
      simp at s0
      have kk := upc hB klr
      rw [if_pos (by rfl)]
      clear hs hJ
      go_simp
      exact hK _ _ (Below.refl _ _) rfl
    refine grow.Each.cons ?_ ?_
    · intro A W hB hs hJ K hK
      have s0 : A.tmps.getD 29 undef = .func (.func 130) #[] #[] := hJ 1 29 (by kernel_rfl) (by kernel_rfl)
      simp at s0
      have s1 : A.tmps.getD 30 undef = .pointer pl := hJ 2 30 (by kernel_rfl) (by kernel_rfl)
      simp at s1
      have s2 : A.tmps.getD 31 undef = .int .i64 v := hJ 3 31 (by kernel_rfl) (by kernel_rfl)
      simp at s2
      have s3 : A.tmps.getD 35 undef = .pointer prl := hJ 7 35 (by kernel_rfl) (by kernel_rfl)
      simp at s3
      rw [if_pos (by rfl)]
      clear hs hJ
      go_simp
      refine (made_any B W pl l v prl rl (szle hB HB.out) (Hl.out.up hB) (Hrl.out.up hB) (by (try simp only [BT.size]); omega)).mono ?_
      rintro e W2 ⟨q36, t36, rfl, i36, j36, hbn⟩
      exact hK _ _ hbn ⟨q36, t36, rfl, i36.of rfl rfl, j36⟩
    refine grow.Each.cons ?_ ?_
    · intro A W hB hs hJ K hK
      have s0 := hs 2 (by kernel_rfl)
      simp at s0
      rw [if_pos (by rfl)]
      clear hs hJ
      go_simp
      exact hK _ _ (Below.refl _ _) rfl
    refine grow.Each.cons ?_ ?_
    · intro A W hB hs hJ K hK
      have s0 : A.tmps.getD 37 undef = .pointer (some ⟨br, 0, none⟩) := hJ 9 37 (by kernel_rfl) (by kernel_rfl)
      simp at s0
      rw [if_pos (by rfl)]
      clear hs hJ
      go_simp
      exact hK _ _ (Below.refl _ _) rfl
    refine grow.Each.cons ?_ ?_
    · intro A W hB hs hJ K hK
      have s0 : A.tmps.getD 38 undef = .pointer (some ⟨br, 0, none⟩) := hJ 10 38 (by kernel_rfl) (by kernel_rfl)
      simp at s0
      rw [if_pos (by rfl)]
      clear hs hJ
      go_simp
      exact hK _ _ (Below.refl _ _) rfl
    refine grow.Each.cons ?_ ?_
    · intro A W hB hs hJ K hK
      have s0 : A.tmps.getD 39 undef = .pointer (some ⟨br, 0, none⟩) := hJ 11 39 (by kernel_rfl) (by kernel_rfl)
      simp at s0
      have kk0 := upc hB kxr0
      rw [if_pos (by rfl)]
      clear hs hJ
      go_simp
      exact hK _ _ (Below.refl _ _) rfl
    refine grow.Each.cons ?_ ?_
    · intro A W hB hs hJ K hK
      have s0 := hs 2 (by kernel_rfl)
      simp at s0
      rw [if_pos (by rfl)]
      clear hs hJ
      go_simp
      exact hK _ _ (Below.refl _ _) rfl
    refine grow.Each.cons ?_ ?_
    · intro A W hB hs hJ K hK
      have s0 : A.tmps.getD 41 undef = .pointer (some ⟨br, 0, none⟩) := hJ 13 41 (by kernel_rfl) (by kernel_rfl)
      simp at s0
      rw [if_pos (by rfl)]
      clear hs hJ
      go_simp
      exact hK _ _ (Below.refl _ _) rfl
    refine grow.Each.cons ?_ ?_
    · intro A W hB hs hJ K hK
      have s0 : A.tmps.getD 42 undef = .pointer (some ⟨br, 0, none⟩) := hJ 14 42 (by kernel_rfl) (by kernel_rfl)
      simp at s0
      rw [if_pos (by rfl)]
      clear hs hJ
      go_simp
      exact hK _ _ (Below.refl _ _) rfl
    refine grow.Each.cons ?_ ?_
    · intro A W hB hs hJ K hK
      have s0 : A.tmps.getD 43 undef = .pointer (some ⟨br, 5, none⟩) := hJ 15 43 (by kernel_rfl) (by kernel_rfl)
      simp at s0
      have kk := upc hB krr
      rw [if_pos (by rfl)]
      clear hs hJ
      go_simp
      exact hK _ _ (Below.refl _ _) rfl
    refine grow.Each.cons ?_ ?_
    · intro A W hB hs hJ K hK
      have s0 : A.tmps.getD 28 undef = .func (.func 130) #[] #[] := hJ 0 28 (by kernel_rfl) (by kernel_rfl)
      simp at s0
      obtain ⟨q36, t36, s1, i36, j36⟩ := hJ 8 36 (by kernel_rfl) (by kernel_rfl)
      simp at s1
      have s2 : A.tmps.getD 40 undef = .int .i64 xr := hJ 12 40 (by kernel_rfl) (by kernel_rfl)
      simp at s2
      have s3 : A.tmps.getD 44 undef = .pointer prr := hJ 16 44 (by kernel_rfl) (by kernel_rfl)
      simp at s3
      rw [if_pos (by rfl)]
      clear hs hJ
      go_simp
      refine (made_any B W q36 t36 xr prr rr (szle hB HB.out) j36 (Hrr.out.up hB) (by have e36 := i36.2; (try simp only [BT.size]); omega)).mono ?_
      rintro e W2 ⟨q45, t45, rfl, i45, j45, hbn⟩
      exact hK _ _ hbn ⟨q45, t45, rfl, i45.of (by rw [i36.1]) (by rw [i36.2]), j45⟩
    refine grow.Each.cons ?_ ?_
    · intro A W hB hs hJ K hK
      obtain ⟨q45, t45, s0, i45, j45⟩ := hJ 17 45 (by kernel_rfl) (by kernel_rfl)
      simp at s0
      rw [if_pos (by rfl)]
      clear hs hJ
      go_simp
      exact hK _ _ (Below.refl _ _) ⟨q45, t45, rfl, i45, j45⟩
    exact grow.Each.nil
  case fin =>
    intro f W hB hF
    have f0 : f 0 = .func (.func 130) #[] #[] := hF 0 (by decide)
    have f1 : f 1 = .func (.func 130) #[] #[] := hF 1 (by decide)
    have f2 : f 2 = .pointer pl := hF 2 (by decide)
    have f3 : f 3 = .int .i64 v := hF 3 (by decide)
    have f4 : f 4 = .pointer (some ⟨br, 0, none⟩) := hF 4 (by decide)
    have f5 : f 5 = .pointer (some ⟨br, 0, none⟩) := hF 5 (by decide)
    have f6 : f 6 = .pointer (some ⟨br, 4, none⟩) := hF 6 (by decide)
    have f7 : f 7 = .pointer prl := hF 7 (by decide)
    obtain ⟨q36_8, t36_8, f8, i36_8, j36_8⟩ := hF 8 (by decide)
    have f9 : f 9 = .pointer (some ⟨br, 0, none⟩) := hF 9 (by decide)
    have f10 : f 10 = .pointer (some ⟨br, 0, none⟩) := hF 10 (by decide)
    have f11 : f 11 = .pointer (some ⟨br, 0, none⟩) := hF 11 (by decide)
    have f12 : f 12 = .int .i64 xr := hF 12 (by decide)
    have f13 : f 13 = .pointer (some ⟨br, 0, none⟩) := hF 13 (by decide)
    have f14 : f 14 = .pointer (some ⟨br, 0, none⟩) := hF 14 (by decide)
    have f15 : f 15 = .pointer (some ⟨br, 5, none⟩) := hF 15 (by decide)
    have f16 : f 16 = .pointer prr := hF 16 (by decide)
    obtain ⟨q45_17, t45_17, f17, i45_17, j45_17⟩ := hF 17 (by decide)
    obtain ⟨q45_18, t45_18, f18, i45_18, j45_18⟩ := hF 18 (by decide)
    clear hF
    generalize hA : grow.puts _ _ f _ = A'
    simp only [List.length_cons, List.length_nil, Nat.reduceAdd, grow.puts, Act.put, List.getElem?_toArray, List.getElem?_cons_zero, List.getElem?_cons_succ, Option.bind_some, List.setIfInBounds_toArray, List.set_cons_zero, List.set_cons_succ, f0, f1, f2, f3, f4, f5, f6, f7, f8, f9, f10, f11, f12, f13, f14, f15, f16, f17, f18] at hA
    subst hA
    go_wp2_with fail
    go_ret
    exact RetQ.mk (i45_18.of (by simp [BT.inorder]) (by simp only [BT.size]; omega)) j45_18 (belowTrans Hb.out hB)

set_option maxRecDepth 100000 in
set_option maxHeartbeats 4000000 in
theorem even_1 (B : Nat) (w : World) (pl : Option Addr) (l : BT V) (pml : Option Addr) (ml : BT V) (pmr : Option Addr) (mr : BT V) (prr : Option Addr) (rr : BT V) (bm : Nat) (xm : V) (br : Nat) (xr : V) (v : V) (hB : B ≤ w.heap.size) (hl : In B w pl l) (hml : In B w pml ml) (hmr : In B w pmr mr) (hrr : In B w prr rr) (hbm : w.heap[bm]? = some (.cells (cs xm ml mr ++ [Value.pointer pml, Value.pointer pmr]).toArray 142 (0, 0))) (hm : In B w (some ⟨bm, 0, none⟩) (BT.node xm ml mr)) (hbr : w.heap[br]? = some (.cells (cs xr (BT.node xm ml mr) rr ++ [Value.pointer (some ⟨bm, 0, none⟩), Value.pointer prr]).toArray 142 (0, 0))) (hr : In B w (some ⟨br, 0, none⟩) (BT.node xr (BT.node xm ml mr) rr)) (hs : l.size + ml.size + mr.size + rr.size ≤ 1152921504606846900) (hvA : heavyB (BT.node xr (BT.node xm ml mr) rr) l = true) (hc : decide ((BT.size (BT.node xm ml mr) : Int) + 1 < 2 * ((BT.size rr : Int) + 1)) = false) :
    Calls Try.prog 129 #[.pointer pl, .int .i64 v, .pointer (some ⟨br, 0, none⟩)] w (Ret B w (Is (BT.inorder l ++ v :: BT.inorder (BT.node xr (BT.node xm ml mr) rr)) (BT.size l + 1 + BT.size (BT.node xr (BT.node xm ml mr) rr)))) := by
  have hb0 := Below.refl w.heap.size w
  have Hl := Lib.hid (hl.up hb0)
  have hzl : BT.size l ≤ 1152921504606846976 := by (try simp only [BT.size]); omega
  have Hml := Lib.hid (hml.up hb0)
  have hzml : BT.size ml ≤ 1152921504606846976 := by (try simp only [BT.size]); omega
  have Hmr := Lib.hid (hmr.up hb0)
  have hzmr : BT.size mr ≤ 1152921504606846976 := by (try simp only [BT.size]); omega
  have Hrr := Lib.hid (hrr.up hb0)
  have hzrr : BT.size rr ≤ 1152921504606846976 := by (try simp only [BT.size]); omega
  have Hm := Lib.hid (hm.up hb0)
  have kxm0 := upc hb0 (cv0 hbm)
  have klm := upc hb0 (cl hbm)
  have krm := upc hb0 (cr hbm)
  have hzm : BT.size (BT.node xm ml mr) ≤ 1152921504606846976 := by (try simp only [BT.size]); omega
  have Hr := Lib.hid (hr.up hb0)
  have kxr0 := upc hb0 (cv0 hbr)
  have klr := upc hb0 (cl hbr)
  have krr := upc hb0 (cr hbr)
  have hzr : BT.size (BT.node xr (BT.node xm ml mr) rr) ≤ 1152921504606846976 := by (try simp only [BT.size]); omega
  have HB := Lib.hid (szle hb0 hB)
  have Hb := Lib.hid hb0
  clear hb0 hB hl hml hmr hrr hm hbm hr hbr
  have EA := Lib.hid hvA
  clear hvA
  have hw2 : IntKind.i64.wrap (2 * ((BT.size rr : Int) + 1)) = 2 * ((BT.size rr : Int) + 1) := IntWalk.i64_in _ (by omega)
  go_enter Try.func129, Try.ntmps129
  go_wp2_with fail
  go_quiet ((first | (go_at_call_of 128 (Value.pointer (some ⟨br, 0, none⟩)); exact quietOf (heavy_val (Hr.out.up (belowDrewN _ _)) (Hl.out.up (belowDrewN _ _)) hzr hzl EA.out)) | (go_at_call_of 136 (Value.pointer (some ⟨bm, 0, none⟩)); exact quietOf (weight_any (Hm.out.up (belowDrewN _ _)) hzm)) | (go_at_call_of 136 (Value.pointer prr); exact quietOf (weight_any (Hrr.out.up (belowDrewN _ _)) hzrr))))
  obtain ⟨V11, hV11⟩ : ∃ V11, V11 = w.drewN nq := ⟨_, rfl⟩
  rw [← hV11]
  have hup2 : Below w.heap.size w V11 := by rw [hV11]; exact belowDrewN _ _
  replace Hl := Lib.hid (Hl.out.up hup2)
  replace Hml := Lib.hid (Hml.out.up hup2)
  replace Hmr := Lib.hid (Hmr.out.up hup2)
  replace Hrr := Lib.hid (Hrr.out.up hup2)
  replace Hm := Lib.hid (Hm.out.up hup2)
  replace Hr := Lib.hid (Hr.out.up hup2)
  replace kxm0 := upc hup2 kxm0
  replace kxr0 := upc hup2 kxr0
  replace klm := upc hup2 klm
  replace krm := upc hup2 krm
  replace klr := upc hup2 klr
  replace krr := upc hup2 krr
  replace HB := Lib.hid (szle hup2 HB.out)
  replace Hb := Lib.hid (belowTrans Hb.out hup2)
  clear hup2
  clear hV11 nq
  clear hc hw2
  go_wp2_with fail
  refine (heavy_val Hr.out Hl.out hzr hzl EA.out).mono ?_
  rintro e w' ⟨rfl, rfl⟩
  go_wp2_with fail
  refine grow.wp_grow [grow.kEq (.func (.func 130) #[] #[]), grow.kEq (.func (.func 130) #[] #[]), grow.kEq (.pointer pl), grow.kEq (.int .i64 v), grow.kEq (.pointer (some ⟨bm, 0, none⟩)), grow.kEq (.pointer (some ⟨bm, 0, none⟩)), grow.kEq (.pointer (some ⟨bm, 4, none⟩)), grow.kEq (.pointer pml), kT B (Is (BT.inorder l ++ v :: BT.inorder ml) (BT.size l + 1 + BT.size ml)), grow.kEq (.pointer (some ⟨bm, 0, none⟩)), grow.kEq (.pointer (some ⟨bm, 0, none⟩)), grow.kEq (.pointer (some ⟨bm, 0, none⟩)), grow.kEq (.int .i64 xm), grow.kEq (.func (.func 130) #[] #[]), grow.kEq (.pointer (some ⟨bm, 0, none⟩)), grow.kEq (.pointer (some ⟨bm, 0, none⟩)), grow.kEq (.pointer (some ⟨bm, 5, none⟩)), grow.kEq (.pointer pmr), grow.kEq (.pointer (some ⟨br, 0, none⟩)), grow.kEq (.pointer (some ⟨br, 0, none⟩)), grow.kEq (.pointer (some ⟨br, 0, none⟩)), grow.kEq (.int .i64 xr), grow.kEq (.pointer (some ⟨br, 0, none⟩)), grow.kEq (.pointer (some ⟨br, 0, none⟩)), grow.kEq (.pointer (some ⟨br, 5, none⟩)), grow.kEq (.pointer prr), kT B (Is (BT.inorder mr ++ xr :: BT.inorder rr) (BT.size mr + 1 + BT.size rr)), kT B (Is ((BT.inorder l ++ v :: BT.inorder ml) ++ xm :: (BT.inorder mr ++ xr :: BT.inorder rr)) ((BT.size l + 1 + BT.size ml) + 1 + (BT.size mr + 1 + BT.size rr))), kT B (Is ((BT.inorder l ++ v :: BT.inorder ml) ++ xm :: (BT.inorder mr ++ xr :: BT.inorder rr)) ((BT.size l + 1 + BT.size ml) + 1 + (BT.size mr + 1 + BT.size rr)))] (by kernel_rfl) (by kernel_rfl) (by kernel_rfl) (by kernel_rfl) ?step ?fin
  case step =>
    refine grow.Each.cons ?_ ?_
    · intro A W hB hs hJ K hK
      have s0 := hs 7 (by kernel_rfl)
      simp at s0
      rw [if_pos (by rfl)]
      clear hs hJ
      go_simp
      exact hK _ _ (Below.refl _ _) rfl
    refine grow.Each.cons ?_ ?_
    · intro A W hB hs hJ K hK
      have s0 := hs 7 (by kernel_rfl)
      simp at s0
      rw [if_pos (by rfl)]
      clear hs hJ
      go_simp
      exact hK _ _ (Below.refl _ _) rfl
    refine grow.Each.cons ?_ ?_
    · intro A W hB hs hJ K hK
      have s0 := hs 0 (by kernel_rfl)
      simp at s0
      rw [if_pos (by rfl)]
      clear hs hJ
      go_simp
      exact hK _ _ (Below.refl _ _) rfl
    refine grow.Each.cons ?_ ?_
    · intro A W hB hs hJ K hK
      have s0 := hs 1 (by kernel_rfl)
      simp at s0
      rw [if_pos (by rfl)]
      clear hs hJ
      go_simp
      exact hK _ _ (Below.refl _ _) rfl
    refine grow.Each.cons ?_ ?_
    · intro A W hB hs hJ K hK
      have s0 := hs 8 (by kernel_rfl)
      simp at s0
      rw [if_pos (by rfl)]
      clear hs hJ
      go_simp
      exact hK _ _ (Below.refl _ _) rfl
    refine grow.Each.cons ?_ ?_
    · intro A W hB hs hJ K hK
      have s0 : A.tmps.getD 58 undef = .pointer (some ⟨bm, 0, none⟩) := hJ 4 58 (by kernel_rfl) (by kernel_rfl)
      simp at s0
      rw [if_pos (by rfl)]
      clear hs hJ
      go_simp
      exact hK _ _ (Below.refl _ _) rfl
    refine grow.Each.cons ?_ ?_
    · intro A W hB hs hJ K hK
      have s0 : A.tmps.getD 59 undef = .pointer (some ⟨bm, 0, none⟩) := hJ 5 59 (by kernel_rfl) (by kernel_rfl)
      simp at s0
      rw [if_pos (by rfl)]
      clear hs hJ
      go_simp
      exact hK _ _ (Below.refl _ _) rfl
    refine grow.Each.cons ?_ ?_
    · intro A W hB hs hJ K hK
      have s0 : A.tmps.getD 60 undef = .pointer (some ⟨bm, 4, none⟩) := hJ 6 60 (by kernel_rfl) (by kernel_rfl)
      simp at s0
      have kk := upc hB klm
      rw [if_pos (by rfl)]
      clear hs hJ
      go_simp
      exact hK _ _ (Below.refl _ _) rfl
    refine grow.Each.cons ?_ ?_
    · intro A W hB hs hJ K hK
      have s0 : A.tmps.getD 55 undef = .func (.func 130) #[] #[] := hJ 1 55 (by kernel_rfl) (by kernel_rfl)
      simp at s0
      have s1 : A.tmps.getD 56 undef = .pointer pl := hJ 2 56 (by kernel_rfl) (by kernel_rfl)
      simp at s1
      have s2 : A.tmps.getD 57 undef = .int .i64 v := hJ 3 57 (by kernel_rfl) (by kernel_rfl)
      simp at s2
      have s3 : A.tmps.getD 61 undef = .pointer pml := hJ 7 61 (by kernel_rfl) (by kernel_rfl)
      simp at s3
      rw [if_pos (by rfl)]
      clear hs hJ
      go_simp
      refine (made_any B W pl l v pml ml (szle hB HB.out) (Hl.out.up hB) (Hml.out.up hB) (by (try simp only [BT.size]); omega)).mono ?_
      rintro e W2 ⟨q62, t62, rfl, i62, j62, hbn⟩
      exact hK _ _ hbn ⟨q62, t62, rfl, i62.of rfl rfl, j62⟩
    refine grow.Each.cons ?_ ?_
    · intro A W hB hs hJ K hK
      have s0 := hs 8 (by kernel_rfl)
      simp at s0
      rw [if_pos (by rfl)]
      clear hs hJ
      go_simp
      exact hK _ _ (Below.refl _ _) rfl
    refine grow.Each.cons ?_ ?_
    · intro A W hB hs hJ K hK
      have s0 : A.tmps.getD 63 undef = .pointer (some ⟨bm, 0, none⟩) := hJ 9 63 (by kernel_rfl) (by kernel_rfl)
      simp at s0
      rw [if_pos (by rfl)]
      clear hs hJ
      go_simp
      exact hK _ _ (Below.refl _ _) rfl
    refine grow.Each.cons ?_ ?_
    · intro A W hB hs hJ K hK
      have s0 : A.tmps.getD 64 undef = .pointer (some ⟨bm, 0, none⟩) := hJ 10 64 (by kernel_rfl) (by kernel_rfl)
      simp at s0
      rw [if_pos (by rfl)]
      clear hs hJ
      go_simp
      exact hK _ _ (Below.refl _ _) rfl
    refine grow.Each.cons ?_ ?_
    · intro A W hB hs hJ K hK
      have s0 : A.tmps.getD 65 undef = .pointer (some ⟨bm, 0, none⟩) := hJ 11 65 (by kernel_rfl) (by kernel_rfl)
      simp at s0
      have kk0 := upc hB kxm0
      rw [if_pos (by rfl)]
      clear hs hJ
      go_simp
      exact hK _ _ (Below.refl _ _) rfl
    refine grow.Each.cons ?_ ?_
    · intro A W hB hs hJ K hK
      have s0 := hs 7 (by kernel_rfl)
      simp at s0
      rw [if_pos (by rfl)]
      clear hs hJ
      go_simp
      exact hK _ _ (Below.refl _ _) rfl
    refine grow.Each.cons ?_ ?_
    · intro A W hB hs hJ K hK
      have s0 := hs 8 (by kernel_rfl)
      simp at s0
      rw [if_pos (by rfl)]
      clear hs hJ
      go_simp
      exact hK _ _ (Below.refl _ _) rfl
    refine grow.Each.cons ?_ ?_
    · intro A W hB hs hJ K hK
      have s0 : A.tmps.getD 68 undef = .pointer (some ⟨bm, 0, none⟩) := hJ 14 68 (by kernel_rfl) (by kernel_rfl)
      simp at s0
      rw [if_pos (by rfl)]
      clear hs hJ
      go_simp
      exact hK _ _ (Below.refl _ _) rfl
    refine grow.Each.cons ?_ ?_
    · intro A W hB hs hJ K hK
      have s0 : A.tmps.getD 69 undef = .pointer (some ⟨bm, 0, none⟩) := hJ 15 69 (by kernel_rfl) (by kernel_rfl)
      simp at s0
      rw [if_pos (by rfl)]
      clear hs hJ
      go_simp
      exact hK _ _ (Below.refl _ _) rfl
    refine grow.Each.cons ?_ ?_
    · intro A W hB hs hJ K hK
      have s0 : A.tmps.getD 70 undef = .pointer (some ⟨bm, 5, none⟩) := hJ 16 70 (by kernel_rfl) (by kernel_rfl)
      simp at s0
      have kk := upc hB krm
      rw [if_pos (by rfl)]
      clear hs hJ
      go_simp
      exact hK _ _ (Below.refl _ _) rfl
    refine grow.Each.cons ?_ ?_
    · intro A W hB hs hJ K hK
      have s0 := hs 2 (by kernel_rfl)
      simp at s0
      rw [if_pos (by rfl)]
      clear hs hJ
      go_simp
      exact hK _ _ (Below.refl _ _) rfl
    refine grow.Each.cons ?_ ?_
    · intro A W hB hs hJ K hK
      have s0 : A.tmps.getD 72 undef = .pointer (some ⟨br, 0, none⟩) := hJ 18 72 (by kernel_rfl) (by kernel_rfl)
      simp at s0
      rw [if_pos (by rfl)]
      clear hs hJ
      go_simp
      exact hK _ _ (Below.refl _ _) rfl
    refine grow.Each.cons ?_ ?_
    · intro A W hB hs hJ K hK
      have s0 : A.tmps.getD 73 undef = .pointer (some ⟨br, 0, none⟩) := hJ 19 73 (by kernel_rfl) (by kernel_rfl)
      simp at s0
      rw [if_pos (by rfl)]
      clear hs hJ
      go_simp
      exact hK _ _ (Below.refl _ _) rfl
    refine grow.Each.cons ?_ ?_
    · intro A W hB hs hJ K hK
      have s0 : A.tmps.getD 74 undef = .pointer (some ⟨br, 0, none⟩) := hJ 20 74 (by kernel_rfl) (by kernel_rfl)
      simp at s0
      have kk0 := upc hB kxr0
      rw [if_pos (by rfl)]
      clear hs hJ
      go_simp
      exact hK _ _ (Below.refl _ _) rfl
    refine grow.Each.cons ?_ ?_
    · intro A W hB hs hJ K hK
      have s0 := hs 2 (by kernel_rfl)
      simp at s0
      rw [if_pos (by rfl)]
      clear hs hJ
      go_simp
      exact hK _ _ (Below.refl _ _) rfl
    refine grow.Each.cons ?_ ?_
    · intro A W hB hs hJ K hK
      have s0 : A.tmps.getD 76 undef = .pointer (some ⟨br, 0, none⟩) := hJ 22 76 (by kernel_rfl) (by kernel_rfl)
      simp at s0
      rw [if_pos (by rfl)]
      clear hs hJ
      go_simp
      exact hK _ _ (Below.refl _ _) rfl
    refine grow.Each.cons ?_ ?_
    · intro A W hB hs hJ K hK
      have s0 : A.tmps.getD 77 undef = .pointer (some ⟨br, 0, none⟩) := hJ 23 77 (by kernel_rfl) (by kernel_rfl)
      simp at s0
      rw [if_pos (by rfl)]
      clear hs hJ
      go_simp
      exact hK _ _ (Below.refl _ _) rfl
    refine grow.Each.cons ?_ ?_
    · intro A W hB hs hJ K hK
      have s0 : A.tmps.getD 78 undef = .pointer (some ⟨br, 5, none⟩) := hJ 24 78 (by kernel_rfl) (by kernel_rfl)
      simp at s0
      have kk := upc hB krr
      rw [if_pos (by rfl)]
      clear hs hJ
      go_simp
      exact hK _ _ (Below.refl _ _) rfl
    refine grow.Each.cons ?_ ?_
    · intro A W hB hs hJ K hK
      have s0 : A.tmps.getD 67 undef = .func (.func 130) #[] #[] := hJ 13 67 (by kernel_rfl) (by kernel_rfl)
      simp at s0
      have s1 : A.tmps.getD 71 undef = .pointer pmr := hJ 17 71 (by kernel_rfl) (by kernel_rfl)
      simp at s1
      have s2 : A.tmps.getD 75 undef = .int .i64 xr := hJ 21 75 (by kernel_rfl) (by kernel_rfl)
      simp at s2
      have s3 : A.tmps.getD 79 undef = .pointer prr := hJ 25 79 (by kernel_rfl) (by kernel_rfl)
      simp at s3
      rw [if_pos (by rfl)]
      clear hs hJ
      go_simp
      refine (made_any B W pmr mr xr prr rr (szle hB HB.out) (Hmr.out.up hB) (Hrr.out.up hB) (by (try simp only [BT.size]); omega)).mono ?_
      rintro e W2 ⟨q80, t80, rfl, i80, j80, hbn⟩
      exact hK _ _ hbn ⟨q80, t80, rfl, i80.of rfl rfl, j80⟩
    refine grow.Each.cons ?_ ?_
    · intro A W hB hs hJ K hK
      have s0 : A.tmps.getD 54 undef = .func (.func 130) #[] #[] := hJ 0 54 (by kernel_rfl) (by kernel_rfl)
      simp at s0
      obtain ⟨q62, t62, s1, i62, j62⟩ := hJ 8 62 (by kernel_rfl) (by kernel_rfl)
      simp at s1
      have s2 : A.tmps.getD 66 undef = .int .i64 xm := hJ 12 66 (by kernel_rfl) (by kernel_rfl)
      simp at s2
      obtain ⟨q80, t80, s3, i80, j80⟩ := hJ 26 80 (by kernel_rfl) (by kernel_rfl)
      simp at s3
      rw [if_pos (by rfl)]
      clear hs hJ
      go_simp
      refine (made_any B W q62 t62 xm q80 t80 (szle hB HB.out) j62 j80 (by have e62 := i62.2; have e80 := i80.2; (try simp only [BT.size]); omega)).mono ?_
      rintro e W2 ⟨q81, t81, rfl, i81, j81, hbn⟩
      exact hK _ _ hbn ⟨q81, t81, rfl, i81.of (by rw [i62.1, i80.1]) (by rw [i62.2, i80.2]), j81⟩
    refine grow.Each.cons ?_ ?_
    · intro A W hB hs hJ K hK
      obtain ⟨q81, t81, s0, i81, j81⟩ := hJ 27 81 (by kernel_rfl) (by kernel_rfl)
      simp at s0
      rw [if_pos (by rfl)]
      clear hs hJ
      go_simp
      exact hK _ _ (Below.refl _ _) ⟨q81, t81, rfl, i81, j81⟩
    exact grow.Each.nil
  case fin =>
    intro f W hB hF
    have f0 : f 0 = .func (.func 130) #[] #[] := hF 0 (by decide)
    have f1 : f 1 = .func (.func 130) #[] #[] := hF 1 (by decide)
    have f2 : f 2 = .pointer pl := hF 2 (by decide)
    have f3 : f 3 = .int .i64 v := hF 3 (by decide)
    have f4 : f 4 = .pointer (some ⟨bm, 0, none⟩) := hF 4 (by decide)
    have f5 : f 5 = .pointer (some ⟨bm, 0, none⟩) := hF 5 (by decide)
    have f6 : f 6 = .pointer (some ⟨bm, 4, none⟩) := hF 6 (by decide)
    have f7 : f 7 = .pointer pml := hF 7 (by decide)
    obtain ⟨q62_8, t62_8, f8, i62_8, j62_8⟩ := hF 8 (by decide)
    have f9 : f 9 = .pointer (some ⟨bm, 0, none⟩) := hF 9 (by decide)
    have f10 : f 10 = .pointer (some ⟨bm, 0, none⟩) := hF 10 (by decide)
    have f11 : f 11 = .pointer (some ⟨bm, 0, none⟩) := hF 11 (by decide)
    have f12 : f 12 = .int .i64 xm := hF 12 (by decide)
    have f13 : f 13 = .func (.func 130) #[] #[] := hF 13 (by decide)
    have f14 : f 14 = .pointer (some ⟨bm, 0, none⟩) := hF 14 (by decide)
    have f15 : f 15 = .pointer (some ⟨bm, 0, none⟩) := hF 15 (by decide)
    have f16 : f 16 = .pointer (some ⟨bm, 5, none⟩) := hF 16 (by decide)
    have f17 : f 17 = .pointer pmr := hF 17 (by decide)
    have f18 : f 18 = .pointer (some ⟨br, 0, none⟩) := hF 18 (by decide)
    have f19 : f 19 = .pointer (some ⟨br, 0, none⟩) := hF 19 (by decide)
    have f20 : f 20 = .pointer (some ⟨br, 0, none⟩) := hF 20 (by decide)
    have f21 : f 21 = .int .i64 xr := hF 21 (by decide)
    have f22 : f 22 = .pointer (some ⟨br, 0, none⟩) := hF 22 (by decide)
    have f23 : f 23 = .pointer (some ⟨br, 0, none⟩) := hF 23 (by decide)
    have f24 : f 24 = .pointer (some ⟨br, 5, none⟩) := hF 24 (by decide)
    have f25 : f 25 = .pointer prr := hF 25 (by decide)
    obtain ⟨q80_26, t80_26, f26, i80_26, j80_26⟩ := hF 26 (by decide)
    obtain ⟨q81_27, t81_27, f27, i81_27, j81_27⟩ := hF 27 (by decide)
    obtain ⟨q81_28, t81_28, f28, i81_28, j81_28⟩ := hF 28 (by decide)
    clear hF
    generalize hA : grow.puts _ _ f _ = A'
    simp only [List.length_cons, List.length_nil, Nat.reduceAdd, grow.puts, Act.put, List.getElem?_toArray, List.getElem?_cons_zero, List.getElem?_cons_succ, Option.bind_some, List.setIfInBounds_toArray, List.set_cons_zero, List.set_cons_succ, f0, f1, f2, f3, f4, f5, f6, f7, f8, f9, f10, f11, f12, f13, f14, f15, f16, f17, f18, f19, f20, f21, f22, f23, f24, f25, f26, f27, f28] at hA
    subst hA
    go_wp2_with fail
    go_ret
    exact RetQ.mk (i81_28.of (by simp [BT.inorder]) (by simp only [BT.size]; omega)) j81_28 (belowTrans Hb.out hB)

set_option maxRecDepth 100000 in
set_option maxHeartbeats 4000000 in
theorem even_2 (B : Nat) (w : World) (pr : Option Addr) (r : BT V) (pll : Option Addr) (ll : BT V) (plr : Option Addr) (lr : BT V) (bl : Nat) (xl : V) (v : V) (hB : B ≤ w.heap.size) (hr : In B w pr r) (hll : In B w pll ll) (hlr : In B w plr lr) (hbl : w.heap[bl]? = some (.cells (cs xl ll lr ++ [Value.pointer pll, Value.pointer plr]).toArray 142 (0, 0))) (hl : In B w (some ⟨bl, 0, none⟩) (BT.node xl ll lr)) (hs : r.size + ll.size + lr.size ≤ 1152921504606846900) (hvA : heavyB r (BT.node xl ll lr) = false) (hvC : heavyB (BT.node xl ll lr) r = true) (hc : decide ((BT.size lr : Int) + 1 < 2 * ((BT.size ll : Int) + 1)) = true) :
    Calls Try.prog 129 #[.pointer (some ⟨bl, 0, none⟩), .int .i64 v, .pointer pr] w (Ret B w (Is (BT.inorder (BT.node xl ll lr) ++ v :: BT.inorder r) (BT.size (BT.node xl ll lr) + 1 + BT.size r))) := by
  have hb0 := Below.refl w.heap.size w
  have Hr := Lib.hid (hr.up hb0)
  have hzr : BT.size r ≤ 1152921504606846976 := by (try simp only [BT.size]); omega
  have Hll := Lib.hid (hll.up hb0)
  have hzll : BT.size ll ≤ 1152921504606846976 := by (try simp only [BT.size]); omega
  have Hlr := Lib.hid (hlr.up hb0)
  have hzlr : BT.size lr ≤ 1152921504606846976 := by (try simp only [BT.size]); omega
  have Hl := Lib.hid (hl.up hb0)
  have kxl0 := upc hb0 (cv0 hbl)
  have kll := upc hb0 (cl hbl)
  have krl := upc hb0 (cr hbl)
  have hzl : BT.size (BT.node xl ll lr) ≤ 1152921504606846976 := by (try simp only [BT.size]); omega
  have HB := Lib.hid (szle hb0 hB)
  have Hb := Lib.hid hb0
  clear hb0 hB hr hll hlr hl hbl
  have EA := Lib.hid hvA
  clear hvA
  have EC := Lib.hid hvC
  clear hvC
  have hw2 : IntKind.i64.wrap (2 * ((BT.size ll : Int) + 1)) = 2 * ((BT.size ll : Int) + 1) := IntWalk.i64_in _ (by omega)
  go_enter Try.func129, Try.ntmps129
  go_wp2_with fail
  go_quiet ((first | (go_at_call_of 128 (Value.pointer pr); exact quietOf (heavy_val (Hr.out.up (belowDrewN _ _)) (Hl.out.up (belowDrewN _ _)) hzr hzl EA.out))))
  obtain ⟨V11, hV11⟩ : ∃ V11, V11 = w.drewN nq := ⟨_, rfl⟩
  rw [← hV11]
  have hup2 : Below w.heap.size w V11 := by rw [hV11]; exact belowDrewN _ _
  replace Hr := Lib.hid (Hr.out.up hup2)
  replace Hll := Lib.hid (Hll.out.up hup2)
  replace Hlr := Lib.hid (Hlr.out.up hup2)
  replace Hl := Lib.hid (Hl.out.up hup2)
  replace kxl0 := upc hup2 kxl0
  replace kll := upc hup2 kll
  replace krl := upc hup2 krl
  replace HB := Lib.hid (szle hup2 HB.out)
  replace Hb := Lib.hid (belowTrans Hb.out hup2)
  clear hup2
  clear hV11 nq
  go_wp2_with fail
  refine (heavy_val Hr.out Hl.out hzr hzl EA.out).mono ?_
  rintro e w' ⟨rfl, rfl⟩
  go_wp2_with fail
  go_quiet ((first | (go_at_call_of 128 (Value.pointer (some ⟨bl, 0, none⟩)); exact quietOf (heavy_val (Hl.out.up (belowDrewN _ _)) (Hr.out.up (belowDrewN _ _)) hzl hzr EC.out)) | (go_at_call_of 136 (Value.pointer plr); exact quietOf (weight_any (Hlr.out.up (belowDrewN _ _)) hzlr)) | (go_at_call_of 136 (Value.pointer pll); exact quietOf (weight_any (Hll.out.up (belowDrewN _ _)) hzll))))
  obtain ⟨V13, hV13⟩ : ∃ V13, V13 = V11.drewN nq := ⟨_, rfl⟩
  rw [← hV13]
  have hup4 : Below V11.heap.size V11 V13 := by rw [hV13]; exact belowDrewN _ _
  replace Hr := Lib.hid (Hr.out.up hup4)
  replace Hll := Lib.hid (Hll.out.up hup4)
  replace Hlr := Lib.hid (Hlr.out.up hup4)
  replace Hl := Lib.hid (Hl.out.up hup4)
  replace kxl0 := upc hup4 kxl0
  replace kll := upc hup4 kll
  replace krl := upc hup4 krl
  replace HB := Lib.hid (szle hup4 HB.out)
  replace Hb := Lib.hid (belowTrans Hb.out hup4)
  clear hup4
  clear hV13 nq
  clear hc hw2
  go_wp2_with fail
  refine grow.wp_grow [grow.kEq (.func (.func 130) #[] #[]), grow.kEq (.pointer (some ⟨bl, 0, none⟩)), grow.kEq (.pointer (some ⟨bl, 0, none⟩)), grow.kEq (.pointer (some ⟨bl, 4, none⟩)), grow.kEq (.pointer pll), grow.kEq (.pointer (some ⟨bl, 0, none⟩)), grow.kEq (.pointer (some ⟨bl, 0, none⟩)), grow.kEq (.pointer (some ⟨bl, 0, none⟩)), grow.kEq (.int .i64 xl), grow.kEq (.func (.func 130) #[] #[]), grow.kEq (.pointer (some ⟨bl, 0, none⟩)), grow.kEq (.pointer (some ⟨bl, 0, none⟩)), grow.kEq (.pointer (some ⟨bl, 5, none⟩)), grow.kEq (.pointer plr), grow.kEq (.int .i64 v), grow.kEq (.pointer pr), kT B (Is (BT.inorder lr ++ v :: BT.inorder r) (BT.size lr + 1 + BT.size r)), kT B (Is (BT.inorder ll ++ xl :: (BT.inorder lr ++ v :: BT.inorder r)) (BT.size ll + 1 + (BT.size lr + 1 + BT.size r))), kT B (Is (BT.inorder ll ++ xl :: (BT.inorder lr ++ v :: BT.inorder r)) (BT.size ll + 1 + (BT.size lr + 1 + BT.size r)))] (by kernel_rfl) (by kernel_rfl) (by kernel_rfl) (by kernel_rfl) ?step ?fin
  case step =>
    refine grow.Each.cons ?_ ?_
    · intro A W hB hs hJ K hK
      have s0 := hs 7 (by kernel_rfl)
      simp at s0
      rw [if_pos (by rfl)]
      clear hs hJ
      go_simp
      exact hK _ _ (Below.refl _ _) rfl
    refine grow.Each.cons ?_ ?_
    · intro A W hB hs hJ K hK
      have s0 := hs 0 (by kernel_rfl)
      simp at s0
      rw [if_pos (by rfl)]
      clear hs hJ
      go_simp
      exact hK _ _ (Below.refl _ _) rfl
    refine grow.Each.cons ?_ ?_
    · intro A W hB hs hJ K hK
      have s0 : A.tmps.getD 101 undef = .pointer (some ⟨bl, 0, none⟩) := hJ 1 101 (by kernel_rfl) (by kernel_rfl)
      simp at s0
      rw [if_pos (by rfl)]
      clear hs hJ
      go_simp
      exact hK _ _ (Below.refl _ _) rfl
    refine grow.Each.cons ?_ ?_
    · intro A W hB hs hJ K hK
      have s0 : A.tmps.getD 102 undef = .pointer (some ⟨bl, 0, none⟩) := hJ 2 102 (by kernel_rfl) (by kernel_rfl)
      simp at s0
      rw [if_pos (by rfl)]
      clear hs hJ
      go_simp
      exact hK _ _ (Below.refl _ _) rfl
    refine grow.Each.cons ?_ ?_
    · intro A W hB hs hJ K hK
      have s0 : A.tmps.getD 103 undef = .pointer (some ⟨bl, 4, none⟩) := hJ 3 103 (by kernel_rfl) (by kernel_rfl)
      simp at s0
      have kk := upc hB kll
      rw [if_pos (by rfl)]
      clear hs hJ
      go_simp
      exact hK _ _ (Below.refl _ _) rfl
    refine grow.Each.cons ?_ ?_
    · intro A W hB hs hJ K hK
      have s0 := hs 0 (by kernel_rfl)
      simp at s0
      rw [if_pos (by rfl)]
      clear hs hJ
      go_simp
      exact hK _ _ (Below.refl _ _) rfl
    refine grow.Each.cons ?_ ?_
    · intro A W hB hs hJ K hK
      have s0 : A.tmps.getD 105 undef = .pointer (some ⟨bl, 0, none⟩) := hJ 5 105 (by kernel_rfl) (by kernel_rfl)
      simp at s0
      rw [if_pos (by rfl)]
      clear hs hJ
      go_simp
      exact hK _ _ (Below.refl _ _) rfl
    refine grow.Each.cons ?_ ?_
    · intro A W hB hs hJ K hK
      have s0 : A.tmps.getD 106 undef = .pointer (some ⟨bl, 0, none⟩) := hJ 6 106 (by kernel_rfl) (by kernel_rfl)
      simp at s0
      rw [if_pos (by rfl)]
      clear hs hJ
      go_simp
      exact hK _ _ (Below.refl _ _) rfl
    refine grow.Each.cons ?_ ?_
    · intro A W hB hs hJ K hK
      have s0 : A.tmps.getD 107 undef = .pointer (some ⟨bl, 0, none⟩) := hJ 7 107 (by kernel_rfl) (by kernel_rfl)
      simp at s0
      have kk0 := upc hB kxl0
      rw [if_pos (by rfl)]
      clear hs hJ
      go_simp
      exact hK _ _ (Below.refl _ _) rfl
    refine grow.Each.cons ?_ ?_
    · intro A W hB hs hJ K hK
      have s0 := hs 7 (by kernel_rfl)
      simp at s0
      rw [if_pos (by rfl)]
      clear hs hJ
      go_simp
      exact hK _ _ (Below.refl _ _) rfl
    refine grow.Each.cons ?_ ?_
    · intro A W hB hs hJ K hK
      have s0 := hs 0 (by kernel_rfl)
      simp at s0
      rw [if_pos (by rfl)]
      clear hs hJ
      go_simp
      exact hK _ _ (Below.refl _ _) rfl
    refine grow.Each.cons ?_ ?_
    · intro A W hB hs hJ K hK
      have s0 : A.tmps.getD 110 undef = .pointer (some ⟨bl, 0, none⟩) := hJ 10 110 (by kernel_rfl) (by kernel_rfl)
      simp at s0
      rw [if_pos (by rfl)]
      clear hs hJ
      go_simp
      exact hK _ _ (Below.refl _ _) rfl
    refine grow.Each.cons ?_ ?_
    · intro A W hB hs hJ K hK
      have s0 : A.tmps.getD 111 undef = .pointer (some ⟨bl, 0, none⟩) := hJ 11 111 (by kernel_rfl) (by kernel_rfl)
      simp at s0
      rw [if_pos (by rfl)]
      clear hs hJ
      go_simp
      exact hK _ _ (Below.refl _ _) rfl
    refine grow.Each.cons ?_ ?_
    · intro A W hB hs hJ K hK
      have s0 : A.tmps.getD 112 undef = .pointer (some ⟨bl, 5, none⟩) := hJ 12 112 (by kernel_rfl) (by kernel_rfl)
      simp at s0
      have kk := upc hB krl
      rw [if_pos (by rfl)]
      clear hs hJ
      go_simp
      exact hK _ _ (Below.refl _ _) rfl
    refine grow.Each.cons ?_ ?_
    · intro A W hB hs hJ K hK
      have s0 := hs 1 (by kernel_rfl)
      simp at s0
      rw [if_pos (by rfl)]
      clear hs hJ
      go_simp
      exact hK _ _ (Below.refl _ _) rfl
    refine grow.Each.cons ?_ ?_
    · intro A W hB hs hJ K hK
      have s0 := hs 2 (by kernel_rfl)
      simp at s0
      rw [if_pos (by rfl)]
      clear hs hJ
      go_simp
      exact hK _ _ (Below.refl _ _) rfl
    refine grow.Each.cons ?_ ?_
    · intro A W hB hs hJ K hK
      have s0 : A.tmps.getD 109 undef = .func (.func 130) #[] #[] := hJ 9 109 (by kernel_rfl) (by kernel_rfl)
      simp at s0
      have s1 : A.tmps.getD 113 undef = .pointer plr := hJ 13 113 (by kernel_rfl) (by kernel_rfl)
      simp at s1
      have s2 : A.tmps.getD 114 undef = .int .i64 v := hJ 14 114 (by kernel_rfl) (by kernel_rfl)
      simp at s2
      have s3 : A.tmps.getD 115 undef = .pointer pr := hJ 15 115 (by kernel_rfl) (by kernel_rfl)
      simp at s3
      rw [if_pos (by rfl)]
      clear hs hJ
      go_simp
      refine (made_any B W plr lr v pr r (szle hB HB.out) (Hlr.out.up hB) (Hr.out.up hB) (by (try simp only [BT.size]); omega)).mono ?_
      rintro e W2 ⟨q116, t116, rfl, i116, j116, hbn⟩
      exact hK _ _ hbn ⟨q116, t116, rfl, i116.of rfl rfl, j116⟩
    refine grow.Each.cons ?_ ?_
    · intro A W hB hs hJ K hK
      have s0 : A.tmps.getD 100 undef = .func (.func 130) #[] #[] := hJ 0 100 (by kernel_rfl) (by kernel_rfl)
      simp at s0
      have s1 : A.tmps.getD 104 undef = .pointer pll := hJ 4 104 (by kernel_rfl) (by kernel_rfl)
      simp at s1
      have s2 : A.tmps.getD 108 undef = .int .i64 xl := hJ 8 108 (by kernel_rfl) (by kernel_rfl)
      simp at s2
      obtain ⟨q116, t116, s3, i116, j116⟩ := hJ 16 116 (by kernel_rfl) (by kernel_rfl)
      simp at s3
      rw [if_pos (by rfl)]
      clear hs hJ
      go_simp
      refine (made_any B W pll ll xl q116 t116 (szle hB HB.out) (Hll.out.up hB) j116 (by have e116 := i116.2; (try simp only [BT.size]); omega)).mono ?_
      rintro e W2 ⟨q117, t117, rfl, i117, j117, hbn⟩
      exact hK _ _ hbn ⟨q117, t117, rfl, i117.of (by rw [i116.1]) (by rw [i116.2]), j117⟩
    refine grow.Each.cons ?_ ?_
    · intro A W hB hs hJ K hK
      obtain ⟨q117, t117, s0, i117, j117⟩ := hJ 17 117 (by kernel_rfl) (by kernel_rfl)
      simp at s0
      rw [if_pos (by rfl)]
      clear hs hJ
      go_simp
      exact hK _ _ (Below.refl _ _) ⟨q117, t117, rfl, i117, j117⟩
    exact grow.Each.nil
  case fin =>
    intro f W hB hF
    have f0 : f 0 = .func (.func 130) #[] #[] := hF 0 (by decide)
    have f1 : f 1 = .pointer (some ⟨bl, 0, none⟩) := hF 1 (by decide)
    have f2 : f 2 = .pointer (some ⟨bl, 0, none⟩) := hF 2 (by decide)
    have f3 : f 3 = .pointer (some ⟨bl, 4, none⟩) := hF 3 (by decide)
    have f4 : f 4 = .pointer pll := hF 4 (by decide)
    have f5 : f 5 = .pointer (some ⟨bl, 0, none⟩) := hF 5 (by decide)
    have f6 : f 6 = .pointer (some ⟨bl, 0, none⟩) := hF 6 (by decide)
    have f7 : f 7 = .pointer (some ⟨bl, 0, none⟩) := hF 7 (by decide)
    have f8 : f 8 = .int .i64 xl := hF 8 (by decide)
    have f9 : f 9 = .func (.func 130) #[] #[] := hF 9 (by decide)
    have f10 : f 10 = .pointer (some ⟨bl, 0, none⟩) := hF 10 (by decide)
    have f11 : f 11 = .pointer (some ⟨bl, 0, none⟩) := hF 11 (by decide)
    have f12 : f 12 = .pointer (some ⟨bl, 5, none⟩) := hF 12 (by decide)
    have f13 : f 13 = .pointer plr := hF 13 (by decide)
    have f14 : f 14 = .int .i64 v := hF 14 (by decide)
    have f15 : f 15 = .pointer pr := hF 15 (by decide)
    obtain ⟨q116_16, t116_16, f16, i116_16, j116_16⟩ := hF 16 (by decide)
    obtain ⟨q117_17, t117_17, f17, i117_17, j117_17⟩ := hF 17 (by decide)
    obtain ⟨q117_18, t117_18, f18, i117_18, j117_18⟩ := hF 18 (by decide)
    clear hF
    generalize hA : grow.puts _ _ f _ = A'
    simp only [List.length_cons, List.length_nil, Nat.reduceAdd, grow.puts, Act.put, List.getElem?_toArray, List.getElem?_cons_zero, List.getElem?_cons_succ, Option.bind_some, List.setIfInBounds_toArray, List.set_cons_zero, List.set_cons_succ, f0, f1, f2, f3, f4, f5, f6, f7, f8, f9, f10, f11, f12, f13, f14, f15, f16, f17, f18] at hA
    subst hA
    go_wp2_with fail
    go_ret
    exact RetQ.mk (i117_18.of (by simp [BT.inorder]) (by simp only [BT.size]; omega)) j117_18 (belowTrans Hb.out hB)

set_option maxRecDepth 100000 in
set_option maxHeartbeats 4000000 in
theorem even_3 (B : Nat) (w : World) (pr : Option Addr) (r : BT V) (pml : Option Addr) (ml : BT V) (pmr : Option Addr) (mr : BT V) (pll : Option Addr) (ll : BT V) (bm : Nat) (xm : V) (bl : Nat) (xl : V) (v : V) (hB : B ≤ w.heap.size) (hr : In B w pr r) (hml : In B w pml ml) (hmr : In B w pmr mr) (hll : In B w pll ll) (hbm : w.heap[bm]? = some (.cells (cs xm ml mr ++ [Value.pointer pml, Value.pointer pmr]).toArray 142 (0, 0))) (hm : In B w (some ⟨bm, 0, none⟩) (BT.node xm ml mr)) (hbl : w.heap[bl]? = some (.cells (cs xl ll (BT.node xm ml mr) ++ [Value.pointer pll, Value.pointer (some ⟨bm, 0, none⟩)]).toArray 142 (0, 0))) (hl : In B w (some ⟨bl, 0, none⟩) (BT.node xl ll (BT.node xm ml mr))) (hs : r.size + ml.size + mr.size + ll.size ≤ 1152921504606846900) (hvA : heavyB r (BT.node xl ll (BT.node xm ml mr)) = false) (hvC : heavyB (BT.node xl ll (BT.node xm ml mr)) r = true) (hc : decide ((BT.size (BT.node xm ml mr) : Int) + 1 < 2 * ((BT.size ll : Int) + 1)) = false) :
    Calls Try.prog 129 #[.pointer (some ⟨bl, 0, none⟩), .int .i64 v, .pointer pr] w (Ret B w (Is (BT.inorder (BT.node xl ll (BT.node xm ml mr)) ++ v :: BT.inorder r) (BT.size (BT.node xl ll (BT.node xm ml mr)) + 1 + BT.size r))) := by
  have hb0 := Below.refl w.heap.size w
  have Hr := Lib.hid (hr.up hb0)
  have hzr : BT.size r ≤ 1152921504606846976 := by (try simp only [BT.size]); omega
  have Hml := Lib.hid (hml.up hb0)
  have hzml : BT.size ml ≤ 1152921504606846976 := by (try simp only [BT.size]); omega
  have Hmr := Lib.hid (hmr.up hb0)
  have hzmr : BT.size mr ≤ 1152921504606846976 := by (try simp only [BT.size]); omega
  have Hll := Lib.hid (hll.up hb0)
  have hzll : BT.size ll ≤ 1152921504606846976 := by (try simp only [BT.size]); omega
  have Hm := Lib.hid (hm.up hb0)
  have kxm0 := upc hb0 (cv0 hbm)
  have klm := upc hb0 (cl hbm)
  have krm := upc hb0 (cr hbm)
  have hzm : BT.size (BT.node xm ml mr) ≤ 1152921504606846976 := by (try simp only [BT.size]); omega
  have Hl := Lib.hid (hl.up hb0)
  have kxl0 := upc hb0 (cv0 hbl)
  have kll := upc hb0 (cl hbl)
  have krl := upc hb0 (cr hbl)
  have hzl : BT.size (BT.node xl ll (BT.node xm ml mr)) ≤ 1152921504606846976 := by (try simp only [BT.size]); omega
  have HB := Lib.hid (szle hb0 hB)
  have Hb := Lib.hid hb0
  clear hb0 hB hr hml hmr hll hm hbm hl hbl
  have EA := Lib.hid hvA
  clear hvA
  have EC := Lib.hid hvC
  clear hvC
  have hw2 : IntKind.i64.wrap (2 * ((BT.size ll : Int) + 1)) = 2 * ((BT.size ll : Int) + 1) := IntWalk.i64_in _ (by omega)
  go_enter Try.func129, Try.ntmps129
  go_wp2_with fail
  go_quiet ((first | (go_at_call_of 128 (Value.pointer pr); exact quietOf (heavy_val (Hr.out.up (belowDrewN _ _)) (Hl.out.up (belowDrewN _ _)) hzr hzl EA.out))))
  obtain ⟨V11, hV11⟩ : ∃ V11, V11 = w.drewN nq := ⟨_, rfl⟩
  rw [← hV11]
  have hup2 : Below w.heap.size w V11 := by rw [hV11]; exact belowDrewN _ _
  replace Hr := Lib.hid (Hr.out.up hup2)
  replace Hml := Lib.hid (Hml.out.up hup2)
  replace Hmr := Lib.hid (Hmr.out.up hup2)
  replace Hll := Lib.hid (Hll.out.up hup2)
  replace Hm := Lib.hid (Hm.out.up hup2)
  replace Hl := Lib.hid (Hl.out.up hup2)
  replace kxm0 := upc hup2 kxm0
  replace kxl0 := upc hup2 kxl0
  replace klm := upc hup2 klm
  replace krm := upc hup2 krm
  replace kll := upc hup2 kll
  replace krl := upc hup2 krl
  replace HB := Lib.hid (szle hup2 HB.out)
  replace Hb := Lib.hid (belowTrans Hb.out hup2)
  clear hup2
  clear hV11 nq
  go_wp2_with fail
  refine (heavy_val Hr.out Hl.out hzr hzl EA.out).mono ?_
  rintro e w' ⟨rfl, rfl⟩
  go_wp2_with fail
  go_quiet ((first | (go_at_call_of 128 (Value.pointer (some ⟨bl, 0, none⟩)); exact quietOf (heavy_val (Hl.out.up (belowDrewN _ _)) (Hr.out.up (belowDrewN _ _)) hzl hzr EC.out)) | (go_at_call_of 136 (Value.pointer (some ⟨bm, 0, none⟩)); exact quietOf (weight_any (Hm.out.up (belowDrewN _ _)) hzm)) | (go_at_call_of 136 (Value.pointer pll); exact quietOf (weight_any (Hll.out.up (belowDrewN _ _)) hzll))))
  obtain ⟨V13, hV13⟩ : ∃ V13, V13 = V11.drewN nq := ⟨_, rfl⟩
  rw [← hV13]
  have hup4 : Below V11.heap.size V11 V13 := by rw [hV13]; exact belowDrewN _ _
  replace Hr := Lib.hid (Hr.out.up hup4)
  replace Hml := Lib.hid (Hml.out.up hup4)
  replace Hmr := Lib.hid (Hmr.out.up hup4)
  replace Hll := Lib.hid (Hll.out.up hup4)
  replace Hm := Lib.hid (Hm.out.up hup4)
  replace Hl := Lib.hid (Hl.out.up hup4)
  replace kxm0 := upc hup4 kxm0
  replace kxl0 := upc hup4 kxl0
  replace klm := upc hup4 klm
  replace krm := upc hup4 krm
  replace kll := upc hup4 kll
  replace krl := upc hup4 krl
  replace HB := Lib.hid (szle hup4 HB.out)
  replace Hb := Lib.hid (belowTrans Hb.out hup4)
  clear hup4
  clear hV13 nq
  clear hc hw2
  go_wp2_with fail
  refine (heavy_val Hl.out Hr.out hzl hzr EC.out).mono ?_
  rintro e w' ⟨rfl, rfl⟩
  go_wp2_with fail
  refine grow.wp_grow [grow.kEq (.func (.func 130) #[] #[]), grow.kEq (.func (.func 130) #[] #[]), grow.kEq (.pointer (some ⟨bl, 0, none⟩)), grow.kEq (.pointer (some ⟨bl, 0, none⟩)), grow.kEq (.pointer (some ⟨bl, 4, none⟩)), grow.kEq (.pointer pll), grow.kEq (.pointer (some ⟨bl, 0, none⟩)), grow.kEq (.pointer (some ⟨bl, 0, none⟩)), grow.kEq (.pointer (some ⟨bl, 0, none⟩)), grow.kEq (.int .i64 xl), grow.kEq (.pointer (some ⟨bm, 0, none⟩)), grow.kEq (.pointer (some ⟨bm, 0, none⟩)), grow.kEq (.pointer (some ⟨bm, 4, none⟩)), grow.kEq (.pointer pml), kT B (Is (BT.inorder ll ++ xl :: BT.inorder ml) (BT.size ll + 1 + BT.size ml)), grow.kEq (.pointer (some ⟨bm, 0, none⟩)), grow.kEq (.pointer (some ⟨bm, 0, none⟩)), grow.kEq (.pointer (some ⟨bm, 0, none⟩)), grow.kEq (.int .i64 xm), grow.kEq (.func (.func 130) #[] #[]), grow.kEq (.pointer (some ⟨bm, 0, none⟩)), grow.kEq (.pointer (some ⟨bm, 0, none⟩)), grow.kEq (.pointer (some ⟨bm, 5, none⟩)), grow.kEq (.pointer pmr), grow.kEq (.int .i64 v), grow.kEq (.pointer pr), kT B (Is (BT.inorder mr ++ v :: BT.inorder r) (BT.size mr + 1 + BT.size r)), kT B (Is ((BT.inorder ll ++ xl :: BT.inorder ml) ++ xm :: (BT.inorder mr ++ v :: BT.inorder r)) ((BT.size ll + 1 + BT.size ml) + 1 + (BT.size mr + 1 + BT.size r))), kT B (Is ((BT.inorder ll ++ xl :: BT.inorder ml) ++ xm :: (BT.inorder mr ++ v :: BT.inorder r)) ((BT.size ll + 1 + BT.size ml) + 1 + (BT.size mr + 1 + BT.size r)))] (by kernel_rfl) (by kernel_rfl) (by kernel_rfl) (by kernel_rfl) ?step ?fin
  case step =>
    refine grow.Each.cons ?_ ?_
    · intro A W hB hs hJ K hK
      have s0 := hs 7 (by kernel_rfl)
      simp at s0
      rw [if_pos (by rfl)]
      clear hs hJ
      go_simp
      exact hK _ _ (Below.refl _ _) rfl
    refine grow.Each.cons ?_ ?_
    · intro A W hB hs hJ K hK
      have s0 := hs 7 (by kernel_rfl)
      simp at s0
      rw [if_pos (by rfl)]
      clear hs hJ
      go_simp
      exact hK _ _ (Below.refl _ _) rfl
    refine grow.Each.cons ?_ ?_
    · intro A W hB hs hJ K hK
      have s0 := hs 0 (by kernel_rfl)
      simp at s0
      rw [if_pos (by rfl)]
      clear hs hJ
      go_simp
      exact hK _ _ (Below.refl _ _) rfl
    refine grow.Each.cons ?_ ?_
    · intro A W hB hs hJ K hK
      have s0 : A.tmps.getD 128 undef = .pointer (some ⟨bl, 0, none⟩) := hJ 2 128 (by kernel_rfl) (by kernel_rfl)
      simp at s0
      rw [if_pos (by rfl)]
      clear hs hJ
      go_simp
      exact hK _ _ (Below.refl _ _) rfl
    refine grow.Each.cons ?_ ?_
    · intro A W hB hs hJ K hK
      have s0 : A.tmps.getD 129 undef = .pointer (some ⟨bl, 0, none⟩) := hJ 3 129 (by kernel_rfl) (by kernel_rfl)
      simp at s0
      rw [if_pos (by rfl)]
      clear hs hJ
      go_simp
      exact hK _ _ (Below.refl _ _) rfl
    refine grow.Each.cons ?_ ?_
    · intro A W hB hs hJ K hK
      have s0 : A.tmps.getD 130 undef = .pointer (some ⟨bl, 4, none⟩) := hJ 4 130 (by kernel_rfl) (by kernel_rfl)
      simp at s0
      have kk := upc hB kll
      rw [if_pos (by rfl)]
      clear hs hJ
      go_simp
      exact hK _ _ (Below.refl _ _) rfl
    refine grow.Each.cons ?_ ?_
    · intro A W hB hs hJ K hK
      have s0 := hs 0 (by kernel_rfl)
      simp at s0
      rw [if_pos (by rfl)]
      clear hs hJ
      go_simp
      exact hK _ _ (Below.refl _ _) rfl
    refine grow.Each.cons ?_ ?_
    · intro A W hB hs hJ K hK
      have s0 : A.tmps.getD 132 undef = .pointer (some ⟨bl, 0, none⟩) := hJ 6 132 (by kernel_rfl) (by kernel_rfl)
      simp at s0
      rw [if_pos (by rfl)]
      clear hs hJ
      go_simp
      exact hK _ _ (Below.refl _ _) rfl
    refine grow.Each.cons ?_ ?_
    · intro A W hB hs hJ K hK
      have s0 : A.tmps.getD 133 undef = .pointer (some ⟨bl, 0, none⟩) := hJ 7 133 (by kernel_rfl) (by kernel_rfl)
      simp at s0
      rw [if_pos (by rfl)]
      clear hs hJ
      go_simp
      exact hK _ _ (Below.refl _ _) rfl
    refine grow.Each.cons ?_ ?_
    · intro A W hB hs hJ K hK
      have s0 : A.tmps.getD 134 undef = .pointer (some ⟨bl, 0, none⟩) := hJ 8 134 (by kernel_rfl) (by kernel_rfl)
      simp at s0
      have kk0 := upc hB kxl0
      rw [if_pos (by rfl)]
      clear hs hJ
      go_simp
      exact hK _ _ (Below.refl _ _) rfl
    refine grow.Each.cons ?_ ?_
    · intro A W hB hs hJ K hK
      have s0 := hs 9 (by kernel_rfl)
      simp at s0
      rw [if_pos (by rfl)]
      clear hs hJ
      go_simp
      exact hK _ _ (Below.refl _ _) rfl
    refine grow.Each.cons ?_ ?_
    · intro A W hB hs hJ K hK
      have s0 : A.tmps.getD 136 undef = .pointer (some ⟨bm, 0, none⟩) := hJ 10 136 (by kernel_rfl) (by kernel_rfl)
      simp at s0
      rw [if_pos (by rfl)]
      clear hs hJ
      go_simp
      exact hK _ _ (Below.refl _ _) rfl
    refine grow.Each.cons ?_ ?_
    · intro A W hB hs hJ K hK
      have s0 : A.tmps.getD 137 undef = .pointer (some ⟨bm, 0, none⟩) := hJ 11 137 (by kernel_rfl) (by kernel_rfl)
      simp at s0
      rw [if_pos (by rfl)]
      clear hs hJ
      go_simp
      exact hK _ _ (Below.refl _ _) rfl
    refine grow.Each.cons ?_ ?_
    · intro A W hB hs hJ K hK
      have s0 : A.tmps.getD 138 undef = .pointer (some ⟨bm, 4, none⟩) := hJ 12 138 (by kernel_rfl) (by kernel_rfl)
      simp at s0
      have kk := upc hB klm
      rw [if_pos (by rfl)]
      clear hs hJ
      go_simp
      exact hK _ _ (Below.refl _ _) rfl
    refine grow.Each.cons ?_ ?_
    · intro A W hB hs hJ K hK
      have s0 : A.tmps.getD 127 undef = .func (.func 130) #[] #[] := hJ 1 127 (by kernel_rfl) (by kernel_rfl)
      simp at s0
      have s1 : A.tmps.getD 131 undef = .pointer pll := hJ 5 131 (by kernel_rfl) (by kernel_rfl)
      simp at s1
      have s2 : A.tmps.getD 135 undef = .int .i64 xl := hJ 9 135 (by kernel_rfl) (by kernel_rfl)
      simp at s2
      have s3 : A.tmps.getD 139 undef = .pointer pml := hJ 13 139 (by kernel_rfl) (by kernel_rfl)
      simp at s3
      rw [if_pos (by rfl)]
      clear hs hJ
      go_simp
      refine (made_any B W pll ll xl pml ml (szle hB HB.out) (Hll.out.up hB) (Hml.out.up hB) (by (try simp only [BT.size]); omega)).mono ?_
      rintro e W2 ⟨q140, t140, rfl, i140, j140, hbn⟩
      exact hK _ _ hbn ⟨q140, t140, rfl, i140.of rfl rfl, j140⟩
    refine grow.Each.cons ?_ ?_
    · intro A W hB hs hJ K hK
      have s0 := hs 9 (by kernel_rfl)
      simp at s0
      rw [if_pos (by rfl)]
      clear hs hJ
      go_simp
      exact hK _ _ (Below.refl _ _) rfl
    refine grow.Each.cons ?_ ?_
    · intro A W hB hs hJ K hK
      have s0 : A.tmps.getD 141 undef = .pointer (some ⟨bm, 0, none⟩) := hJ 15 141 (by kernel_rfl) (by kernel_rfl)
      simp at s0
      rw [if_pos (by rfl)]
      clear hs hJ
      go_simp
      exact hK _ _ (Below.refl _ _) rfl
    refine grow.Each.cons ?_ ?_
    · intro A W hB hs hJ K hK
      have s0 : A.tmps.getD 142 undef = .pointer (some ⟨bm, 0, none⟩) := hJ 16 142 (by kernel_rfl) (by kernel_rfl)
      simp at s0
      rw [if_pos (by rfl)]
      clear hs hJ
      go_simp
      exact hK _ _ (Below.refl _ _) rfl
    refine grow.Each.cons ?_ ?_
    · intro A W hB hs hJ K hK
      have s0 : A.tmps.getD 143 undef = .pointer (some ⟨bm, 0, none⟩) := hJ 17 143 (by kernel_rfl) (by kernel_rfl)
      simp at s0
      have kk0 := upc hB kxm0
      rw [if_pos (by rfl)]
      clear hs hJ
      go_simp
      exact hK _ _ (Below.refl _ _) rfl
    refine grow.Each.cons ?_ ?_
    · intro A W hB hs hJ K hK
      have s0 := hs 7 (by kernel_rfl)
      simp at s0
      rw [if_pos (by rfl)]
      clear hs hJ
      go_simp
      exact hK _ _ (Below.refl _ _) rfl
    refine grow.Each.cons ?_ ?_
    · intro A W hB hs hJ K hK
      have s0 := hs 9 (by kernel_rfl)
      simp at s0
      rw [if_pos (by rfl)]
      clear hs hJ
      go_simp
      exact hK _ _ (Below.refl _ _) rfl
    refine grow.Each.cons ?_ ?_
    · intro A W hB hs hJ K hK
      have s0 : A.tmps.getD 146 undef = .pointer (some ⟨bm, 0, none⟩) := hJ 20 146 (by kernel_rfl) (by kernel_rfl)
      simp at s0
      rw [if_pos (by rfl)]
      clear hs hJ
      go_simp
      exact hK _ _ (Below.refl _ _) rfl
    refine grow.Each.cons ?_ ?_
    · intro A W hB hs hJ K hK
      have s0 : A.tmps.getD 147 undef = .pointer (some ⟨bm, 0, none⟩) := hJ 21 147 (by kernel_rfl) (by kernel_rfl)
      simp at s0
      rw [if_pos (by rfl)]
      clear hs hJ
      go_simp
      exact hK _ _ (Below.refl _ _) rfl
    refine grow.Each.cons ?_ ?_
    · intro A W hB hs hJ K hK
      have s0 : A.tmps.getD 148 undef = .pointer (some ⟨bm, 5, none⟩) := hJ 22 148 (by kernel_rfl) (by kernel_rfl)
      simp at s0
      have kk := upc hB krm
      rw [if_pos (by rfl)]
      clear hs hJ
      go_simp
      exact hK _ _ (Below.refl _ _) rfl
    refine grow.Each.cons ?_ ?_
    · intro A W hB hs hJ K hK
      have s0 := hs 1 (by kernel_rfl)
      simp at s0
      rw [if_pos (by rfl)]
      clear hs hJ
      go_simp
      exact hK _ _ (Below.refl _ _) rfl
    refine grow.Each.cons ?_ ?_
    · intro A W hB hs hJ K hK
      have s0 := hs 2 (by kernel_rfl)
      simp at s0
      rw [if_pos (by rfl)]
      clear hs hJ
      go_simp
      exact hK _ _ (Below.refl _ _) rfl
    refine grow.Each.cons ?_ ?_
    · intro A W hB hs hJ K hK
      have s0 : A.tmps.getD 145 undef = .func (.func 130) #[] #[] := hJ 19 145 (by kernel_rfl) (by kernel_rfl)
      simp at s0
      have s1 : A.tmps.getD 149 undef = .pointer pmr := hJ 23 149 (by kernel_rfl) (by kernel_rfl)
      simp at s1
      have s2 : A.tmps.getD 150 undef = .int .i64 v := hJ 24 150 (by kernel_rfl) (by kernel_rfl)
      simp at s2
      have s3 : A.tmps.getD 151 undef = .pointer pr := hJ 25 151 (by kernel_rfl) (by kernel_rfl)
      simp at s3
      rw [if_pos (by rfl)]
      clear hs hJ
      go_simp
      refine (made_any B W pmr mr v pr r (szle hB HB.out) (Hmr.out.up hB) (Hr.out.up hB) (by (try simp only [BT.size]); omega)).mono ?_
      rintro e W2 ⟨q152, t152, rfl, i152, j152, hbn⟩
      exact hK _ _ hbn ⟨q152, t152, rfl, i152.of rfl rfl, j152⟩
    refine grow.Each.cons ?_ ?_
    · intro A W hB hs hJ K hK
      have s0 : A.tmps.getD 126 undef = .func (.func 130) #[] #[] := hJ 0 126 (by kernel_rfl) (by kernel_rfl)
      simp at s0
      obtain ⟨q140, t140, s1, i140, j140⟩ := hJ 14 140 (by kernel_rfl) (by kernel_rfl)
      simp at s1
      have s2 : A.tmps.getD 144 undef = .int .i64 xm := hJ 18 144 (by kernel_rfl) (by kernel_rfl)
      simp at s2
      obtain ⟨q152, t152, s3, i152, j152⟩ := hJ 26 152 (by kernel_rfl) (by kernel_rfl)
      simp at s3
      rw [if_pos (by rfl)]
      clear hs hJ
      go_simp
      refine (made_any B W q140 t140 xm q152 t152 (szle hB HB.out) j140 j152 (by have e140 := i140.2; have e152 := i152.2; (try simp only [BT.size]); omega)).mono ?_
      rintro e W2 ⟨q153, t153, rfl, i153, j153, hbn⟩
      exact hK _ _ hbn ⟨q153, t153, rfl, i153.of (by rw [i140.1, i152.1]) (by rw [i140.2, i152.2]), j153⟩
    refine grow.Each.cons ?_ ?_
    · intro A W hB hs hJ K hK
      obtain ⟨q153, t153, s0, i153, j153⟩ := hJ 27 153 (by kernel_rfl) (by kernel_rfl)
      simp at s0
      rw [if_pos (by rfl)]
      clear hs hJ
      go_simp
      exact hK _ _ (Below.refl _ _) ⟨q153, t153, rfl, i153, j153⟩
    exact grow.Each.nil
  case fin =>
    intro f W hB hF
    have f0 : f 0 = .func (.func 130) #[] #[] := hF 0 (by decide)
    have f1 : f 1 = .func (.func 130) #[] #[] := hF 1 (by decide)
    have f2 : f 2 = .pointer (some ⟨bl, 0, none⟩) := hF 2 (by decide)
    have f3 : f 3 = .pointer (some ⟨bl, 0, none⟩) := hF 3 (by decide)
    have f4 : f 4 = .pointer (some ⟨bl, 4, none⟩) := hF 4 (by decide)
    have f5 : f 5 = .pointer pll := hF 5 (by decide)
    have f6 : f 6 = .pointer (some ⟨bl, 0, none⟩) := hF 6 (by decide)
    have f7 : f 7 = .pointer (some ⟨bl, 0, none⟩) := hF 7 (by decide)
    have f8 : f 8 = .pointer (some ⟨bl, 0, none⟩) := hF 8 (by decide)
    have f9 : f 9 = .int .i64 xl := hF 9 (by decide)
    have f10 : f 10 = .pointer (some ⟨bm, 0, none⟩) := hF 10 (by decide)
    have f11 : f 11 = .pointer (some ⟨bm, 0, none⟩) := hF 11 (by decide)
    have f12 : f 12 = .pointer (some ⟨bm, 4, none⟩) := hF 12 (by decide)
    have f13 : f 13 = .pointer pml := hF 13 (by decide)
    obtain ⟨q140_14, t140_14, f14, i140_14, j140_14⟩ := hF 14 (by decide)
    have f15 : f 15 = .pointer (some ⟨bm, 0, none⟩) := hF 15 (by decide)
    have f16 : f 16 = .pointer (some ⟨bm, 0, none⟩) := hF 16 (by decide)
    have f17 : f 17 = .pointer (some ⟨bm, 0, none⟩) := hF 17 (by decide)
    have f18 : f 18 = .int .i64 xm := hF 18 (by decide)
    have f19 : f 19 = .func (.func 130) #[] #[] := hF 19 (by decide)
    have f20 : f 20 = .pointer (some ⟨bm, 0, none⟩) := hF 20 (by decide)
    have f21 : f 21 = .pointer (some ⟨bm, 0, none⟩) := hF 21 (by decide)
    have f22 : f 22 = .pointer (some ⟨bm, 5, none⟩) := hF 22 (by decide)
    have f23 : f 23 = .pointer pmr := hF 23 (by decide)
    have f24 : f 24 = .int .i64 v := hF 24 (by decide)
    have f25 : f 25 = .pointer pr := hF 25 (by decide)
    obtain ⟨q152_26, t152_26, f26, i152_26, j152_26⟩ := hF 26 (by decide)
    obtain ⟨q153_27, t153_27, f27, i153_27, j153_27⟩ := hF 27 (by decide)
    obtain ⟨q153_28, t153_28, f28, i153_28, j153_28⟩ := hF 28 (by decide)
    clear hF
    generalize hA : grow.puts _ _ f _ = A'
    simp only [List.length_cons, List.length_nil, Nat.reduceAdd, grow.puts, Act.put, List.getElem?_toArray, List.getElem?_cons_zero, List.getElem?_cons_succ, Option.bind_some, List.setIfInBounds_toArray, List.set_cons_zero, List.set_cons_succ, f0, f1, f2, f3, f4, f5, f6, f7, f8, f9, f10, f11, f12, f13, f14, f15, f16, f17, f18, f19, f20, f21, f22, f23, f24, f25, f26, f27, f28] at hA
    subst hA
    go_wp2_with fail
    go_ret
    exact RetQ.mk (i153_28.of (by simp [BT.inorder]) (by simp only [BT.size]; omega)) j153_28 (belowTrans Hb.out hB)

set_option maxRecDepth 100000 in
set_option maxHeartbeats 4000000 in
theorem even_4 (B : Nat) (w : World) (pl : Option Addr) (l : BT V) (pr : Option Addr) (r : BT V) (v : V) (hB : B ≤ w.heap.size) (hl : In B w pl l) (hr : In B w pr r) (hs : l.size + r.size ≤ 1152921504606846900) (hvA : heavyB r l = false) (hvC : heavyB l r = false) :
    Calls Try.prog 129 #[.pointer pl, .int .i64 v, .pointer pr] w (Ret B w (Is (BT.inorder l ++ v :: BT.inorder r) (BT.size l + 1 + BT.size r))) := by
  have hb0 := Below.refl w.heap.size w
  have Hl := Lib.hid (hl.up hb0)
  have hzl : BT.size l ≤ 1152921504606846976 := by (try simp only [BT.size]); omega
  have Hr := Lib.hid (hr.up hb0)
  have hzr : BT.size r ≤ 1152921504606846976 := by (try simp only [BT.size]); omega
  have HB := Lib.hid (szle hb0 hB)
  have Hb := Lib.hid hb0
  clear hb0 hB hl hr
  have EA := Lib.hid hvA
  clear hvA
  have EC := Lib.hid hvC
  clear hvC
  go_enter Try.func129, Try.ntmps129
  go_wp2_with fail
  go_quiet ((first | (go_at_call_of 128 (Value.pointer pr); exact quietOf (heavy_val (Hr.out.up (belowDrewN _ _)) (Hl.out.up (belowDrewN _ _)) hzr hzl EA.out))))
  obtain ⟨V11, hV11⟩ : ∃ V11, V11 = w.drewN nq := ⟨_, rfl⟩
  rw [← hV11]
  have hup2 : Below w.heap.size w V11 := by rw [hV11]; exact belowDrewN _ _
  replace Hl := Lib.hid (Hl.out.up hup2)
  replace Hr := Lib.hid (Hr.out.up hup2)
  replace HB := Lib.hid (szle hup2 HB.out)
  replace Hb := Lib.hid (belowTrans Hb.out hup2)
  clear hup2
  clear hV11 nq
  go_wp2_with fail
  refine (heavy_val Hr.out Hl.out hzr hzl EA.out).mono ?_
  rintro e w' ⟨rfl, rfl⟩
  go_wp2_with fail
  go_quiet ((first | (go_at_call_of 128 (Value.pointer pl); exact quietOf (heavy_val (Hl.out.up (belowDrewN _ _)) (Hr.out.up (belowDrewN _ _)) hzl hzr EC.out))))
  obtain ⟨V13, hV13⟩ : ∃ V13, V13 = V11.drewN nq := ⟨_, rfl⟩
  rw [← hV13]
  have hup4 : Below V11.heap.size V11 V13 := by rw [hV13]; exact belowDrewN _ _
  replace Hl := Lib.hid (Hl.out.up hup4)
  replace Hr := Lib.hid (Hr.out.up hup4)
  replace HB := Lib.hid (szle hup4 HB.out)
  replace Hb := Lib.hid (belowTrans Hb.out hup4)
  clear hup4
  clear hV13 nq
  go_wp2_with fail
  refine (heavy_val Hl.out Hr.out hzl hzr EC.out).mono ?_
  rintro e w' ⟨rfl, rfl⟩
  go_wp2_with fail
  refine (made_any B _ pl l v pr r HB.out Hl.out Hr.out (by omega)).mono ?_
  rintro e w1 ⟨q, t, rfl, it, jt, hbn⟩
  go_wp2_with fail
  go_ret
  exact RetQ.mk it jt (belowTrans Hb.out hbn)

theorem even_any (B : Nat) (w : World) (pl : Option Addr) (l : BT V) (v : V) (pr : Option Addr) (r : BT V) (hB : B ≤ w.heap.size) (hl : In B w pl l) (hr : In B w pr r) (hs : l.size + r.size ≤ 1152921504606846900) :
    Calls Try.prog 129 #[.pointer pl, .int .i64 v, .pointer pr] w (Ret B w (Is (l.inorder ++ v :: r.inorder) (l.size + 1 + r.size))) := by
  by_cases hA : heavyB r l = true
  · cases r with
    | nil => simp [heavyB, BT.size] at hA; omega
    | node xr rl rr =>
      have hr2 := hr
      obtain ⟨br, prl, prr, rfl, _, hb, hrl, hrr⟩ := hr
      simp only [BT.size] at hs
      by_cases hc : decide ((BT.size rl : Int) + 1 < 2 * ((BT.size rr : Int) + 1)) = true
      · exact even_0 B w pl l prl rl prr rr br xr v hB hl hrl hrr hb hr2 (by omega) hA hc
      · cases rl with
        | nil => simp [BT.size] at hc; omega
        | node xm ml mr =>
          have hm2 := hrl
          obtain ⟨bm, pml, pmr, rfl, _, hbm, hml, hmr⟩ := hrl
          simp only [BT.size] at hs
          exact even_1 B w pl l pml ml pmr mr prr rr bm xm br xr v hB hl hml hmr hrr hbm hm2 hb hr2 (by omega) hA (Bool.eq_false_iff.2 hc)
  · by_cases hC : heavyB l r = true
    · cases l with
      | nil => simp [heavyB, BT.size] at hC; omega
      | node xl ll lr =>
        have hl2 := hl
        obtain ⟨bl, pll, plr, rfl, _, hb, hll, hlr⟩ := hl
        simp only [BT.size] at hs
        by_cases hc : decide ((BT.size lr : Int) + 1 < 2 * ((BT.size ll : Int) + 1)) = true
        · exact even_2 B w pr r pll ll plr lr bl xl v hB hr hll hlr hb hl2 (by omega) (Bool.eq_false_iff.2 hA) hC hc
        · cases lr with
          | nil => simp [BT.size] at hc; omega
          | node xm ml mr =>
            have hm2 := hlr
            obtain ⟨bm, pml, pmr, rfl, _, hbm, hml, hmr⟩ := hlr
            simp only [BT.size] at hs
            exact even_3 B w pr r pml ml pmr mr pll ll bm xm bl xl v hB hr hml hmr hll hbm hm2 hb hl2 (by omega) (Bool.eq_false_iff.2 hA) hC (Bool.eq_false_iff.2 hc)
    · exact even_4 B w pl l pr r v hB hl hr (by omega) (Bool.eq_false_iff.2 hA) (Bool.eq_false_iff.2 hC)
end Go.Proofs.Ytnigadnjppeckaa.manyO
