/- Package scan: Fold, Scan, Levels. (Printed by sf.py.) -/
import Derived.Test.YtnnpeblpdkeffaaScanS
import Derived.Test.YtnnpeblpdkeffaaRowLL
import Derived.Test.YtnnpeblpdkeffaaGrow2
import Derived.Lib.SliceRun
namespace Go.Proofs.Ytnnpeblpdkeffaa.scan
open Go.RowKit

set_option maxHeartbeats 1000000 in
theorem fold53 (w : World) (b : Nat) (h : w.heap[b]? = some (.cells #[.int .i64 5, .int .i64 3] 3 (0, 0))) :
    Calls Try.prog 8 #[.int .i64 1, .slice (some ⟨b, 0, none⟩) 2 2] w fun e w' => e = .returned (.tuple #[.int .i64 8, .nilIface]) ∧ Below w.heap.size w w' := by
  have hall : allF 1 2 [5, 3] = 8 := by decide +kernel
  have hs : Slc w (some ⟨b, 0, none⟩) 2 [5, 3] := ⟨by simp, .inr ⟨b, 0, rfl, fun i hi => by
    have h0 := two_c0 h
    have h1 := two_c1 h
    rcases i with _ | _ | i
    · simpa using h0
    · simpa using h1
    · simp at hi; omega⟩⟩
  have Hall := Lib.hid hall
  have Hs := Lib.hid hs
  clear hall hs h
  go_enter Try.func8, Try.ntmps8
  go_wp2_with fail
  refine (of1 _).mono ?_
  rintro e w1 ⟨rfl, hb1⟩
  go_wp2_with fail
  have hb2 := belowTrans hb1 (belowAlloc w1 (.cells #[.int .i64 (nt 1), .func (.func 21) #[] #[]] 43))
  refine (sweep_any1 2 _ (some ⟨b, 0, none⟩) 2 [5, 3] (by simp) (Hs.out.up hb2) (by simp)).mono ?_
  rintro e w2 ⟨a', c', out, rfl, _, _, hb3⟩
  rw [Hall.out]
  go_wp2_with fail
  go_ret2
  exact ⟨rfl, belowTrans hb2 hb3⟩

set_option maxRecDepth 100000 in
set_option maxHeartbeats 4000000 in
theorem Scan1 (w : World) (a : Option Addr) (c : Nat) (zs : List Int) (hn : zs.length ≤ 17592186043904) (hs : Slc w a c zs) :
    Calls Try.prog 6 #[.int .i64 1, .slice a zs.length c] w fun e w' => ∃ a' c' out, e = .returned (.tuple #[.slice a' zs.length c', .nilIface]) ∧ OwnI 3 w' w.heap.size (.slice a' zs.length c') out ∧ out.length = zs.length ∧ Below w.heap.size w w' := by
  have Hsw := Lib.hid (fun W (hB : Below w.heap.size w W) => sweep_any1 zs.length W a c zs hn (hs.up hB) (Nat.le_refl _))
  obtain ⟨len, hlen⟩ : ∃ len, len = zs.length := ⟨_, rfl⟩
  unfold RetSw at Hsw
  rw [← hlen] at Hsw hn ⊢
  have Hlen := Lib.hid hlen
  have Hs := Lib.hid hs
  clear hlen hs
  go_enter Try.func6, Try.ntmps6
  go_wp2_with fail
  refine (of1 _).mono ?_
  rintro e w1 ⟨rfl, hb1⟩
  go_wp2_with fail
  obtain ⟨V, hV⟩ : ∃ V, V = w1.alloc (.cells #[.int .i64 (nt 1), .func (.func 21) #[] #[]] 43) := ⟨_, rfl⟩
  have hbV : Below w.heap.size w V := by rw [hV]; exact belowTrans hb1 (belowAlloc _ _)
  have hop : V.heap[w1.heap.size]? = some (.cells #[.int .i64 (nt 1), .func (.func 21) #[] #[]] 43 (0, 0)) := by rw [hV]; exact heap_alloc_new _ _
  have HV := Lib.hid hV
  clear hV
  skip
  rw [← HV.out]
  refine (Hsw.out V hbV).mono ?_
  rintro e w2 ⟨a', c', out, rfl, ho, hol, hb2⟩
  have kop := two_c1 (upb hb2 hop)
  have hw1 := (Array.getElem?_eq_some_iff.1 hop).1
  have Ho := Lib.hid ho
  have Hol := Lib.hid hol
  have HbV := Lib.hid hbV
  have Hb2 := Lib.hid hb2
  clear ho hol hbV hb2 hop
  have hblk : ∀ b, (Value.slice a' len c').ownBlock = some b → V.heap.size ≤ b := fun b hb => (Ho.out.block b hb).1
  have Hblk := Lib.hid hblk
  clear hblk
  go_wp2_with fail
  go_loopw [27] (fun i wr => ∃ j : Nat, j ≤ len ∧ i = .int .i64 j ∧ Hid (FillI V.heap.size (.slice a' len c') len w2 wr)) (fun i _ => len - (intOf i).toNat)
  case atStart => exact ⟨0, Nat.zero_le _, rfl, Lib.hid (FillI.start Hol.out Ho.out)⟩
  case round =>
    obtain ⟨j, hj, rfl, HF⟩ := hrel
    by_cases hlt : j < len
    · have hlt0 : 0 < len := by omega
      obtain ⟨g, hg⟩ : ∃ g, a' = some ⟨g, 0, none⟩ := by
        have h := Ho.out
        obtain ⟨a2, c2, e, _, hr, hg⟩ := h.form
        have e' : a' = a2 := by injection e
        rcases hr with hr | ⟨b, o, ha, _⟩
        · rw [hr] at Hol
          have := Hol.out
          simp at this
          omega
        · obtain ⟨g, hx, _⟩ := hg _ ha
          exact ⟨g, by rw [e', ha, hx]⟩
      subst hg
      obtain ⟨y, hcy, hfy⟩ := HF.out.cell j hlt
      obtain ⟨b, off, rfl, hcs⟩ := Hs.out.at (by rw [← Hlen.out]; omega)
      have hbw : Below w.heap.size w wr := HF.out.below (Nat.le_trans HbV.out.size Hb2.out.size) (belowTrans HbV.out Hb2.out) (fun b hb => Nat.le_trans HbV.out.size (Hblk.out b hb))
      have kz := upc hbw (hcs j (by rw [← Hlen.out]; exact hlt))
      generalize zs.getD j 0 = z at kz
      have kopr : wr.cell? ⟨w1.heap.size, 1, none⟩ = some (.func (.func 21) #[] #[]) := by
        have h := HF.out.block w1.heap.size (Nat.lt_of_lt_of_le hw1 Hb2.out.size) (fun e => by have := Hblk.out _ e; omega)
        rw [← kop]
        simp only [World.cell?, h]
      have d0 : (0 : Int) ≤ (j : Int) := by omega
      have d1 : (j : Int) < (len : Int) := by omega
      clear hcs hbw kop
      go_wp2_with fail
      refine grow.wp_grow_last 14 _ [grow.kEq (.slice (some ⟨g, 0, none⟩) len c'), grow.kEq (.int .i64 (j : Nat)), grow.kEq (.pointer (some ⟨w1.heap.size, 1, none⟩)), grow.kEq (.func (.func 21) #[] #[]), grow.kEq (.slice (some ⟨g, 0, none⟩) len c'), grow.kEq (.int .i64 (j : Nat)), grow.kEq (.pointer (some ⟨g, j, none⟩)), grow.kEq (.int .i64 y), grow.kEq (.slice (some ⟨b, off, none⟩) len c), grow.kEq (.int .i64 (j : Nat)), grow.kEq (.pointer (some ⟨b, off + j, none⟩)), grow.kEq (.int .i64 z), grow.kEq (.int .i64 (ap 1 y z)), grow.kEq (.pointer (some ⟨g, j, none⟩))] rfl rfl rfl (by kernel_rfl) (by kernel_rfl) (by kernel_rfl) (by kernel_rfl) (by kernel_rfl) ?step ?fin
      case step =>
        refine grow.EachL.cons ?_ ?_
        · intro A W hB hs hJ K hK
          have s0 := hs 8 (by kernel_rfl)
          simp at s0
          rw [if_pos (by rfl)]
          clear hs hJ
          go_simp
          exact hK _ _ (Below.refl _ _) rfl
        refine grow.EachL.cons ?_ ?_
        · intro A W hB hs hJ K hK
          have s0 := hs 10 (by kernel_rfl)
          simp at s0
          rw [if_pos (by rfl)]
          clear hs hJ
          go_simp
          exact hK _ _ (Below.refl _ _) rfl
        refine grow.EachL.cons ?_ ?_
        · intro A W hB hs hJ K hK
          have s0 := hs 6 (by kernel_rfl)
          simp at s0
          rw [if_pos (by rfl)]
          clear hs hJ
          go_simp
          exact hK _ _ (Below.refl _ _) rfl
        refine grow.EachL.cons ?_ ?_
        · intro A W hB hs hJ K hK
          have s0 : A.tmps.getD 32 undef = .pointer (some ⟨w1.heap.size, 1, none⟩) := hJ 2 32 (by kernel_rfl) (by kernel_rfl)
          simp at s0
          have kk := upc hB kopr
          rw [if_pos (by rfl)]
          clear hs hJ
          go_simp
          exact hK _ _ (Below.refl _ _) rfl
        refine grow.EachL.cons ?_ ?_
        · intro A W hB hs hJ K hK
          have s0 := hs 8 (by kernel_rfl)
          simp at s0
          rw [if_pos (by rfl)]
          clear hs hJ
          go_simp
          exact hK _ _ (Below.refl _ _) rfl
        refine grow.EachL.cons ?_ ?_
        · intro A W hB hs hJ K hK
          have s0 := hs 10 (by kernel_rfl)
          simp at s0
          rw [if_pos (by rfl)]
          clear hs hJ
          go_simp
          exact hK _ _ (Below.refl _ _) rfl
        refine grow.EachL.cons ?_ ?_
        · intro A W hB hs hJ K hK
          have s0 : A.tmps.getD 34 undef = .slice (some ⟨g, 0, none⟩) len c' := hJ 4 34 (by kernel_rfl) (by kernel_rfl)
          simp at s0
          have s1 : A.tmps.getD 35 undef = .int .i64 (j : Nat) := hJ 5 35 (by kernel_rfl) (by kernel_rfl)
          simp at s1
          rw [if_pos (by rfl)]
          clear hs hJ
          go_simp
          exact hK _ _ (Below.refl _ _) rfl
        refine grow.EachL.cons ?_ ?_
        · intro A W hB hs hJ K hK
          have s0 : A.tmps.getD 36 undef = .pointer (some ⟨g, j, none⟩) := hJ 6 36 (by kernel_rfl) (by kernel_rfl)
          simp at s0
          have kk := upc hB hcy
          rw [if_pos (by rfl)]
          clear hs hJ
          go_simp
          exact hK _ _ (Below.refl _ _) rfl
        refine grow.EachL.cons ?_ ?_
        · intro A W hB hs hJ K hK
          have s0 := hs 1 (by kernel_rfl)
          simp at s0
          rw [if_pos (by rfl)]
          clear hs hJ
          go_simp
          exact hK _ _ (Below.refl _ _) rfl
        refine grow.EachL.cons ?_ ?_
        · intro A W hB hs hJ K hK
          have s0 := hs 10 (by kernel_rfl)
          simp at s0
          rw [if_pos (by rfl)]
          clear hs hJ
          go_simp
          exact hK _ _ (Below.refl _ _) rfl
        refine grow.EachL.cons ?_ ?_
        · intro A W hB hs hJ K hK
          have s0 : A.tmps.getD 38 undef = .slice (some ⟨b, off, none⟩) len c := hJ 8 38 (by kernel_rfl) (by kernel_rfl)
          simp at s0
          have s1 : A.tmps.getD 39 undef = .int .i64 (j : Nat) := hJ 9 39 (by kernel_rfl) (by kernel_rfl)
          simp at s1
          rw [if_pos (by rfl)]
          clear hs hJ
          go_simp
          exact hK _ _ (Below.refl _ _) rfl
        refine grow.EachL.cons ?_ ?_
        · intro A W hB hs hJ K hK
          have s0 : A.tmps.getD 40 undef = .pointer (some ⟨b, off + j, none⟩) := hJ 10 40 (by kernel_rfl) (by kernel_rfl)
          simp at s0
          have kk := upc hB kz
          rw [if_pos (by rfl)]
          clear hs hJ
          go_simp
          exact hK _ _ (Below.refl _ _) rfl
        refine grow.EachL.cons ?_ ?_
        · intro A W hB hs hJ K hK
          have s0 : A.tmps.getD 33 undef = .func (.func 21) #[] #[] := hJ 3 33 (by kernel_rfl) (by kernel_rfl)
          simp at s0
          have s1 : A.tmps.getD 37 undef = .int .i64 y := hJ 7 37 (by kernel_rfl) (by kernel_rfl)
          simp at s1
          have s2 : A.tmps.getD 41 undef = .int .i64 z := hJ 11 41 (by kernel_rfl) (by kernel_rfl)
          simp at s2
          rw [if_pos (by rfl)]
          clear hs hJ
          go_simp
          refine (take1 _ _ _).mono ?_
          rintro e W2 ⟨rfl, rfl⟩
          exact hK _ _ (Below.refl _ _) rfl
        refine grow.EachL.cons ?_ ?_
        · intro A W hB hs hJ K hK
          have s0 : A.tmps.getD 30 undef = .slice (some ⟨g, 0, none⟩) len c' := hJ 0 30 (by kernel_rfl) (by kernel_rfl)
          simp at s0
          have s1 : A.tmps.getD 31 undef = .int .i64 (j : Nat) := hJ 1 31 (by kernel_rfl) (by kernel_rfl)
          simp at s1
          rw [if_pos (by rfl)]
          clear hs hJ
          go_simp
          exact hK _ _ (Below.refl _ _) rfl
        exact grow.EachL.nil
      case fin =>
        intro f W hB hF
        have f0 : f 0 = .slice (some ⟨g, 0, none⟩) len c' := hF 0 (by decide)
        have f1 : f 1 = .int .i64 (j : Nat) := hF 1 (by decide)
        have f2 : f 2 = .pointer (some ⟨w1.heap.size, 1, none⟩) := hF 2 (by decide)
        have f3 : f 3 = .func (.func 21) #[] #[] := hF 3 (by decide)
        have f4 : f 4 = .slice (some ⟨g, 0, none⟩) len c' := hF 4 (by decide)
        have f5 : f 5 = .int .i64 (j : Nat) := hF 5 (by decide)
        have f6 : f 6 = .pointer (some ⟨g, j, none⟩) := hF 6 (by decide)
        have f7 : f 7 = .int .i64 y := hF 7 (by decide)
        have f8 : f 8 = .slice (some ⟨b, off, none⟩) len c := hF 8 (by decide)
        have f9 : f 9 = .int .i64 (j : Nat) := hF 9 (by decide)
        have f10 : f 10 = .pointer (some ⟨b, off + j, none⟩) := hF 10 (by decide)
        have f11 : f 11 = .int .i64 z := hF 11 (by decide)
        have f12 : f 12 = .int .i64 (ap 1 y z) := hF 12 (by decide)
        have f13 : f 13 = .pointer (some ⟨g, j, none⟩) := hF 13 (by decide)
        clear hF
        intro A hA
        simp only [grow.puts, Act.put, List.getElem?_toArray, List.getElem?_cons_zero, List.getElem?_cons_succ, Option.bind_some, List.setIfInBounds_toArray, List.set_cons_zero, List.set_cons_succ, f0, f1, f2, f3, f4, f5, f6, f7, f8, f9, f10, f11, f12, f13] at hA
        subst hA
        have HFW := Lib.hid (HF.out.up hB)
        obtain ⟨y2, kc2, kf2⟩ := HFW.out.cell j hlt
        have HF2 := Lib.hid (HFW.out.step j (ap 1 y z))
        clear hB
        go_simp
        go_wp2_with fail
        go_roundw
        case rel => exact ⟨j + 1, by omega, by go_num, HF2⟩
        case measure => simp [intOf]; omega
    · have hjl : j = len := by omega
      have hw : Below w.heap.size w wr := HF.out.below (Nat.le_trans HbV.out.size Hb2.out.size) (belowTrans HbV.out Hb2.out) (fun b hb => Nat.le_trans HbV.out.size (Hblk.out b hb))
      obtain ⟨ys, hyl, hyo⟩ := HF.out.own
      have HE : Hid (OwnI 3 wr w.heap.size (.slice a' len c') ys ∧ ys.length = len ∧ Below w.heap.size w wr) := Lib.hid ⟨ownI_low (by rw [OwnI, hyl]; exact hyo) HbV.out.size, hyl, hw⟩
      clear hw hyl hyo hjl HF kop
      go_wp2_with fail
      go_ret2
      exact ⟨a', c', ys, rfl, HE.out⟩

set_option maxRecDepth 100000 in
set_option maxHeartbeats 4000000 in
theorem Scan2 (w : World) (a : Option Addr) (c : Nat) (zs : List Int) (hn : zs.length ≤ 17592186043904) (hs : Slc w a c zs) :
    Calls Try.prog 6 #[.int .i64 2, .slice a zs.length c] w fun e w' => ∃ a' c' out, e = .returned (.tuple #[.slice a' zs.length c', .nilIface]) ∧ OwnI 3 w' w.heap.size (.slice a' zs.length c') out ∧ out.length = zs.length ∧ Below w.heap.size w w' := by
  have Hsw := Lib.hid (fun W (hB : Below w.heap.size w W) => sweep_any2 zs.length W a c zs hn (hs.up hB) (Nat.le_refl _))
  obtain ⟨len, hlen⟩ : ∃ len, len = zs.length := ⟨_, rfl⟩
  unfold RetSw at Hsw
  rw [← hlen] at Hsw hn ⊢
  have Hlen := Lib.hid hlen
  have Hs := Lib.hid hs
  clear hlen hs
  go_enter Try.func6, Try.ntmps6
  go_wp2_with fail
  refine (of2 _).mono ?_
  rintro e w1 ⟨rfl, hb1⟩
  go_wp2_with fail
  obtain ⟨V, hV⟩ : ∃ V, V = w1.alloc (.cells #[.int .i64 (nt 2), .func (.func 22) #[] #[]] 43) := ⟨_, rfl⟩
  have hbV : Below w.heap.size w V := by rw [hV]; exact belowTrans hb1 (belowAlloc _ _)
  have hop : V.heap[w1.heap.size]? = some (.cells #[.int .i64 (nt 2), .func (.func 22) #[] #[]] 43 (0, 0)) := by rw [hV]; exact heap_alloc_new _ _
  have HV := Lib.hid hV
  clear hV
  skip
  rw [← HV.out]
  refine (Hsw.out V hbV).mono ?_
  rintro e w2 ⟨a', c', out, rfl, ho, hol, hb2⟩
  have kop := two_c1 (upb hb2 hop)
  have hw1 := (Array.getElem?_eq_some_iff.1 hop).1
  have Ho := Lib.hid ho
  have Hol := Lib.hid hol
  have HbV := Lib.hid hbV
  have Hb2 := Lib.hid hb2
  clear ho hol hbV hb2 hop
  have hblk : ∀ b, (Value.slice a' len c').ownBlock = some b → V.heap.size ≤ b := fun b hb => (Ho.out.block b hb).1
  have Hblk := Lib.hid hblk
  clear hblk
  go_wp2_with fail
  go_loopw [27] (fun i wr => ∃ j : Nat, j ≤ len ∧ i = .int .i64 j ∧ Hid (FillI V.heap.size (.slice a' len c') len w2 wr)) (fun i _ => len - (intOf i).toNat)
  case atStart => exact ⟨0, Nat.zero_le _, rfl, Lib.hid (FillI.start Hol.out Ho.out)⟩
  case round =>
    obtain ⟨j, hj, rfl, HF⟩ := hrel
    by_cases hlt : j < len
    · have hlt0 : 0 < len := by omega
      obtain ⟨g, hg⟩ : ∃ g, a' = some ⟨g, 0, none⟩ := by
        have h := Ho.out
        obtain ⟨a2, c2, e, _, hr, hg⟩ := h.form
        have e' : a' = a2 := by injection e
        rcases hr with hr | ⟨b, o, ha, _⟩
        · rw [hr] at Hol
          have := Hol.out
          simp at this
          omega
        · obtain ⟨g, hx, _⟩ := hg _ ha
          exact ⟨g, by rw [e', ha, hx]⟩
      subst hg
      obtain ⟨y, hcy, hfy⟩ := HF.out.cell j hlt
      obtain ⟨b, off, rfl, hcs⟩ := Hs.out.at (by rw [← Hlen.out]; omega)
      have hbw : Below w.heap.size w wr := HF.out.below (Nat.le_trans HbV.out.size Hb2.out.size) (belowTrans HbV.out Hb2.out) (fun b hb => Nat.le_trans HbV.out.size (Hblk.out b hb))
      have kz := upc hbw (hcs j (by rw [← Hlen.out]; exact hlt))
      generalize zs.getD j 0 = z at kz
      have kopr : wr.cell? ⟨w1.heap.size, 1, none⟩ = some (.func (.func 22) #[] #[]) := by
        have h := HF.out.block w1.heap.size (Nat.lt_of_lt_of_le hw1 Hb2.out.size) (fun e => by have := Hblk.out _ e; omega)
        rw [← kop]
        simp only [World.cell?, h]
      have d0 : (0 : Int) ≤ (j : Int) := by omega
      have d1 : (j : Int) < (len : Int) := by omega
      clear hcs hbw kop
      go_wp2_with fail
      refine grow.wp_grow_last 14 _ [grow.kEq (.slice (some ⟨g, 0, none⟩) len c'), grow.kEq (.int .i64 (j : Nat)), grow.kEq (.pointer (some ⟨w1.heap.size, 1, none⟩)), grow.kEq (.func (.func 22) #[] #[]), grow.kEq (.slice (some ⟨g, 0, none⟩) len c'), grow.kEq (.int .i64 (j : Nat)), grow.kEq (.pointer (some ⟨g, j, none⟩)), grow.kEq (.int .i64 y), grow.kEq (.slice (some ⟨b, off, none⟩) len c), grow.kEq (.int .i64 (j : Nat)), grow.kEq (.pointer (some ⟨b, off + j, none⟩)), grow.kEq (.int .i64 z), grow.kEq (.int .i64 (ap 2 y z)), grow.kEq (.pointer (some ⟨g, j, none⟩))] rfl rfl rfl (by kernel_rfl) (by kernel_rfl) (by kernel_rfl) (by kernel_rfl) (by kernel_rfl) ?step ?fin
      case step =>
        refine grow.EachL.cons ?_ ?_
        · intro A W hB hs hJ K hK
          have s0 := hs 8 (by kernel_rfl)
          simp at s0
          rw [if_pos (by rfl)]
          clear hs hJ
          go_simp
          exact hK _ _ (Below.refl _ _) rfl
        refine grow.EachL.cons ?_ ?_
        · intro A W hB hs hJ K hK
          have s0 := hs 10 (by kernel_rfl)
          simp at s0
          rw [if_pos (by rfl)]
          clear hs hJ
          go_simp
          exact hK _ _ (Below.refl _ _) rfl
        refine grow.EachL.cons ?_ ?_
        · intro A W hB hs hJ K hK
          have s0 := hs 6 (by kernel_rfl)
          simp at s0
          rw [if_pos (by rfl)]
          clear hs hJ
          go_simp
          exact hK _ _ (Below.refl _ _) rfl
        refine grow.EachL.cons ?_ ?_
        · intro A W hB hs hJ K hK
          have s0 : A.tmps.getD 32 undef = .pointer (some ⟨w1.heap.size, 1, none⟩) := hJ 2 32 (by kernel_rfl) (by kernel_rfl)
          simp at s0
          have kk := upc hB kopr
          rw [if_pos (by rfl)]
          clear hs hJ
          go_simp
          exact hK _ _ (Below.refl _ _) rfl
        refine grow.EachL.cons ?_ ?_
        · intro A W hB hs hJ K hK
          have s0 := hs 8 (by kernel_rfl)
          simp at s0
          rw [if_pos (by rfl)]
          clear hs hJ
          go_simp
          exact hK _ _ (Below.refl _ _) rfl
        refine grow.EachL.cons ?_ ?_
        · intro A W hB hs hJ K hK
          have s0 := hs 10 (by kernel_rfl)
          simp at s0
          rw [if_pos (by rfl)]
          clear hs hJ
          go_simp
          exact hK _ _ (Below.refl _ _) rfl
        refine grow.EachL.cons ?_ ?_
        · intro A W hB hs hJ K hK
          have s0 : A.tmps.getD 34 undef = .slice (some ⟨g, 0, none⟩) len c' := hJ 4 34 (by kernel_rfl) (by kernel_rfl)
          simp at s0
          have s1 : A.tmps.getD 35 undef = .int .i64 (j : Nat) := hJ 5 35 (by kernel_rfl) (by kernel_rfl)
          simp at s1
          rw [if_pos (by rfl)]
          clear hs hJ
          go_simp
          exact hK _ _ (Below.refl _ _) rfl
        refine grow.EachL.cons ?_ ?_
        · intro A W hB hs hJ K hK
          have s0 : A.tmps.getD 36 undef = .pointer (some ⟨g, j, none⟩) := hJ 6 36 (by kernel_rfl) (by kernel_rfl)
          simp at s0
          have kk := upc hB hcy
          rw [if_pos (by rfl)]
          clear hs hJ
          go_simp
          exact hK _ _ (Below.refl _ _) rfl
        refine grow.EachL.cons ?_ ?_
        · intro A W hB hs hJ K hK
          have s0 := hs 1 (by kernel_rfl)
          simp at s0
          rw [if_pos (by rfl)]
          clear hs hJ
          go_simp
          exact hK _ _ (Below.refl _ _) rfl
        refine grow.EachL.cons ?_ ?_
        · intro A W hB hs hJ K hK
          have s0 := hs 10 (by kernel_rfl)
          simp at s0
          rw [if_pos (by rfl)]
          clear hs hJ
          go_simp
          exact hK _ _ (Below.refl _ _) rfl
        refine grow.EachL.cons ?_ ?_
        · intro A W hB hs hJ K hK
          have s0 : A.tmps.getD 38 undef = .slice (some ⟨b, off, none⟩) len c := hJ 8 38 (by kernel_rfl) (by kernel_rfl)
          simp at s0
          have s1 : A.tmps.getD 39 undef = .int .i64 (j : Nat) := hJ 9 39 (by kernel_rfl) (by kernel_rfl)
          simp at s1
          rw [if_pos (by rfl)]
          clear hs hJ
          go_simp
          exact hK _ _ (Below.refl _ _) rfl
        refine grow.EachL.cons ?_ ?_
        · intro A W hB hs hJ K hK
          have s0 : A.tmps.getD 40 undef = .pointer (some ⟨b, off + j, none⟩) := hJ 10 40 (by kernel_rfl) (by kernel_rfl)
          simp at s0
          have kk := upc hB kz
          rw [if_pos (by rfl)]
          clear hs hJ
          go_simp
          exact hK _ _ (Below.refl _ _) rfl
        refine grow.EachL.cons ?_ ?_
        · intro A W hB hs hJ K hK
          have s0 : A.tmps.getD 33 undef = .func (.func 22) #[] #[] := hJ 3 33 (by kernel_rfl) (by kernel_rfl)
          simp at s0
          have s1 : A.tmps.getD 37 undef = .int .i64 y := hJ 7 37 (by kernel_rfl) (by kernel_rfl)
          simp at s1
          have s2 : A.tmps.getD 41 undef = .int .i64 z := hJ 11 41 (by kernel_rfl) (by kernel_rfl)
          simp at s2
          rw [if_pos (by rfl)]
          clear hs hJ
          go_simp
          refine (take2 _ _ _).mono ?_
          rintro e W2 ⟨rfl, rfl⟩
          exact hK _ _ (Below.refl _ _) rfl
        refine grow.EachL.cons ?_ ?_
        · intro A W hB hs hJ K hK
          have s0 : A.tmps.getD 30 undef = .slice (some ⟨g, 0, none⟩) len c' := hJ 0 30 (by kernel_rfl) (by kernel_rfl)
          simp at s0
          have s1 : A.tmps.getD 31 undef = .int .i64 (j : Nat) := hJ 1 31 (by kernel_rfl) (by kernel_rfl)
          simp at s1
          rw [if_pos (by rfl)]
          clear hs hJ
          go_simp
          exact hK _ _ (Below.refl _ _) rfl
        exact grow.EachL.nil
      case fin =>
        intro f W hB hF
        have f0 : f 0 = .slice (some ⟨g, 0, none⟩) len c' := hF 0 (by decide)
        have f1 : f 1 = .int .i64 (j : Nat) := hF 1 (by decide)
        have f2 : f 2 = .pointer (some ⟨w1.heap.size, 1, none⟩) := hF 2 (by decide)
        have f3 : f 3 = .func (.func 22) #[] #[] := hF 3 (by decide)
        have f4 : f 4 = .slice (some ⟨g, 0, none⟩) len c' := hF 4 (by decide)
        have f5 : f 5 = .int .i64 (j : Nat) := hF 5 (by decide)
        have f6 : f 6 = .pointer (some ⟨g, j, none⟩) := hF 6 (by decide)
        have f7 : f 7 = .int .i64 y := hF 7 (by decide)
        have f8 : f 8 = .slice (some ⟨b, off, none⟩) len c := hF 8 (by decide)
        have f9 : f 9 = .int .i64 (j : Nat) := hF 9 (by decide)
        have f10 : f 10 = .pointer (some ⟨b, off + j, none⟩) := hF 10 (by decide)
        have f11 : f 11 = .int .i64 z := hF 11 (by decide)
        have f12 : f 12 = .int .i64 (ap 2 y z) := hF 12 (by decide)
        have f13 : f 13 = .pointer (some ⟨g, j, none⟩) := hF 13 (by decide)
        clear hF
        intro A hA
        simp only [grow.puts, Act.put, List.getElem?_toArray, List.getElem?_cons_zero, List.getElem?_cons_succ, Option.bind_some, List.setIfInBounds_toArray, List.set_cons_zero, List.set_cons_succ, f0, f1, f2, f3, f4, f5, f6, f7, f8, f9, f10, f11, f12, f13] at hA
        subst hA
        have HFW := Lib.hid (HF.out.up hB)
        obtain ⟨y2, kc2, kf2⟩ := HFW.out.cell j hlt
        have HF2 := Lib.hid (HFW.out.step j (ap 2 y z))
        clear hB
        go_simp
        go_wp2_with fail
        go_roundw
        case rel => exact ⟨j + 1, by omega, by go_num, HF2⟩
        case measure => simp [intOf]; omega
    · have hjl : j = len := by omega
      have hw : Below w.heap.size w wr := HF.out.below (Nat.le_trans HbV.out.size Hb2.out.size) (belowTrans HbV.out Hb2.out) (fun b hb => Nat.le_trans HbV.out.size (Hblk.out b hb))
      obtain ⟨ys, hyl, hyo⟩ := HF.out.own
      have HE : Hid (OwnI 3 wr w.heap.size (.slice a' len c') ys ∧ ys.length = len ∧ Below w.heap.size w wr) := Lib.hid ⟨ownI_low (by rw [OwnI, hyl]; exact hyo) HbV.out.size, hyl, hw⟩
      clear hw hyl hyo hjl HF kop
      go_wp2_with fail
      go_ret2
      exact ⟨a', c', ys, rfl, HE.out⟩

set_option maxRecDepth 100000 in
set_option maxHeartbeats 4000000 in
theorem Scan3 (w : World) (a : Option Addr) (c : Nat) (zs : List Int) (hn : zs.length ≤ 17592186043904) (hs : Slc w a c zs) :
    Calls Try.prog 6 #[.int .i64 3, .slice a zs.length c] w fun e w' => ∃ a' c' out, e = .returned (.tuple #[.slice a' zs.length c', .nilIface]) ∧ OwnI 3 w' w.heap.size (.slice a' zs.length c') out ∧ out.length = zs.length ∧ Below w.heap.size w w' := by
  have Hsw := Lib.hid (fun W (hB : Below w.heap.size w W) => sweep_any3 zs.length W a c zs hn (hs.up hB) (Nat.le_refl _))
  obtain ⟨len, hlen⟩ : ∃ len, len = zs.length := ⟨_, rfl⟩
  unfold RetSw at Hsw
  rw [← hlen] at Hsw hn ⊢
  have Hlen := Lib.hid hlen
  have Hs := Lib.hid hs
  clear hlen hs
  go_enter Try.func6, Try.ntmps6
  go_wp2_with fail
  refine (of3 _).mono ?_
  rintro e w1 ⟨rfl, hb1⟩
  go_wp2_with fail
  obtain ⟨V, hV⟩ : ∃ V, V = w1.alloc (.cells #[.int .i64 (nt 3), .func (.func 23) #[] #[]] 43) := ⟨_, rfl⟩
  have hbV : Below w.heap.size w V := by rw [hV]; exact belowTrans hb1 (belowAlloc _ _)
  have hop : V.heap[w1.heap.size]? = some (.cells #[.int .i64 (nt 3), .func (.func 23) #[] #[]] 43 (0, 0)) := by rw [hV]; exact heap_alloc_new _ _
  have HV := Lib.hid hV
  clear hV
  skip
  rw [← HV.out]
  refine (Hsw.out V hbV).mono ?_
  rintro e w2 ⟨a', c', out, rfl, ho, hol, hb2⟩
  have kop := two_c1 (upb hb2 hop)
  have hw1 := (Array.getElem?_eq_some_iff.1 hop).1
  have Ho := Lib.hid ho
  have Hol := Lib.hid hol
  have HbV := Lib.hid hbV
  have Hb2 := Lib.hid hb2
  clear ho hol hbV hb2 hop
  have hblk : ∀ b, (Value.slice a' len c').ownBlock = some b → V.heap.size ≤ b := fun b hb => (Ho.out.block b hb).1
  have Hblk := Lib.hid hblk
  clear hblk
  go_wp2_with fail
  go_loopw [27] (fun i wr => ∃ j : Nat, j ≤ len ∧ i = .int .i64 j ∧ Hid (FillI V.heap.size (.slice a' len c') len w2 wr)) (fun i _ => len - (intOf i).toNat)
  case atStart => exact ⟨0, Nat.zero_le _, rfl, Lib.hid (FillI.start Hol.out Ho.out)⟩
  case round =>
    obtain ⟨j, hj, rfl, HF⟩ := hrel
    by_cases hlt : j < len
    · have hlt0 : 0 < len := by omega
      obtain ⟨g, hg⟩ : ∃ g, a' = some ⟨g, 0, none⟩ := by
        have h := Ho.out
        obtain ⟨a2, c2, e, _, hr, hg⟩ := h.form
        have e' : a' = a2 := by injection e
        rcases hr with hr | ⟨b, o, ha, _⟩
        · rw [hr] at Hol
          have := Hol.out
          simp at this
          omega
        · obtain ⟨g, hx, _⟩ := hg _ ha
          exact ⟨g, by rw [e', ha, hx]⟩
      subst hg
      obtain ⟨y, hcy, hfy⟩ := HF.out.cell j hlt
      obtain ⟨b, off, rfl, hcs⟩ := Hs.out.at (by rw [← Hlen.out]; omega)
      have hbw : Below w.heap.size w wr := HF.out.below (Nat.le_trans HbV.out.size Hb2.out.size) (belowTrans HbV.out Hb2.out) (fun b hb => Nat.le_trans HbV.out.size (Hblk.out b hb))
      have kz := upc hbw (hcs j (by rw [← Hlen.out]; exact hlt))
      generalize zs.getD j 0 = z at kz
      have kopr : wr.cell? ⟨w1.heap.size, 1, none⟩ = some (.func (.func 23) #[] #[]) := by
        have h := HF.out.block w1.heap.size (Nat.lt_of_lt_of_le hw1 Hb2.out.size) (fun e => by have := Hblk.out _ e; omega)
        rw [← kop]
        simp only [World.cell?, h]
      have d0 : (0 : Int) ≤ (j : Int) := by omega
      have d1 : (j : Int) < (len : Int) := by omega
      clear hcs hbw kop
      go_wp2_with fail
      refine grow.wp_grow_last 14 _ [grow.kEq (.slice (some ⟨g, 0, none⟩) len c'), grow.kEq (.int .i64 (j : Nat)), grow.kEq (.pointer (some ⟨w1.heap.size, 1, none⟩)), grow.kEq (.func (.func 23) #[] #[]), grow.kEq (.slice (some ⟨g, 0, none⟩) len c'), grow.kEq (.int .i64 (j : Nat)), grow.kEq (.pointer (some ⟨g, j, none⟩)), grow.kEq (.int .i64 y), grow.kEq (.slice (some ⟨b, off, none⟩) len c), grow.kEq (.int .i64 (j : Nat)), grow.kEq (.pointer (some ⟨b, off + j, none⟩)), grow.kEq (.int .i64 z), grow.kEq (.int .i64 (ap 3 y z)), grow.kEq (.pointer (some ⟨g, j, none⟩))] rfl rfl rfl (by kernel_rfl) (by kernel_rfl) (by kernel_rfl) (by kernel_rfl) (by kernel_rfl) ?step ?fin
      case step =>
        refine grow.EachL.cons ?_ ?_
        · intro A W hB hs hJ K hK
          have s0 := hs 8 (by kernel_rfl)
          simp at s0
          rw [if_pos (by rfl)]
          clear hs hJ
          go_simp
          exact hK _ _ (Below.refl _ _) rfl
        refine grow.EachL.cons ?_ ?_
        · intro A W hB hs hJ K hK
          have s0 := hs 10 (by kernel_rfl)
          simp at s0
          rw [if_pos (by rfl)]
          clear hs hJ
          go_simp
          exact hK _ _ (Below.refl _ _) rfl
        refine grow.EachL.cons ?_ ?_
        · intro A W hB hs hJ K hK
          have s0 := hs 6 (by kernel_rfl)
          simp at s0
          rw [if_pos (by rfl)]
          clear hs hJ
          go_simp
          exact hK _ _ (Below.refl _ _) rfl
        refine grow.EachL.cons ?_ ?_
        · intro A W hB hs hJ K hK
          have s0 : A.tmps.getD 32 undef = .pointer (some ⟨w1.heap.size, 1, none⟩) := hJ 2 32 (by kernel_rfl) (by kernel_rfl)
          simp at s0
          have kk := upc hB kopr
          rw [if_pos (by rfl)]
          clear hs hJ
          go_simp
          exact hK _ _ (Below.refl _ _) rfl
        refine grow.EachL.cons ?_ ?_
        · intro A W hB hs hJ K hK
          have s0 := hs 8 (by kernel_rfl)
          simp at s0
          rw [if_pos (by rfl)]
          clear hs hJ
          go_simp
          exact hK _ _ (Below.refl _ _) rfl
        refine grow.EachL.cons ?_ ?_
        · intro A W hB hs hJ K hK
          have s0 := hs 10 (by kernel_rfl)
          simp at s0
          rw [if_pos (by rfl)]
          clear hs hJ
          go_simp
          exact hK _ _ (Below.refl _ _) rfl
        refine grow.EachL.cons ?_ ?_
        · intro A W hB hs hJ K hK
          have s0 : A.tmps.getD 34 undef = .slice (some ⟨g, 0, none⟩) len c' := hJ 4 34 (by kernel_rfl) (by kernel_rfl)
          simp at s0
          have s1 : A.tmps.getD 35 undef = .int .i64 (j : Nat) := hJ 5 35 (by kernel_rfl) (by kernel_rfl)
          simp at s1
          rw [if_pos (by rfl)]
          clear hs hJ
          go_simp
          exact hK _ _ (Below.refl _ _) rfl
        refine grow.EachL.cons ?_ ?_
        · intro A W hB hs hJ K hK
          have s0 : A.tmps.getD 36 undef = .pointer (some ⟨g, j, none⟩) := hJ 6 36 (by kernel_rfl) (by kernel_rfl)
          simp at s0
          have kk := upc hB hcy
          rw [if_pos (by rfl)]
          clear hs hJ
          go_simp
          exact hK _ _ (Below.refl _ _) rfl
        refine grow.EachL.cons ?_ ?_
        · intro A W hB hs hJ K hK
          have s0 := hs 1 (by kernel_rfl)
          simp at s0
          rw [if_pos (by rfl)]
          clear hs hJ
          go_simp
          exact hK _ _ (Below.refl _ _) rfl
        refine grow.EachL.cons ?_ ?_
        · intro A W hB hs hJ K hK
          have s0 := hs 10 (by kernel_rfl)
          simp at s0
          rw [if_pos (by rfl)]
          clear hs hJ
          go_simp
          exact hK _ _ (Below.refl _ _) rfl
        refine grow.EachL.cons ?_ ?_
        · intro A W hB hs hJ K hK
          have s0 : A.tmps.getD 38 undef = .slice (some ⟨b, off, none⟩) len c := hJ 8 38 (by kernel_rfl) (by kernel_rfl)
          simp at s0
          have s1 : A.tmps.getD 39 undef = .int .i64 (j : Nat) := hJ 9 39 (by kernel_rfl) (by kernel_rfl)
          simp at s1
          rw [if_pos (by rfl)]
          clear hs hJ
          go_simp
          exact hK _ _ (Below.refl _ _) rfl
        refine grow.EachL.cons ?_ ?_
        · intro A W hB hs hJ K hK
          have s0 : A.tmps.getD 40 undef = .pointer (some ⟨b, off + j, none⟩) := hJ 10 40 (by kernel_rfl) (by kernel_rfl)
          simp at s0
          have kk := upc hB kz
          rw [if_pos (by rfl)]
          clear hs hJ
          go_simp
          exact hK _ _ (Below.refl _ _) rfl
        refine grow.EachL.cons ?_ ?_
        · intro A W hB hs hJ K hK
          have s0 : A.tmps.getD 33 undef = .func (.func 23) #[] #[] := hJ 3 33 (by kernel_rfl) (by kernel_rfl)
          simp at s0
          have s1 : A.tmps.getD 37 undef = .int .i64 y := hJ 7 37 (by kernel_rfl) (by kernel_rfl)
          simp at s1
          have s2 : A.tmps.getD 41 undef = .int .i64 z := hJ 11 41 (by kernel_rfl) (by kernel_rfl)
          simp at s2
          rw [if_pos (by rfl)]
          clear hs hJ
          go_simp
          refine (take3 _ _ _).mono ?_
          rintro e W2 ⟨rfl, rfl⟩
          exact hK _ _ (Below.refl _ _) rfl
        refine grow.EachL.cons ?_ ?_
        · intro A W hB hs hJ K hK
          have s0 : A.tmps.getD 30 undef = .slice (some ⟨g, 0, none⟩) len c' := hJ 0 30 (by kernel_rfl) (by kernel_rfl)
          simp at s0
          have s1 : A.tmps.getD 31 undef = .int .i64 (j : Nat) := hJ 1 31 (by kernel_rfl) (by kernel_rfl)
          simp at s1
          rw [if_pos (by rfl)]
          clear hs hJ
          go_simp
          exact hK _ _ (Below.refl _ _) rfl
        exact grow.EachL.nil
      case fin =>
        intro f W hB hF
        have f0 : f 0 = .slice (some ⟨g, 0, none⟩) len c' := hF 0 (by decide)
        have f1 : f 1 = .int .i64 (j : Nat) := hF 1 (by decide)
        have f2 : f 2 = .pointer (some ⟨w1.heap.size, 1, none⟩) := hF 2 (by decide)
        have f3 : f 3 = .func (.func 23) #[] #[] := hF 3 (by decide)
        have f4 : f 4 = .slice (some ⟨g, 0, none⟩) len c' := hF 4 (by decide)
        have f5 : f 5 = .int .i64 (j : Nat) := hF 5 (by decide)
        have f6 : f 6 = .pointer (some ⟨g, j, none⟩) := hF 6 (by decide)
        have f7 : f 7 = .int .i64 y := hF 7 (by decide)
        have f8 : f 8 = .slice (some ⟨b, off, none⟩) len c := hF 8 (by decide)
        have f9 : f 9 = .int .i64 (j : Nat) := hF 9 (by decide)
        have f10 : f 10 = .pointer (some ⟨b, off + j, none⟩) := hF 10 (by decide)
        have f11 : f 11 = .int .i64 z := hF 11 (by decide)
        have f12 : f 12 = .int .i64 (ap 3 y z) := hF 12 (by decide)
        have f13 : f 13 = .pointer (some ⟨g, j, none⟩) := hF 13 (by decide)
        clear hF
        intro A hA
        simp only [grow.puts, Act.put, List.getElem?_toArray, List.getElem?_cons_zero, List.getElem?_cons_succ, Option.bind_some, List.setIfInBounds_toArray, List.set_cons_zero, List.set_cons_succ, f0, f1, f2, f3, f4, f5, f6, f7, f8, f9, f10, f11, f12, f13] at hA
        subst hA
        have HFW := Lib.hid (HF.out.up hB)
        obtain ⟨y2, kc2, kf2⟩ := HFW.out.cell j hlt
        have HF2 := Lib.hid (HFW.out.step j (ap 3 y z))
        clear hB
        go_simp
        go_wp2_with fail
        go_roundw
        case rel => exact ⟨j + 1, by omega, by go_num, HF2⟩
        case measure => simp [intOf]; omega
    · have hjl : j = len := by omega
      have hw : Below w.heap.size w wr := HF.out.below (Nat.le_trans HbV.out.size Hb2.out.size) (belowTrans HbV.out Hb2.out) (fun b hb => Nat.le_trans HbV.out.size (Hblk.out b hb))
      obtain ⟨ys, hyl, hyo⟩ := HF.out.own
      have HE : Hid (OwnI 3 wr w.heap.size (.slice a' len c') ys ∧ ys.length = len ∧ Below w.heap.size w wr) := Lib.hid ⟨ownI_low (by rw [OwnI, hyl]; exact hyo) HbV.out.size, hyl, hw⟩
      clear hw hyl hyo hjl HF kop
      go_wp2_with fail
      go_ret2
      exact ⟨a', c', ys, rfl, HE.out⟩

set_option maxRecDepth 100000 in
set_option maxHeartbeats 4000000 in
theorem Scan4 (w : World) (a : Option Addr) (c : Nat) (zs : List Int) (hn : zs.length ≤ 17592186043904) (hs : Slc w a c zs) :
    Calls Try.prog 6 #[.int .i64 4, .slice a zs.length c] w fun e w' => ∃ a' c' out, e = .returned (.tuple #[.slice a' zs.length c', .nilIface]) ∧ OwnI 3 w' w.heap.size (.slice a' zs.length c') out ∧ out.length = zs.length ∧ Below w.heap.size w w' := by
  have Hsw := Lib.hid (fun W (hB : Below w.heap.size w W) => sweep_any4 zs.length W a c zs hn (hs.up hB) (Nat.le_refl _))
  obtain ⟨len, hlen⟩ : ∃ len, len = zs.length := ⟨_, rfl⟩
  unfold RetSw at Hsw
  rw [← hlen] at Hsw hn ⊢
  have Hlen := Lib.hid hlen
  have Hs := Lib.hid hs
  clear hlen hs
  go_enter Try.func6, Try.ntmps6
  go_wp2_with fail
  refine (of4 _).mono ?_
  rintro e w1 ⟨rfl, hb1⟩
  go_wp2_with fail
  obtain ⟨V, hV⟩ : ∃ V, V = w1.alloc (.cells #[.int .i64 (nt 4), .func (.func 24) #[] #[]] 43) := ⟨_, rfl⟩
  have hbV : Below w.heap.size w V := by rw [hV]; exact belowTrans hb1 (belowAlloc _ _)
  have hop : V.heap[w1.heap.size]? = some (.cells #[.int .i64 (nt 4), .func (.func 24) #[] #[]] 43 (0, 0)) := by rw [hV]; exact heap_alloc_new _ _
  have HV := Lib.hid hV
  clear hV
  skip
  rw [← HV.out]
  refine (Hsw.out V hbV).mono ?_
  rintro e w2 ⟨a', c', out, rfl, ho, hol, hb2⟩
  have kop := two_c1 (upb hb2 hop)
  have hw1 := (Array.getElem?_eq_some_iff.1 hop).1
  have Ho := Lib.hid ho
  have Hol := Lib.hid hol
  have HbV := Lib.hid hbV
  have Hb2 := Lib.hid hb2
  clear ho hol hbV hb2 hop
  have hblk : ∀ b, (Value.slice a' len c').ownBlock = some b → V.heap.size ≤ b := fun b hb => (Ho.out.block b hb).1
  have Hblk := Lib.hid hblk
  clear hblk
  go_wp2_with fail
  go_loopw [27] (fun i wr => ∃ j : Nat, j ≤ len ∧ i = .int .i64 j ∧ Hid (FillI V.heap.size (.slice a' len c') len w2 wr)) (fun i _ => len - (intOf i).toNat)
  case atStart => exact ⟨0, Nat.zero_le _, rfl, Lib.hid (FillI.start Hol.out Ho.out)⟩
  case round =>
    obtain ⟨j, hj, rfl, HF⟩ := hrel
    by_cases hlt : j < len
    · have hlt0 : 0 < len := by omega
      obtain ⟨g, hg⟩ : ∃ g, a' = some ⟨g, 0, none⟩ := by
        have h := Ho.out
        obtain ⟨a2, c2, e, _, hr, hg⟩ := h.form
        have e' : a' = a2 := by injection e
        rcases hr with hr | ⟨b, o, ha, _⟩
        · rw [hr] at Hol
          have := Hol.out
          simp at this
          omega
        · obtain ⟨g, hx, _⟩ := hg _ ha
          exact ⟨g, by rw [e', ha, hx]⟩
      subst hg
      obtain ⟨y, hcy, hfy⟩ := HF.out.cell j hlt
      obtain ⟨b, off, rfl, hcs⟩ := Hs.out.at (by rw [← Hlen.out]; omega)
      have hbw : Below w.heap.size w wr := HF.out.below (Nat.le_trans HbV.out.size Hb2.out.size) (belowTrans HbV.out Hb2.out) (fun b hb => Nat.le_trans HbV.out.size (Hblk.out b hb))
      have kz := upc hbw (hcs j (by rw [← Hlen.out]; exact hlt))
      generalize zs.getD j 0 = z at kz
      have kopr : wr.cell? ⟨w1.heap.size, 1, none⟩ = some (.func (.func 24) #[] #[]) := by
        have h := HF.out.block w1.heap.size (Nat.lt_of_lt_of_le hw1 Hb2.out.size) (fun e => by have := Hblk.out _ e; omega)
        rw [← kop]
        simp only [World.cell?, h]
      have d0 : (0 : Int) ≤ (j : Int) := by omega
      have d1 : (j : Int) < (len : Int) := by omega
      clear hcs hbw kop
      go_wp2_with fail
      refine grow.wp_grow_last 14 _ [grow.kEq (.slice (some ⟨g, 0, none⟩) len c'), grow.kEq (.int .i64 (j : Nat)), grow.kEq (.pointer (some ⟨w1.heap.size, 1, none⟩)), grow.kEq (.func (.func 24) #[] #[]), grow.kEq (.slice (some ⟨g, 0, none⟩) len c'), grow.kEq (.int .i64 (j : Nat)), grow.kEq (.pointer (some ⟨g, j, none⟩)), grow.kEq (.int .i64 y), grow.kEq (.slice (some ⟨b, off, none⟩) len c), grow.kEq (.int .i64 (j : Nat)), grow.kEq (.pointer (some ⟨b, off + j, none⟩)), grow.kEq (.int .i64 z), grow.kEq (.int .i64 (ap 4 y z)), grow.kEq (.pointer (some ⟨g, j, none⟩))] rfl rfl rfl (by kernel_rfl) (by kernel_rfl) (by kernel_rfl) (by kernel_rfl) (by kernel_rfl) ?step ?fin
      case step =>
        refine grow.EachL.cons ?_ ?_
        · intro A W hB hs hJ K hK
          have s0 := hs 8 (by kernel_rfl)
          simp at s0
          rw [if_pos (by rfl)]
          clear hs hJ
          go_simp
          exact hK _ _ (Below.refl _ _) rfl
        refine grow.EachL.cons ?_ ?_
        · intro A W hB hs hJ K hK
          have s0 := hs 10 (by kernel_rfl)
          simp at s0
          rw [if_pos (by rfl)]
          clear hs hJ
          go_simp
          exact hK _ _ (Below.refl _ _) rfl
        refine grow.EachL.cons ?_ ?_
        · intro A W hB hs hJ K hK
          have s0 := hs 6 (by kernel_rfl)
          simp at s0
          rw [if_pos (by rfl)]
          clear hs hJ
          go_simp
          exact hK _ _ (Below.refl _ _) rfl
        refine grow.EachL.cons ?_ ?_
        · intro A W hB hs hJ K hK
          have s0 : A.tmps.getD 32 undef = .pointer (some ⟨w1.heap.size, 1, none⟩) := hJ 2 32 (by kernel_rfl) (by kernel_rfl)
          simp at s0
          have kk := upc hB kopr
          rw [if_pos (by rfl)]
          clear hs hJ
          go_simp
          exact hK _ _ (Below.refl _ _) rfl
        refine grow.EachL.cons ?_ ?_
        · intro A W hB hs hJ K hK
          have s0 := hs 8 (by kernel_rfl)
          simp at s0
          rw [if_pos (by rfl)]
          clear hs hJ
          go_simp
          exact hK _ _ (Below.refl _ _) rfl
        refine grow.EachL.cons ?_ ?_
        · intro A W hB hs hJ K hK
          have s0 := hs 10 (by kernel_rfl)
          simp at s0
          rw [if_pos (by rfl)]
          clear hs hJ
          go_simp
          exact hK _ _ (Below.refl _ _) rfl
        refine grow.EachL.cons ?_ ?_
        · intro A W hB hs hJ K hK
          have s0 : A.tmps.getD 34 undef = .slice (some ⟨g, 0, none⟩) len c' := hJ 4 34 (by kernel_rfl) (by kernel_rfl)
          simp at s0
          have s1 : A.tmps.getD 35 undef = .int .i64 (j : Nat) := hJ 5 35 (by kernel_rfl) (by kernel_rfl)
          simp at s1
          rw [if_pos (by rfl)]
          clear hs hJ
          go_simp
          exact hK _ _ (Below.refl _ _) rfl
        refine grow.EachL.cons ?_ ?_
        · intro A W hB hs hJ K hK
          have s0 : A.tmps.getD 36 undef = .pointer (some ⟨g, j, none⟩) := hJ 6 36 (by kernel_rfl) (by kernel_rfl)
          simp at s0
          have kk := upc hB hcy
          rw [if_pos (by rfl)]
          clear hs hJ
          go_simp
          exact hK _ _ (Below.refl _ _) rfl
        refine grow.EachL.cons ?_ ?_
        · intro A W hB hs hJ K hK
          have s0 := hs 1 (by kernel_rfl)
          simp at s0
          rw [if_pos (by rfl)]
          clear hs hJ
          go_simp
          exact hK _ _ (Below.refl _ _) rfl
        refine grow.EachL.cons ?_ ?_
        · intro A W hB hs hJ K hK
          have s0 := hs 10 (by kernel_rfl)
          simp at s0
          rw [if_pos (by rfl)]
          clear hs hJ
          go_simp
          exact hK _ _ (Below.refl _ _) rfl
        refine grow.EachL.cons ?_ ?_
        · intro A W hB hs hJ K hK
          have s0 : A.tmps.getD 38 undef = .slice (some ⟨b, off, none⟩) len c := hJ 8 38 (by kernel_rfl) (by kernel_rfl)
          simp at s0
          have s1 : A.tmps.getD 39 undef = .int .i64 (j : Nat) := hJ 9 39 (by kernel_rfl) (by kernel_rfl)
          simp at s1
          rw [if_pos (by rfl)]
          clear hs hJ
          go_simp
          exact hK _ _ (Below.refl _ _) rfl
        refine grow.EachL.cons ?_ ?_
        · intro A W hB hs hJ K hK
          have s0 : A.tmps.getD 40 undef = .pointer (some ⟨b, off + j, none⟩) := hJ 10 40 (by kernel_rfl) (by kernel_rfl)
          simp at s0
          have kk := upc hB kz
          rw [if_pos (by rfl)]
          clear hs hJ
          go_simp
          exact hK _ _ (Below.refl _ _) rfl
        refine grow.EachL.cons ?_ ?_
        · intro A W hB hs hJ K hK
          have s0 : A.tmps.getD 33 undef = .func (.func 24) #[] #[] := hJ 3 33 (by kernel_rfl) (by kernel_rfl)
          simp at s0
          have s1 : A.tmps.getD 37 undef = .int .i64 y := hJ 7 37 (by kernel_rfl) (by kernel_rfl)
          simp at s1
          have s2 : A.tmps.getD 41 undef = .int .i64 z := hJ 11 41 (by kernel_rfl) (by kernel_rfl)
          simp at s2
          rw [if_pos (by rfl)]
          clear hs hJ
          go_simp
          refine (take4 _ _ _).mono ?_
          rintro e W2 ⟨rfl, rfl⟩
          exact hK _ _ (Below.refl _ _) rfl
        refine grow.EachL.cons ?_ ?_
        · intro A W hB hs hJ K hK
          have s0 : A.tmps.getD 30 undef = .slice (some ⟨g, 0, none⟩) len c' := hJ 0 30 (by kernel_rfl) (by kernel_rfl)
          simp at s0
          have s1 : A.tmps.getD 31 undef = .int .i64 (j : Nat) := hJ 1 31 (by kernel_rfl) (by kernel_rfl)
          simp at s1
          rw [if_pos (by rfl)]
          clear hs hJ
          go_simp
          exact hK _ _ (Below.refl _ _) rfl
        exact grow.EachL.nil
      case fin =>
        intro f W hB hF
        have f0 : f 0 = .slice (some ⟨g, 0, none⟩) len c' := hF 0 (by decide)
        have f1 : f 1 = .int .i64 (j : Nat) := hF 1 (by decide)
        have f2 : f 2 = .pointer (some ⟨w1.heap.size, 1, none⟩) := hF 2 (by decide)
        have f3 : f 3 = .func (.func 24) #[] #[] := hF 3 (by decide)
        have f4 : f 4 = .slice (some ⟨g, 0, none⟩) len c' := hF 4 (by decide)
        have f5 : f 5 = .int .i64 (j : Nat) := hF 5 (by decide)
        have f6 : f 6 = .pointer (some ⟨g, j, none⟩) := hF 6 (by decide)
        have f7 : f 7 = .int .i64 y := hF 7 (by decide)
        have f8 : f 8 = .slice (some ⟨b, off, none⟩) len c := hF 8 (by decide)
        have f9 : f 9 = .int .i64 (j : Nat) := hF 9 (by decide)
        have f10 : f 10 = .pointer (some ⟨b, off + j, none⟩) := hF 10 (by decide)
        have f11 : f 11 = .int .i64 z := hF 11 (by decide)
        have f12 : f 12 = .int .i64 (ap 4 y z) := hF 12 (by decide)
        have f13 : f 13 = .pointer (some ⟨g, j, none⟩) := hF 13 (by decide)
        clear hF
        intro A hA
        simp only [grow.puts, Act.put, List.getElem?_toArray, List.getElem?_cons_zero, List.getElem?_cons_succ, Option.bind_some, List.setIfInBounds_toArray, List.set_cons_zero, List.set_cons_succ, f0, f1, f2, f3, f4, f5, f6, f7, f8, f9, f10, f11, f12, f13] at hA
        subst hA
        have HFW := Lib.hid (HF.out.up hB)
        obtain ⟨y2, kc2, kf2⟩ := HFW.out.cell j hlt
        have HF2 := Lib.hid (HFW.out.step j (ap 4 y z))
        clear hB
        go_simp
        go_wp2_with fail
        go_roundw
        case rel => exact ⟨j + 1, by omega, by go_num, HF2⟩
        case measure => simp [intOf]; omega
    · have hjl : j = len := by omega
      have hw : Below w.heap.size w wr := HF.out.below (Nat.le_trans HbV.out.size Hb2.out.size) (belowTrans HbV.out Hb2.out) (fun b hb => Nat.le_trans HbV.out.size (Hblk.out b hb))
      obtain ⟨ys, hyl, hyo⟩ := HF.out.own
      have HE : Hid (OwnI 3 wr w.heap.size (.slice a' len c') ys ∧ ys.length = len ∧ Below w.heap.size w wr) := Lib.hid ⟨ownI_low (by rw [OwnI, hyl]; exact hyo) HbV.out.size, hyl, hw⟩
      clear hw hyl hyo hjl HF kop
      go_wp2_with fail
      go_ret2
      exact ⟨a', c', ys, rfl, HE.out⟩

theorem ownsRow_new0 (w : World) (E : Nat) : (w.alloc (.cells #[] E)).ownsRow w.heap.size E 1 (.slice (some ⟨w.heap.size, 0, none⟩) 0 0) 0 [] :=
  ⟨rfl, .inr ⟨w.heap.size, 0, #[], rfl, Nat.le_refl _, heap_alloc_new _ _, Nat.le_refl _, Nat.zero_le _, rfl, rfl⟩⟩
set_option maxHeartbeats 1000000 in
theorem clone_some (w : World) (b off c : Nat) (zs : List Int) (hn : zs.length ≤ 17592186043904) (hc : ∀ i, i < zs.length → w.cell? ⟨b, off + i, none⟩ = some (.int .i64 (zs.getD i 0))) :
    Calls Try.prog 15 #[.slice (some ⟨b, off, none⟩) zs.length c] w (RetI 3 w zs) := by
  obtain ⟨i0, hi, hz0, hz1, hz2⟩ := info_parts infoInt
  have Hc := Lib.hid (cells_of_reads (fun i hi => upc (belowAlloc w (.cells #[] 3)) (hc i hi)))
  have Ho := Lib.hid (ownsRow_new0 w 3)
  have hnil := Lib.run_eql_slice_nil (P := Try.prog) w 22 3 (some ⟨b, off, none⟩) zs.length c 0 0 Try.underlying22
  clear hc
  go_enter Try.func15, Try.ntmps15
  go_wp2_with (at_builtin; refine wpList_append_own _ rfl (.tmp 5) (.tmp 6) 22 rfl w.heap.size 3 i0 (.int .i64 0) 1 8 Try.underlying22 hi hz0 hz1 hz2 rfl (by decide) _ 0 [] rfl Ho.out ⟨b, off, none⟩ zs.length c (zs.map (Value.int .i64)) rfl (by simp) Hc.out (ints_oneCell _ _) (by unfold maxLen; omega) (by omega) (by simp) ?_)
  intro v' w1 hown hgrow _
  try simp only [Nat.zero_add, List.nil_append] at hown
  have Hb := Below.grown (belowAlloc w (.cells #[] 3)) hgrow (by simp) (fun b hb => by cases hb; exact Nat.le_refl _)
  have Ho1 := Lib.hid hown
  clear hown hgrow
  go_wp2_with fail
  go_ret
  exact RetI.mk Ho1.out Hb

/-- the pairs, and their pairs, and so on, in n rounds at most -/
def lvF (k : Nat) : Nat → List Int → List (List Int)
  | 0, _ => []
  | n + 1, zs => if zs.length ≤ 1 then [] else pairsP k zs :: lvF k n (pairsP k zs)
theorem lvF_end (k n : Nat) (zs : List Int) (h : zs.length ≤ 1) : lvF k n zs = [] := by
  cases n with
  | zero => rfl
  | succ n => rw [lvF, if_pos h]
theorem lvF_step (k n : Nat) (zs : List Int) (h : 2 ≤ zs.length) : lvF k (n + 1) zs = pairsP k zs :: lvF k n (pairsP k zs) := by rw [lvF, if_neg (by omega)]
def levels (k : Nat) (zs : List Int) : List (List Int) := zs :: lvF k zs.length zs

/-- what holds between two rounds of Levels -/
def Lev (k : Nat) (w : World) (zs : List Int) (m : Nat) (a1 : Option Addr) (c1 : Nat) (v : Value) (wr : World) : Prop :=
  ∃ (M : Nat) (cur : List Int) (done : List (List Int)) (n d : Nat), cur.length = m ∧ RowLL wr w.heap.size (At0 M) done v ∧ Slc wr a1 c1 cur ∧ Below w.heap.size w wr ∧ M ≤ wr.heap.size ∧ done ++ lvF k n cur = levels k zs ∧ m ≤ n + 1 ∧ done.length = d + 1 ∧ (m - 1) * 2 ^ d ≤ zs.length - 1
theorem lev_len {m d z : Nat} (h : (m - 1) * 2 ^ d ≤ z - 1) (hm : 2 ≤ m) (hz : z ≤ 17592186043904) : d ≤ 44 := by
  rcases Nat.lt_or_ge d 45 with h1 | h1
  · omega
  · exfalso
    have h2 : 2 ^ 45 ≤ 2 ^ d := Nat.pow_le_pow_right (by omega) h1
    have h3 : 1 * 2 ^ d ≤ (m - 1) * 2 ^ d := Nat.mul_le_mul_right _ (by omega)
    omega
theorem lev_next {m d z : Nat} (h : (m - 1) * 2 ^ d ≤ z) : ((m + 1) / 2 - 1) * 2 ^ (d + 1) ≤ z := by
  have h1 : ((m + 1) / 2 - 1) * 2 ≤ m - 1 := by omega
  have h2 := Nat.mul_le_mul_right (2 ^ d) h1
  rw [Nat.pow_succ, Nat.mul_comm (2 ^ d) 2, ← Nat.mul_assoc]
  omega

set_option maxRecDepth 100000 in
set_option maxHeartbeats 4000000 in
theorem Levels1 (w : World) (a : Option Addr) (c : Nat) (zs : List Int) (h1 : 0 < zs.length) (hn : zs.length ≤ 17592186043904) (hs : Slc w a c zs) :
    Calls Try.prog 7 #[.int .i64 1, .slice a zs.length c] w fun e w' => ∃ M v, e = .returned (.tuple #[v, .nilIface]) ∧ RowLL w' w.heap.size (At0 M) (levels 1 zs) v ∧ Below w.heap.size w w' := by
  obtain ⟨b, off, rfl, hc⟩ := hs.at h1
  have Hcl := Lib.hid (fun W (hB : Below w.heap.size w W) => clone_some W b off c zs hn (fun i hi => upc hB (hc i hi)))
  have hq : ((zs.length : Int) == 0) = false := beq_eq_false_iff_ne.2 (by omega)
  obtain ⟨len, hlen⟩ : ∃ len, len = zs.length := ⟨_, rfl⟩
  rw [← hlen] at Hcl hn hq h1 ⊢
  have Hlen := Lib.hid hlen
  have Hs := Lib.hid hs
  clear hlen hs hc
  go_enter Try.func7, Try.ntmps7
  go_wp2_with fail
  refine (of1 _).mono ?_
  rintro e w1 ⟨rfl, hb1⟩
  go_wp2_with fail
  obtain ⟨V, hV⟩ : ∃ V, V = w1.alloc (.cells #[.int .i64 (nt 1), .func (.func 21) #[] #[]] 43) := ⟨_, rfl⟩
  have hbV : Below w.heap.size w V := by rw [hV]; exact belowTrans hb1 (belowAlloc _ _)
  have hop : V.heap[w1.heap.size]? = some (.cells #[.int .i64 (nt 1), .func (.func 21) #[] #[]] 43 (0, 0)) := by rw [hV]; exact heap_alloc_new _ _
  have HV := Lib.hid hV
  clear hV
  rw [← HV.out]
  refine (Hcl.out V hbV).mono ?_
  rintro e w2 ⟨a2, c2, rfl, ho, hb2⟩
  rw [← Hlen.out] at ho ⊢
  have hw1 := (Array.getElem?_eq_some_iff.1 hop).1
  obtain ⟨W, hW⟩ : ∃ W, W = w2.alloc (.cells #[.slice a2 len c2] 22) := ⟨_, rfl⟩
  have hb3 : Below w2.heap.size w2 W := by rw [hW]; exact belowAlloc _ _
  have hbW := belowTrans (belowTrans hbV hb2) hb3
  have hzW : W.heap.size = w2.heap.size + 1 := by rw [hW]; simp
  have hopW := upb (belowTrans hb2 hb3) hop
  have hrow : RowLL W w.heap.size (At0 w2.heap.size) [zs] (.slice (some ⟨w2.heap.size, 0, none⟩) 1 1) := by
    refine ⟨[.slice a2 len c2], ⟨rfl, .inr ⟨w2.heap.size, 1, #[.slice a2 len c2], rfl, by have := hbW.size; have := (belowTrans hbV hb2).size; omega, by rw [hW]; exact heap_alloc_new _ _, Nat.le_refl _, by unfold maxLen; omega, rfl, rfl⟩⟩, fun j hj => ?_⟩
    obtain rfl : j = 0 := by simpa using hj
    refine ⟨a2, c2, by rw [Hlen.out]; rfl, ?_, ?_⟩
    · have h := (ownI_low ho hbV.size).up hb3
      rw [Hlen.out] at h
      exact h
    · intro b hb
      have h := ho.block b (by rw [Hlen.out]; exact hb)
      exact h.2
  have hlev : Lev 1 w zs len (some ⟨b, off, none⟩) c (.slice (some ⟨w2.heap.size, 0, none⟩) 1 1) W := ⟨w2.heap.size, zs, [zs], zs.length, 0, Hlen.out.symm, hrow, Hs.out.up hbW, hbW, by omega, rfl, by rw [Hlen.out]; omega, rfl, by rw [Hlen.out]; simp⟩
  have HL := Lib.hid hlev
  have HopW := Lib.hid hopW
  have HW := Lib.hid hW
  clear hlev hrow hb3 hopW hop ho hb1 hb2 hbV hbW hW Hs Hcl
  go_wp2_with fail
  rw [← HW.out]
  go_loopw [1, 8] (fun l v wr => ∃ (m : Nat) (a1 : Option Addr) (c1 : Nat), l = .slice a1 m c1 ∧ m ≤ len ∧ Hid (Lev 1 w zs m a1 c1 v wr) ∧ Hid (wr.heap[w1.heap.size]? = some (.cells #[.int .i64 (nt 1), .func (.func 21) #[] #[]] 43 (0, 0)))) (fun l _ _ => match l with | .slice _ m _ => m | _ => 0)
  case atStart => exact ⟨len, _, c, rfl, Nat.le_refl _, HL, HopW⟩
  case round =>
    obtain ⟨m, a1, c1, rfl, hml, HL1, Hop1⟩ := hrel
    by_cases hlt : 1 < m
    · have hd : decide ((1 : Int) < (m : Int)) = true := by simp; omega
      have k0 := two_c0 Hop1.out
      have k1 := two_c1 Hop1.out
      have Hp := Lib.hid (show ∀ cur : List Int, cur.length = m → Slc wr a1 c1 cur → Calls Try.prog 16 #[.agg #[.int .i64 (nt 1), .func (.func 21) #[] #[]], .slice a1 m c1] wr (RetI 3 wr (pairsP 1 cur)) from fun cur hcl hsc => by subst hcl; exact pairs_any1 wr (nt 1) a1 c1 cur (by omega) hsc)
      obtain ⟨M, cur, done, n, d, hcl, hrow, hsc, hbw, hM, hall, hmn, hdl, hpw⟩ := HL1.out
      have hpl := pairsP_length 1 cur
      rw [hcl] at hpl
      have Hp2 := Lib.hid (Hp.out cur hcl hsc)
      have hd44 := lev_len hpw (by omega) (by rw [← Hlen.out]; omega)
      have HD := Lib.hid hdl
      have HR := Lib.hid hrow
      have HA := Lib.hid (And.intro hcl (And.intro hbw (And.intro hM (And.intro hall (And.intro hmn hpw)))))
      have HPL := Lib.hid hpl
      clear hcl hrow hsc hbw hM hall hmn hdl hpw hpl Hp HL1
      go_wp2_with fail
      refine Hp2.out.mono ?_
      rintro e w3 ⟨a3, c3, rfl, ho3, hb3⟩
      have hop3 := upb hb3 Hop1.out
      have HR3 := Lib.hid (HR.out.up hb3)
      obtain ⟨hcl, hbw, hM, hall, hmn, hpw⟩ := HA.out
      have hbw3 := belowTrans hbw hb3
      have hz3 := hb3.size
      have hzw := hbw.size
      have HO3 := Lib.hid ho3
      have HSZ := Lib.hid (And.intro hbw3 (And.intro hz3 (And.intro hzw (And.intro hM hop3))))
      obtain ⟨i0, hi, hz0, hz1, hz2⟩ := info_parts infoRLL
      obtain ⟨cs, hown, hcs⟩ := HR3.out
      have Hown := Lib.hid hown
      have Hcs := Lib.hid hcs
      rw [HD.out] at Hown
      have Hi := Lib.hid (And.intro hi (And.intro hz0 (And.intro hz1 hz2)))
      clear hi hz0 hz1 hz2 hown hcs hcl hbw hM hall hmn hpw hb3 hbw3 ho3 hop3 k0 k1 hz3 hzw HR
      go_wp2_with (at_builtin; refine wpList_append_own _ rfl (.tmp 30) (.tmp 32) 28 rfl w.heap.size 22 i0 (.slice none 0 0) 1 24 Try.underlying28 Hi.out.1 Hi.out.2.1 Hi.out.2.2.1 Hi.out.2.2.2 rfl (by decide) _ (d + 1) _ rfl (Hown.out.alloc _) ⟨w3.heap.size, 0, none⟩ 1 1 [.slice a3 (pairsP 1 cur).length c3] rfl rfl (cell_one_new _ _ _) (by simp [Value.oneCell']) (by unfold maxLen; omega) (by omega) (by have := HSZ.out.1.size; simp; omega) ?_; intro v' w4 hown' hgrow hnil; clear hnil; have Hown' := Lib.hid hown'; have Hgrow := Lib.hid hgrow; clear hown' hgrow)
      have hown4 := Hown'.out
      obtain ⟨g4, cap4, rfl⟩ := ownsRow_succ hown4
      have hb34 : Below w.heap.size w w4 := Below.grown (HSZ.out.1.trans (Below.alloc (Below.refl _ _) HSZ.out.1.size _)) Hgrow.out (by have := HSZ.out.1.size; simp; omega) (fun b hb => (Hown.out.lt b hb).1)
      have hrow4 : RowLL w4 w.heap.size (At0 M) (done ++ [pairsP 1 cur]) (.slice (some ⟨g4, 0, none⟩) (d + 1 + 1) cap4) := by
        refine RowLL.app Hcs.out (by rw [HD.out]; exact Hown.out) (ownI_low HO3.out HSZ.out.2.2.1) (fun b hb => ?_) Hgrow.out (by rw [HD.out]; exact hown4)
        have h := HO3.out.block b hb
        have h2 := HSZ.out.2.2.2.1
        unfold At0
        rw [if_neg (by rw [HD.out]; omega)]
        omega
      have hop4 : w4.heap[w1.heap.size]? = some (.cells #[.int .i64 (nt 1), .func (.func 21) #[] #[]] 43 (0, 0)) := by
        have h := HSZ.out.2.2.2.2
        have hl3 := (Array.getElem?_eq_some_iff.1 h).1
        exact ((Hgrow.out.block w1.heap.size (by simp; omega) (row_ne Hown.out h (by decide))).trans (Below.heap_alloc _ _ _ hl3)).trans h
      have hlev4 : Lev 1 w zs (pairsP 1 cur).length a3 c3 (.slice (some ⟨g4, 0, none⟩) (d + 1 + 1) cap4) w4 := by
        obtain ⟨hcl, hbw, hM, hall, hmn, hpw⟩ := HA.out
        have hz3 := HSZ.out.2.1
        have hs4 : Slc w4 a3 c3 (pairsP 1 cur) := by
          have h := HO3.out.grownOther Hown.out Hgrow.out (by decide)
          exact (OwnI.slc h).1
        have hz4 := Hgrow.out.size
        simp at hz4
        cases n with
        | zero => omega
        | succ n =>
          refine ⟨M, pairsP 1 cur, done ++ [pairsP 1 cur], n, d + 1, rfl, hrow4, hs4, hb34, by omega, ?_, by rw [HPL.out]; omega, by rw [List.length_append, HD.out]; rfl, by rw [HPL.out]; exact lev_next hpw⟩
          rw [← hall, lvF_step 1 n cur (by omega), List.append_assoc]
          rfl
      have HL4 := Lib.hid hlev4
      have HO4 := Lib.hid hop4
      have hml2 : (pairsP 1 cur).length ≤ len ∧ (pairsP 1 cur).length < m := by rw [HPL.out]; omega
      clear hlev4 hop4 hrow4 hb34 hown4 Hown' Hgrow Hown Hcs HO3 HSZ HA HR3 Hp2
      go_wp2_with fail
      go_roundw
      case rel => exact ⟨_, a3, c3, rfl, hml2.1, HL4, HO4⟩
      case measure => exact hml2.2
    · have hd : decide ((1 : Int) < (m : Int)) = false := by simp; omega
      obtain ⟨M, cur, done, n, d, hcl, hrow, hsc, hbw, hM, hall, hmn, hdl, hpw⟩ := HL1.out
      rw [lvF_end 1 n cur (by omega), List.append_nil] at hall
      obtain ⟨aE, cE, rfl⟩ := hrow.form
      have HE : Hid (RowLL wr w.heap.size (At0 M) (levels 1 zs) (.slice aE done.length cE) ∧ Below w.heap.size w wr) := Lib.hid ⟨by rw [← hall]; exact hrow, hbw⟩
      clear hcl hrow hsc hbw hM hall hmn hdl hpw HL1
      go_wp2_with fail
      go_ret2
      exact ⟨M, _, rfl, HE.out⟩

set_option maxRecDepth 100000 in
set_option maxHeartbeats 4000000 in
theorem Levels2 (w : World) (a : Option Addr) (c : Nat) (zs : List Int) (h1 : 0 < zs.length) (hn : zs.length ≤ 17592186043904) (hs : Slc w a c zs) :
    Calls Try.prog 7 #[.int .i64 2, .slice a zs.length c] w fun e w' => ∃ M v, e = .returned (.tuple #[v, .nilIface]) ∧ RowLL w' w.heap.size (At0 M) (levels 2 zs) v ∧ Below w.heap.size w w' := by
  obtain ⟨b, off, rfl, hc⟩ := hs.at h1
  have Hcl := Lib.hid (fun W (hB : Below w.heap.size w W) => clone_some W b off c zs hn (fun i hi => upc hB (hc i hi)))
  have hq : ((zs.length : Int) == 0) = false := beq_eq_false_iff_ne.2 (by omega)
  obtain ⟨len, hlen⟩ : ∃ len, len = zs.length := ⟨_, rfl⟩
  rw [← hlen] at Hcl hn hq h1 ⊢
  have Hlen := Lib.hid hlen
  have Hs := Lib.hid hs
  clear hlen hs hc
  go_enter Try.func7, Try.ntmps7
  go_wp2_with fail
  refine (of2 _).mono ?_
  rintro e w1 ⟨rfl, hb1⟩
  go_wp2_with fail
  obtain ⟨V, hV⟩ : ∃ V, V = w1.alloc (.cells #[.int .i64 (nt 2), .func (.func 22) #[] #[]] 43) := ⟨_, rfl⟩
  have hbV : Below w.heap.size w V := by rw [hV]; exact belowTrans hb1 (belowAlloc _ _)
  have hop : V.heap[w1.heap.size]? = some (.cells #[.int .i64 (nt 2), .func (.func 22) #[] #[]] 43 (0, 0)) := by rw [hV]; exact heap_alloc_new _ _
  have HV := Lib.hid hV
  clear hV
  rw [← HV.out]
  refine (Hcl.out V hbV).mono ?_
  rintro e w2 ⟨a2, c2, rfl, ho, hb2⟩
  rw [← Hlen.out] at ho ⊢
  have hw1 := (Array.getElem?_eq_some_iff.1 hop).1
  obtain ⟨W, hW⟩ : ∃ W, W = w2.alloc (.cells #[.slice a2 len c2] 22) := ⟨_, rfl⟩
  have hb3 : Below w2.heap.size w2 W := by rw [hW]; exact belowAlloc _ _
  have hbW := belowTrans (belowTrans hbV hb2) hb3
  have hzW : W.heap.size = w2.heap.size + 1 := by rw [hW]; simp
  have hopW := upb (belowTrans hb2 hb3) hop
  have hrow : RowLL W w.heap.size (At0 w2.heap.size) [zs] (.slice (some ⟨w2.heap.size, 0, none⟩) 1 1) := by
    refine ⟨[.slice a2 len c2], ⟨rfl, .inr ⟨w2.heap.size, 1, #[.slice a2 len c2], rfl, by have := hbW.size; have := (belowTrans hbV hb2).size; omega, by rw [hW]; exact heap_alloc_new _ _, Nat.le_refl _, by unfold maxLen; omega, rfl, rfl⟩⟩, fun j hj => ?_⟩
    obtain rfl : j = 0 := by simpa using hj
    refine ⟨a2, c2, by rw [Hlen.out]; rfl, ?_, ?_⟩
    · have h := (ownI_low ho hbV.size).up hb3
      rw [Hlen.out] at h
      exact h
    · intro b hb
      have h := ho.block b (by rw [Hlen.out]; exact hb)
      exact h.2
  have hlev : Lev 2 w zs len (some ⟨b, off, none⟩) c (.slice (some ⟨w2.heap.size, 0, none⟩) 1 1) W := ⟨w2.heap.size, zs, [zs], zs.length, 0, Hlen.out.symm, hrow, Hs.out.up hbW, hbW, by omega, rfl, by rw [Hlen.out]; omega, rfl, by rw [Hlen.out]; simp⟩
  have HL := Lib.hid hlev
  have HopW := Lib.hid hopW
  have HW := Lib.hid hW
  clear hlev hrow hb3 hopW hop ho hb1 hb2 hbV hbW hW Hs Hcl
  go_wp2_with fail
  rw [← HW.out]
  go_loopw [1, 8] (fun l v wr => ∃ (m : Nat) (a1 : Option Addr) (c1 : Nat), l = .slice a1 m c1 ∧ m ≤ len ∧ Hid (Lev 2 w zs m a1 c1 v wr) ∧ Hid (wr.heap[w1.heap.size]? = some (.cells #[.int .i64 (nt 2), .func (.func 22) #[] #[]] 43 (0, 0)))) (fun l _ _ => match l with | .slice _ m _ => m | _ => 0)
  case atStart => exact ⟨len, _, c, rfl, Nat.le_refl _, HL, HopW⟩
  case round =>
    obtain ⟨m, a1, c1, rfl, hml, HL1, Hop1⟩ := hrel
    by_cases hlt : 1 < m
    · have hd : decide ((1 : Int) < (m : Int)) = true := by simp; omega
      have k0 := two_c0 Hop1.out
      have k1 := two_c1 Hop1.out
      have Hp := Lib.hid (show ∀ cur : List Int, cur.length = m → Slc wr a1 c1 cur → Calls Try.prog 16 #[.agg #[.int .i64 (nt 2), .func (.func 22) #[] #[]], .slice a1 m c1] wr (RetI 3 wr (pairsP 2 cur)) from fun cur hcl hsc => by subst hcl; exact pairs_any2 wr (nt 2) a1 c1 cur (by omega) hsc)
      obtain ⟨M, cur, done, n, d, hcl, hrow, hsc, hbw, hM, hall, hmn, hdl, hpw⟩ := HL1.out
      have hpl := pairsP_length 2 cur
      rw [hcl] at hpl
      have Hp2 := Lib.hid (Hp.out cur hcl hsc)
      have hd44 := lev_len hpw (by omega) (by rw [← Hlen.out]; omega)
      have HD := Lib.hid hdl
      have HR := Lib.hid hrow
      have HA := Lib.hid (And.intro hcl (And.intro hbw (And.intro hM (And.intro hall (And.intro hmn hpw)))))
      have HPL := Lib.hid hpl
      clear hcl hrow hsc hbw hM hall hmn hdl hpw hpl Hp HL1
      go_wp2_with fail
      refine Hp2.out.mono ?_
      rintro e w3 ⟨a3, c3, rfl, ho3, hb3⟩
      have hop3 := upb hb3 Hop1.out
      have HR3 := Lib.hid (HR.out.up hb3)
      obtain ⟨hcl, hbw, hM, hall, hmn, hpw⟩ := HA.out
      have hbw3 := belowTrans hbw hb3
      have hz3 := hb3.size
      have hzw := hbw.size
      have HO3 := Lib.hid ho3
      have HSZ := Lib.hid (And.intro hbw3 (And.intro hz3 (And.intro hzw (And.intro hM hop3))))
      obtain ⟨i0, hi, hz0, hz1, hz2⟩ := info_parts infoRLL
      obtain ⟨cs, hown, hcs⟩ := HR3.out
      have Hown := Lib.hid hown
      have Hcs := Lib.hid hcs
      rw [HD.out] at Hown
      have Hi := Lib.hid (And.intro hi (And.intro hz0 (And.intro hz1 hz2)))
      clear hi hz0 hz1 hz2 hown hcs hcl hbw hM hall hmn hpw hb3 hbw3 ho3 hop3 k0 k1 hz3 hzw HR
      go_wp2_with (at_builtin; refine wpList_append_own _ rfl (.tmp 30) (.tmp 32) 28 rfl w.heap.size 22 i0 (.slice none 0 0) 1 24 Try.underlying28 Hi.out.1 Hi.out.2.1 Hi.out.2.2.1 Hi.out.2.2.2 rfl (by decide) _ (d + 1) _ rfl (Hown.out.alloc _) ⟨w3.heap.size, 0, none⟩ 1 1 [.slice a3 (pairsP 2 cur).length c3] rfl rfl (cell_one_new _ _ _) (by simp [Value.oneCell']) (by unfold maxLen; omega) (by omega) (by have := HSZ.out.1.size; simp; omega) ?_; intro v' w4 hown' hgrow hnil; clear hnil; have Hown' := Lib.hid hown'; have Hgrow := Lib.hid hgrow; clear hown' hgrow)
      have hown4 := Hown'.out
      obtain ⟨g4, cap4, rfl⟩ := ownsRow_succ hown4
      have hb34 : Below w.heap.size w w4 := Below.grown (HSZ.out.1.trans (Below.alloc (Below.refl _ _) HSZ.out.1.size _)) Hgrow.out (by have := HSZ.out.1.size; simp; omega) (fun b hb => (Hown.out.lt b hb).1)
      have hrow4 : RowLL w4 w.heap.size (At0 M) (done ++ [pairsP 2 cur]) (.slice (some ⟨g4, 0, none⟩) (d + 1 + 1) cap4) := by
        refine RowLL.app Hcs.out (by rw [HD.out]; exact Hown.out) (ownI_low HO3.out HSZ.out.2.2.1) (fun b hb => ?_) Hgrow.out (by rw [HD.out]; exact hown4)
        have h := HO3.out.block b hb
        have h2 := HSZ.out.2.2.2.1
        unfold At0
        rw [if_neg (by rw [HD.out]; omega)]
        omega
      have hop4 : w4.heap[w1.heap.size]? = some (.cells #[.int .i64 (nt 2), .func (.func 22) #[] #[]] 43 (0, 0)) := by
        have h := HSZ.out.2.2.2.2
        have hl3 := (Array.getElem?_eq_some_iff.1 h).1
        exact ((Hgrow.out.block w1.heap.size (by simp; omega) (row_ne Hown.out h (by decide))).trans (Below.heap_alloc _ _ _ hl3)).trans h
      have hlev4 : Lev 2 w zs (pairsP 2 cur).length a3 c3 (.slice (some ⟨g4, 0, none⟩) (d + 1 + 1) cap4) w4 := by
        obtain ⟨hcl, hbw, hM, hall, hmn, hpw⟩ := HA.out
        have hz3 := HSZ.out.2.1
        have hs4 : Slc w4 a3 c3 (pairsP 2 cur) := by
          have h := HO3.out.grownOther Hown.out Hgrow.out (by decide)
          exact (OwnI.slc h).1
        have hz4 := Hgrow.out.size
        simp at hz4
        cases n with
        | zero => omega
        | succ n =>
          refine ⟨M, pairsP 2 cur, done ++ [pairsP 2 cur], n, d + 1, rfl, hrow4, hs4, hb34, by omega, ?_, by rw [HPL.out]; omega, by rw [List.length_append, HD.out]; rfl, by rw [HPL.out]; exact lev_next hpw⟩
          rw [← hall, lvF_step 2 n cur (by omega), List.append_assoc]
          rfl
      have HL4 := Lib.hid hlev4
      have HO4 := Lib.hid hop4
      have hml2 : (pairsP 2 cur).length ≤ len ∧ (pairsP 2 cur).length < m := by rw [HPL.out]; omega
      clear hlev4 hop4 hrow4 hb34 hown4 Hown' Hgrow Hown Hcs HO3 HSZ HA HR3 Hp2
      go_wp2_with fail
      go_roundw
      case rel => exact ⟨_, a3, c3, rfl, hml2.1, HL4, HO4⟩
      case measure => exact hml2.2
    · have hd : decide ((1 : Int) < (m : Int)) = false := by simp; omega
      obtain ⟨M, cur, done, n, d, hcl, hrow, hsc, hbw, hM, hall, hmn, hdl, hpw⟩ := HL1.out
      rw [lvF_end 2 n cur (by omega), List.append_nil] at hall
      obtain ⟨aE, cE, rfl⟩ := hrow.form
      have HE : Hid (RowLL wr w.heap.size (At0 M) (levels 2 zs) (.slice aE done.length cE) ∧ Below w.heap.size w wr) := Lib.hid ⟨by rw [← hall]; exact hrow, hbw⟩
      clear hcl hrow hsc hbw hM hall hmn hdl hpw HL1
      go_wp2_with fail
      go_ret2
      exact ⟨M, _, rfl, HE.out⟩

set_option maxRecDepth 100000 in
set_option maxHeartbeats 4000000 in
theorem Levels3 (w : World) (a : Option Addr) (c : Nat) (zs : List Int) (h1 : 0 < zs.length) (hn : zs.length ≤ 17592186043904) (hs : Slc w a c zs) :
    Calls Try.prog 7 #[.int .i64 3, .slice a zs.length c] w fun e w' => ∃ M v, e = .returned (.tuple #[v, .nilIface]) ∧ RowLL w' w.heap.size (At0 M) (levels 3 zs) v ∧ Below w.heap.size w w' := by
  obtain ⟨b, off, rfl, hc⟩ := hs.at h1
  have Hcl := Lib.hid (fun W (hB : Below w.heap.size w W) => clone_some W b off c zs hn (fun i hi => upc hB (hc i hi)))
  have hq : ((zs.length : Int) == 0) = false := beq_eq_false_iff_ne.2 (by omega)
  obtain ⟨len, hlen⟩ : ∃ len, len = zs.length := ⟨_, rfl⟩
  rw [← hlen] at Hcl hn hq h1 ⊢
  have Hlen := Lib.hid hlen
  have Hs := Lib.hid hs
  clear hlen hs hc
  go_enter Try.func7, Try.ntmps7
  go_wp2_with fail
  refine (of3 _).mono ?_
  rintro e w1 ⟨rfl, hb1⟩
  go_wp2_with fail
  obtain ⟨V, hV⟩ : ∃ V, V = w1.alloc (.cells #[.int .i64 (nt 3), .func (.func 23) #[] #[]] 43) := ⟨_, rfl⟩
  have hbV : Below w.heap.size w V := by rw [hV]; exact belowTrans hb1 (belowAlloc _ _)
  have hop : V.heap[w1.heap.size]? = some (.cells #[.int .i64 (nt 3), .func (.func 23) #[] #[]] 43 (0, 0)) := by rw [hV]; exact heap_alloc_new _ _
  have HV := Lib.hid hV
  clear hV
  rw [← HV.out]
  refine (Hcl.out V hbV).mono ?_
  rintro e w2 ⟨a2, c2, rfl, ho, hb2⟩
  rw [← Hlen.out] at ho ⊢
  have hw1 := (Array.getElem?_eq_some_iff.1 hop).1
  obtain ⟨W, hW⟩ : ∃ W, W = w2.alloc (.cells #[.slice a2 len c2] 22) := ⟨_, rfl⟩
  have hb3 : Below w2.heap.size w2 W := by rw [hW]; exact belowAlloc _ _
  have hbW := belowTrans (belowTrans hbV hb2) hb3
  have hzW : W.heap.size = w2.heap.size + 1 := by rw [hW]; simp
  have hopW := upb (belowTrans hb2 hb3) hop
  have hrow : RowLL W w.heap.size (At0 w2.heap.size) [zs] (.slice (some ⟨w2.heap.size, 0, none⟩) 1 1) := by
    refine ⟨[.slice a2 len c2], ⟨rfl, .inr ⟨w2.heap.size, 1, #[.slice a2 len c2], rfl, by have := hbW.size; have := (belowTrans hbV hb2).size; omega, by rw [hW]; exact heap_alloc_new _ _, Nat.le_refl _, by unfold maxLen; omega, rfl, rfl⟩⟩, fun j hj => ?_⟩
    obtain rfl : j = 0 := by simpa using hj
    refine ⟨a2, c2, by rw [Hlen.out]; rfl, ?_, ?_⟩
    · have h := (ownI_low ho hbV.size).up hb3
      rw [Hlen.out] at h
      exact h
    · intro b hb
      have h := ho.block b (by rw [Hlen.out]; exact hb)
      exact h.2
  have hlev : Lev 3 w zs len (some ⟨b, off, none⟩) c (.slice (some ⟨w2.heap.size, 0, none⟩) 1 1) W := ⟨w2.heap.size, zs, [zs], zs.length, 0, Hlen.out.symm, hrow, Hs.out.up hbW, hbW, by omega, rfl, by rw [Hlen.out]; omega, rfl, by rw [Hlen.out]; simp⟩
  have HL := Lib.hid hlev
  have HopW := Lib.hid hopW
  have HW := Lib.hid hW
  clear hlev hrow hb3 hopW hop ho hb1 hb2 hbV hbW hW Hs Hcl
  go_wp2_with fail
  rw [← HW.out]
  go_loopw [1, 8] (fun l v wr => ∃ (m : Nat) (a1 : Option Addr) (c1 : Nat), l = .slice a1 m c1 ∧ m ≤ len ∧ Hid (Lev 3 w zs m a1 c1 v wr) ∧ Hid (wr.heap[w1.heap.size]? = some (.cells #[.int .i64 (nt 3), .func (.func 23) #[] #[]] 43 (0, 0)))) (fun l _ _ => match l with | .slice _ m _ => m | _ => 0)
  case atStart => exact ⟨len, _, c, rfl, Nat.le_refl _, HL, HopW⟩
  case round =>
    obtain ⟨m, a1, c1, rfl, hml, HL1, Hop1⟩ := hrel
    by_cases hlt : 1 < m
    · have hd : decide ((1 : Int) < (m : Int)) = true := by simp; omega
      have k0 := two_c0 Hop1.out
      have k1 := two_c1 Hop1.out
      have Hp := Lib.hid (show ∀ cur : List Int, cur.length = m → Slc wr a1 c1 cur → Calls Try.prog 16 #[.agg #[.int .i64 (nt 3), .func (.func 23) #[] #[]], .slice a1 m c1] wr (RetI 3 wr (pairsP 3 cur)) from fun cur hcl hsc => by subst hcl; exact pairs_any3 wr (nt 3) a1 c1 cur (by omega) hsc)
      obtain ⟨M, cur, done, n, d, hcl, hrow, hsc, hbw, hM, hall, hmn, hdl, hpw⟩ := HL1.out
      have hpl := pairsP_length 3 cur
      rw [hcl] at hpl
      have Hp2 := Lib.hid (Hp.out cur hcl hsc)
      have hd44 := lev_len hpw (by omega) (by rw [← Hlen.out]; omega)
      have HD := Lib.hid hdl
      have HR := Lib.hid hrow
      have HA := Lib.hid (And.intro hcl (And.intro hbw (And.intro hM (And.intro hall (And.intro hmn hpw)))))
      have HPL := Lib.hid hpl
      clear hcl hrow hsc hbw hM hall hmn hdl hpw hpl Hp HL1
      go_wp2_with fail
      refine Hp2.out.mono ?_
      rintro e w3 ⟨a3, c3, rfl, ho3, hb3⟩
      have hop3 := upb hb3 Hop1.out
      have HR3 := Lib.hid (HR.out.up hb3)
      obtain ⟨hcl, hbw, hM, hall, hmn, hpw⟩ := HA.out
      have hbw3 := belowTrans hbw hb3
      have hz3 := hb3.size
      have hzw := hbw.size
      have HO3 := Lib.hid ho3
      have HSZ := Lib.hid (And.intro hbw3 (And.intro hz3 (And.intro hzw (And.intro hM hop3))))
      obtain ⟨i0, hi, hz0, hz1, hz2⟩ := info_parts infoRLL
      obtain ⟨cs, hown, hcs⟩ := HR3.out
      have Hown := Lib.hid hown
      have Hcs := Lib.hid hcs
      rw [HD.out] at Hown
      have Hi := Lib.hid (And.intro hi (And.intro hz0 (And.intro hz1 hz2)))
      clear hi hz0 hz1 hz2 hown hcs hcl hbw hM hall hmn hpw hb3 hbw3 ho3 hop3 k0 k1 hz3 hzw HR
      go_wp2_with (at_builtin; refine wpList_append_own _ rfl (.tmp 30) (.tmp 32) 28 rfl w.heap.size 22 i0 (.slice none 0 0) 1 24 Try.underlying28 Hi.out.1 Hi.out.2.1 Hi.out.2.2.1 Hi.out.2.2.2 rfl (by decide) _ (d + 1) _ rfl (Hown.out.alloc _) ⟨w3.heap.size, 0, none⟩ 1 1 [.slice a3 (pairsP 3 cur).length c3] rfl rfl (cell_one_new _ _ _) (by simp [Value.oneCell']) (by unfold maxLen; omega) (by omega) (by have := HSZ.out.1.size; simp; omega) ?_; intro v' w4 hown' hgrow hnil; clear hnil; have Hown' := Lib.hid hown'; have Hgrow := Lib.hid hgrow; clear hown' hgrow)
      have hown4 := Hown'.out
      obtain ⟨g4, cap4, rfl⟩ := ownsRow_succ hown4
      have hb34 : Below w.heap.size w w4 := Below.grown (HSZ.out.1.trans (Below.alloc (Below.refl _ _) HSZ.out.1.size _)) Hgrow.out (by have := HSZ.out.1.size; simp; omega) (fun b hb => (Hown.out.lt b hb).1)
      have hrow4 : RowLL w4 w.heap.size (At0 M) (done ++ [pairsP 3 cur]) (.slice (some ⟨g4, 0, none⟩) (d + 1 + 1) cap4) := by
        refine RowLL.app Hcs.out (by rw [HD.out]; exact Hown.out) (ownI_low HO3.out HSZ.out.2.2.1) (fun b hb => ?_) Hgrow.out (by rw [HD.out]; exact hown4)
        have h := HO3.out.block b hb
        have h2 := HSZ.out.2.2.2.1
        unfold At0
        rw [if_neg (by rw [HD.out]; omega)]
        omega
      have hop4 : w4.heap[w1.heap.size]? = some (.cells #[.int .i64 (nt 3), .func (.func 23) #[] #[]] 43 (0, 0)) := by
        have h := HSZ.out.2.2.2.2
        have hl3 := (Array.getElem?_eq_some_iff.1 h).1
        exact ((Hgrow.out.block w1.heap.size (by simp; omega) (row_ne Hown.out h (by decide))).trans (Below.heap_alloc _ _ _ hl3)).trans h
      have hlev4 : Lev 3 w zs (pairsP 3 cur).length a3 c3 (.slice (some ⟨g4, 0, none⟩) (d + 1 + 1) cap4) w4 := by
        obtain ⟨hcl, hbw, hM, hall, hmn, hpw⟩ := HA.out
        have hz3 := HSZ.out.2.1
        have hs4 : Slc w4 a3 c3 (pairsP 3 cur) := by
          have h := HO3.out.grownOther Hown.out Hgrow.out (by decide)
          exact (OwnI.slc h).1
        have hz4 := Hgrow.out.size
        simp at hz4
        cases n with
        | zero => omega
        | succ n =>
          refine ⟨M, pairsP 3 cur, done ++ [pairsP 3 cur], n, d + 1, rfl, hrow4, hs4, hb34, by omega, ?_, by rw [HPL.out]; omega, by rw [List.length_append, HD.out]; rfl, by rw [HPL.out]; exact lev_next hpw⟩
          rw [← hall, lvF_step 3 n cur (by omega), List.append_assoc]
          rfl
      have HL4 := Lib.hid hlev4
      have HO4 := Lib.hid hop4
      have hml2 : (pairsP 3 cur).length ≤ len ∧ (pairsP 3 cur).length < m := by rw [HPL.out]; omega
      clear hlev4 hop4 hrow4 hb34 hown4 Hown' Hgrow Hown Hcs HO3 HSZ HA HR3 Hp2
      go_wp2_with fail
      go_roundw
      case rel => exact ⟨_, a3, c3, rfl, hml2.1, HL4, HO4⟩
      case measure => exact hml2.2
    · have hd : decide ((1 : Int) < (m : Int)) = false := by simp; omega
      obtain ⟨M, cur, done, n, d, hcl, hrow, hsc, hbw, hM, hall, hmn, hdl, hpw⟩ := HL1.out
      rw [lvF_end 3 n cur (by omega), List.append_nil] at hall
      obtain ⟨aE, cE, rfl⟩ := hrow.form
      have HE : Hid (RowLL wr w.heap.size (At0 M) (levels 3 zs) (.slice aE done.length cE) ∧ Below w.heap.size w wr) := Lib.hid ⟨by rw [← hall]; exact hrow, hbw⟩
      clear hcl hrow hsc hbw hM hall hmn hdl hpw HL1
      go_wp2_with fail
      go_ret2
      exact ⟨M, _, rfl, HE.out⟩

set_option maxRecDepth 100000 in
set_option maxHeartbeats 4000000 in
theorem Levels4 (w : World) (a : Option Addr) (c : Nat) (zs : List Int) (h1 : 0 < zs.length) (hn : zs.length ≤ 17592186043904) (hs : Slc w a c zs) :
    Calls Try.prog 7 #[.int .i64 4, .slice a zs.length c] w fun e w' => ∃ M v, e = .returned (.tuple #[v, .nilIface]) ∧ RowLL w' w.heap.size (At0 M) (levels 4 zs) v ∧ Below w.heap.size w w' := by
  obtain ⟨b, off, rfl, hc⟩ := hs.at h1
  have Hcl := Lib.hid (fun W (hB : Below w.heap.size w W) => clone_some W b off c zs hn (fun i hi => upc hB (hc i hi)))
  have hq : ((zs.length : Int) == 0) = false := beq_eq_false_iff_ne.2 (by omega)
  obtain ⟨len, hlen⟩ : ∃ len, len = zs.length := ⟨_, rfl⟩
  rw [← hlen] at Hcl hn hq h1 ⊢
  have Hlen := Lib.hid hlen
  have Hs := Lib.hid hs
  clear hlen hs hc
  go_enter Try.func7, Try.ntmps7
  go_wp2_with fail
  refine (of4 _).mono ?_
  rintro e w1 ⟨rfl, hb1⟩
  go_wp2_with fail
  obtain ⟨V, hV⟩ : ∃ V, V = w1.alloc (.cells #[.int .i64 (nt 4), .func (.func 24) #[] #[]] 43) := ⟨_, rfl⟩
  have hbV : Below w.heap.size w V := by rw [hV]; exact belowTrans hb1 (belowAlloc _ _)
  have hop : V.heap[w1.heap.size]? = some (.cells #[.int .i64 (nt 4), .func (.func 24) #[] #[]] 43 (0, 0)) := by rw [hV]; exact heap_alloc_new _ _
  have HV := Lib.hid hV
  clear hV
  rw [← HV.out]
  refine (Hcl.out V hbV).mono ?_
  rintro e w2 ⟨a2, c2, rfl, ho, hb2⟩
  rw [← Hlen.out] at ho ⊢
  have hw1 := (Array.getElem?_eq_some_iff.1 hop).1
  obtain ⟨W, hW⟩ : ∃ W, W = w2.alloc (.cells #[.slice a2 len c2] 22) := ⟨_, rfl⟩
  have hb3 : Below w2.heap.size w2 W := by rw [hW]; exact belowAlloc _ _
  have hbW := belowTrans (belowTrans hbV hb2) hb3
  have hzW : W.heap.size = w2.heap.size + 1 := by rw [hW]; simp
  have hopW := upb (belowTrans hb2 hb3) hop
  have hrow : RowLL W w.heap.size (At0 w2.heap.size) [zs] (.slice (some ⟨w2.heap.size, 0, none⟩) 1 1) := by
    refine ⟨[.slice a2 len c2], ⟨rfl, .inr ⟨w2.heap.size, 1, #[.slice a2 len c2], rfl, by have := hbW.size; have := (belowTrans hbV hb2).size; omega, by rw [hW]; exact heap_alloc_new _ _, Nat.le_refl _, by unfold maxLen; omega, rfl, rfl⟩⟩, fun j hj => ?_⟩
    obtain rfl : j = 0 := by simpa using hj
    refine ⟨a2, c2, by rw [Hlen.out]; rfl, ?_, ?_⟩
    · have h := (ownI_low ho hbV.size).up hb3
      rw [Hlen.out] at h
      exact h
    · intro b hb
      have h := ho.block b (by rw [Hlen.out]; exact hb)
      exact h.2
  have hlev : Lev 4 w zs len (some ⟨b, off, none⟩) c (.slice (some ⟨w2.heap.size, 0, none⟩) 1 1) W := ⟨w2.heap.size, zs, [zs], zs.length, 0, Hlen.out.symm, hrow, Hs.out.up hbW, hbW, by omega, rfl, by rw [Hlen.out]; omega, rfl, by rw [Hlen.out]; simp⟩
  have HL := Lib.hid hlev
  have HopW := Lib.hid hopW
  have HW := Lib.hid hW
  clear hlev hrow hb3 hopW hop ho hb1 hb2 hbV hbW hW Hs Hcl
  go_wp2_with fail
  rw [← HW.out]
  go_loopw [1, 8] (fun l v wr => ∃ (m : Nat) (a1 : Option Addr) (c1 : Nat), l = .slice a1 m c1 ∧ m ≤ len ∧ Hid (Lev 4 w zs m a1 c1 v wr) ∧ Hid (wr.heap[w1.heap.size]? = some (.cells #[.int .i64 (nt 4), .func (.func 24) #[] #[]] 43 (0, 0)))) (fun l _ _ => match l with | .slice _ m _ => m | _ => 0)
  case atStart => exact ⟨len, _, c, rfl, Nat.le_refl _, HL, HopW⟩
  case round =>
    obtain ⟨m, a1, c1, rfl, hml, HL1, Hop1⟩ := hrel
    by_cases hlt : 1 < m
    · have hd : decide ((1 : Int) < (m : Int)) = true := by simp; omega
      have k0 := two_c0 Hop1.out
      have k1 := two_c1 Hop1.out
      have Hp := Lib.hid (show ∀ cur : List Int, cur.length = m → Slc wr a1 c1 cur → Calls Try.prog 16 #[.agg #[.int .i64 (nt 4), .func (.func 24) #[] #[]], .slice a1 m c1] wr (RetI 3 wr (pairsP 4 cur)) from fun cur hcl hsc => by subst hcl; exact pairs_any4 wr (nt 4) a1 c1 cur (by omega) hsc)
      obtain ⟨M, cur, done, n, d, hcl, hrow, hsc, hbw, hM, hall, hmn, hdl, hpw⟩ := HL1.out
      have hpl := pairsP_length 4 cur
      rw [hcl] at hpl
      have Hp2 := Lib.hid (Hp.out cur hcl hsc)
      have hd44 := lev_len hpw (by omega) (by rw [← Hlen.out]; omega)
      have HD := Lib.hid hdl
      have HR := Lib.hid hrow
      have HA := Lib.hid (And.intro hcl (And.intro hbw (And.intro hM (And.intro hall (And.intro hmn hpw)))))
      have HPL := Lib.hid hpl
      clear hcl hrow hsc hbw hM hall hmn hdl hpw hpl Hp HL1
      go_wp2_with fail
      refine Hp2.out.mono ?_
      rintro e w3 ⟨a3, c3, rfl, ho3, hb3⟩
      have hop3 := upb hb3 Hop1.out
      have HR3 := Lib.hid (HR.out.up hb3)
      obtain ⟨hcl, hbw, hM, hall, hmn, hpw⟩ := HA.out
      have hbw3 := belowTrans hbw hb3
      have hz3 := hb3.size
      have hzw := hbw.size
      have HO3 := Lib.hid ho3
      have HSZ := Lib.hid (And.intro hbw3 (And.intro hz3 (And.intro hzw (And.intro hM hop3))))
      obtain ⟨i0, hi, hz0, hz1, hz2⟩ := info_parts infoRLL
      obtain ⟨cs, hown, hcs⟩ := HR3.out
      have Hown := Lib.hid hown
      have Hcs := Lib.hid hcs
      rw [HD.out] at Hown
      have Hi := Lib.hid (And.intro hi (And.intro hz0 (And.intro hz1 hz2)))
      clear hi hz0 hz1 hz2 hown hcs hcl hbw hM hall hmn hpw hb3 hbw3 ho3 hop3 k0 k1 hz3 hzw HR
      go_wp2_with (at_builtin; refine wpList_append_own _ rfl (.tmp 30) (.tmp 32) 28 rfl w.heap.size 22 i0 (.slice none 0 0) 1 24 Try.underlying28 Hi.out.1 Hi.out.2.1 Hi.out.2.2.1 Hi.out.2.2.2 rfl (by decide) _ (d + 1) _ rfl (Hown.out.alloc _) ⟨w3.heap.size, 0, none⟩ 1 1 [.slice a3 (pairsP 4 cur).length c3] rfl rfl (cell_one_new _ _ _) (by simp [Value.oneCell']) (by unfold maxLen; omega) (by omega) (by have := HSZ.out.1.size; simp; omega) ?_; intro v' w4 hown' hgrow hnil; clear hnil; have Hown' := Lib.hid hown'; have Hgrow := Lib.hid hgrow; clear hown' hgrow)
      have hown4 := Hown'.out
      obtain ⟨g4, cap4, rfl⟩ := ownsRow_succ hown4
      have hb34 : Below w.heap.size w w4 := Below.grown (HSZ.out.1.trans (Below.alloc (Below.refl _ _) HSZ.out.1.size _)) Hgrow.out (by have := HSZ.out.1.size; simp; omega) (fun b hb => (Hown.out.lt b hb).1)
      have hrow4 : RowLL w4 w.heap.size (At0 M) (done ++ [pairsP 4 cur]) (.slice (some ⟨g4, 0, none⟩) (d + 1 + 1) cap4) := by
        refine RowLL.app Hcs.out (by rw [HD.out]; exact Hown.out) (ownI_low HO3.out HSZ.out.2.2.1) (fun b hb => ?_) Hgrow.out (by rw [HD.out]; exact hown4)
        have h := HO3.out.block b hb
        have h2 := HSZ.out.2.2.2.1
        unfold At0
        rw [if_neg (by rw [HD.out]; omega)]
        omega
      have hop4 : w4.heap[w1.heap.size]? = some (.cells #[.int .i64 (nt 4), .func (.func 24) #[] #[]] 43 (0, 0)) := by
        have h := HSZ.out.2.2.2.2
        have hl3 := (Array.getElem?_eq_some_iff.1 h).1
        exact ((Hgrow.out.block w1.heap.size (by simp; omega) (row_ne Hown.out h (by decide))).trans (Below.heap_alloc _ _ _ hl3)).trans h
      have hlev4 : Lev 4 w zs (pairsP 4 cur).length a3 c3 (.slice (some ⟨g4, 0, none⟩) (d + 1 + 1) cap4) w4 := by
        obtain ⟨hcl, hbw, hM, hall, hmn, hpw⟩ := HA.out
        have hz3 := HSZ.out.2.1
        have hs4 : Slc w4 a3 c3 (pairsP 4 cur) := by
          have h := HO3.out.grownOther Hown.out Hgrow.out (by decide)
          exact (OwnI.slc h).1
        have hz4 := Hgrow.out.size
        simp at hz4
        cases n with
        | zero => omega
        | succ n =>
          refine ⟨M, pairsP 4 cur, done ++ [pairsP 4 cur], n, d + 1, rfl, hrow4, hs4, hb34, by omega, ?_, by rw [HPL.out]; omega, by rw [List.length_append, HD.out]; rfl, by rw [HPL.out]; exact lev_next hpw⟩
          rw [← hall, lvF_step 4 n cur (by omega), List.append_assoc]
          rfl
      have HL4 := Lib.hid hlev4
      have HO4 := Lib.hid hop4
      have hml2 : (pairsP 4 cur).length ≤ len ∧ (pairsP 4 cur).length < m := by rw [HPL.out]; omega
      clear hlev4 hop4 hrow4 hb34 hown4 Hown' Hgrow Hown Hcs HO3 HSZ HA HR3 Hp2
      go_wp2_with fail
      go_roundw
      case rel => exact ⟨_, a3, c3, rfl, hml2.1, HL4, HO4⟩
      case measure => exact hml2.2
    · have hd : decide ((1 : Int) < (m : Int)) = false := by simp; omega
      obtain ⟨M, cur, done, n, d, hcl, hrow, hsc, hbw, hM, hall, hmn, hdl, hpw⟩ := HL1.out
      rw [lvF_end 4 n cur (by omega), List.append_nil] at hall
      obtain ⟨aE, cE, rfl⟩ := hrow.form
      have HE : Hid (RowLL wr w.heap.size (At0 M) (levels 4 zs) (.slice aE done.length cE) ∧ Below w.heap.size w wr) := Lib.hid ⟨by rw [← hall]; exact hrow, hbw⟩
      clear hcl hrow hsc hbw hM hall hmn hdl hpw HL1
      go_wp2_with fail
      go_ret2
      exact ⟨M, _, rfl, HE.out⟩
end Go.Proofs.Ytnnpeblpdkeffaa.scan
