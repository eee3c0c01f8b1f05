/- What was there stays. -/
import Derived.Test.YteglhcpochcopaaTrieFi
namespace Go.Proofs.Yteglhcpochcopaa.trie
open Go.RowKit

theorem put_drop {T : TT} (h : Ok T) (s : Wd) (x : Int) : drop (put T s x) s = drop T s := by
  refine ext (ok_drop (ok_put h)) (ok_drop h) fun u => ?_
  rw [get_drop, get_drop, get_put]
  split <;> rfl
theorem drop_len {T : TT} {s : Wd} {M : Nat} (h : ∀ u x, get T u = some x → u.length ≤ M) : ∀ u x, get (drop T s) u = some x → u.length ≤ M := by
  intro u x hu
  rw [get_drop] at hu
  split at hu
  · cases hu
  · exact h u x hu
theorem drop_no {T : TT} (h : Ok T) {s : Wd} (hs : get T s = none) : drop T s = T := by
  refine ext (ok_drop h) h fun u => ?_
  rw [get_drop]
  split
  · rename_i e; rw [e, hs]
  · rfl
set_option maxRecDepth 100000 in
set_option maxHeartbeats 16000000 in
theorem stays_law (a : Option Addr) (c n : Nat) (l : List Wd) (s : Wd) (w : World) (hn : l.length = n) (hb : n ≤ 1048576) (hl : ∀ x ∈ l, x.length ≤ 1048576) (hs : s.length ≤ 140737488351232) (hr : ReadsS w a l) :
    Calls Try.prog 6 #[.slice a n c, sv s] w (Yes w) := by
  have HA := Lib.hid (And.intro hn (And.intro hs (And.intro hr hl)))
  obtain ⟨xs, hxs⟩ : ∃ xs, xs = sv s := ⟨_, rfl⟩
  rw [← hxs]
  have HX := Lib.hid hxs
  clear hn hs hr hl hxs
  go_enter Try.func6, Try.ntmps6
  go_wp2_with fail
  refine (worded_any w).mono ?_
  rintro e w1 ⟨rfl, hb1⟩
  have hst0 : St w w1.heap.size .nil none (w1.alloc (.cells #[.pointer none] 26)) := ⟨belowTrans hb1 (belowAlloc w1 _), hb1.size, heap_alloc_new w1 _, rfl⟩
  have HI : Hid (∃ p, St w w1.heap.size (fillN l 0) p (w1.alloc (.cells #[.pointer none] 26))) := Lib.hid ⟨none, hst0⟩
  have HG := Lib.hid hb1.size
  obtain ⟨G, hG⟩ : ∃ G, G = w1.heap.size := ⟨_, rfl⟩
  clear hst0 hb1
  go_wp2_with fail
  rw [← hG] at HI HG ⊢
  clear hG
  go_loopw [7] (fun iv wr => ∃ j : Nat, iv = .int .i64 j ∧ j ≤ n ∧ Hid (∃ p, St w G (fillN l j) p wr)) (fun iv _ => n - (intOf iv).toNat)
  case atStart => exact ⟨0, rfl, Nat.zero_le _, HI⟩
  case round =>
    obtain ⟨j, rfl, hj, HS⟩ := hrel
    have j0 : (0 : Int) ≤ (j : Int) := by omega
    clear HI
    rcases Nat.lt_or_ge j n with hlt | hge
    · obtain ⟨p, hst⟩ := HS.out
      obtain ⟨ab, ao, rfl, hcell⟩ := HA.out.2.2.1.at (j := j) (by rw [HA.out.1]; exact hlt)
      have hlt' : (j : Int) < (n : Int) := by omega
      have hw1 : IntKind.i64.wrap ((j : Int) + 1) = (j : Int) + 1 := IntWalk.i64_in _ (by omega)
      have k0 := cell_of_one hst.b0
      obtain ⟨y, hy⟩ : ∃ y, y = l.getD j [] := ⟨_, rfl⟩
      have hk1 := upc hst.bel hcell
      rw [← hy] at hk1
      have HP := Lib.hid (fun W (hW : Below wr.heap.size wr W) => Put_any W p (fillN l j) y (j : Int) (hst.h0.up hW) (by have := fillN_cnt l j; omega))
      obtain ⟨ys, hys⟩ : ∃ ys, ys = sv y := ⟨_, rfl⟩
      rw [← hys] at HP hk1
      have HST := Lib.hid hst
      have HY := Lib.hid hy
      have HC := Lib.hid (And.intro k0 hk1)
      clear hst hcell hy hys HS
      go_wp2_with fail
      refine grow.wp_grow_last 7 _ [grow.kEq (.agg #[.pointer p]), grow.kEq (.slice (some ⟨ab, ao, none⟩) n c), grow.kEq (.int .i64 (j : Nat)), grow.kEq (.pointer (some ⟨ab, ao + j, none⟩)), grow.kEq (ys), grow.kEq (.int .i64 (j : Nat)), kTrieV (put (fillN l j) y (j : Int))] rfl rfl rfl (by kernel_rfl) (by kernel_rfl) (by kernel_rfl) (by kernel_rfl) (by kernel_rfl) ?step ?fin
      case step =>
        refine grow.EachL.cons ?_ ?_
        · intro A W hB hs hJ K hK
          have s0 := hs 6 (by kernel_rfl)
          simp at s0
          have kk := upc hB HC.out.1
          rw [if_pos (by rfl)]
          clear hs hJ
          go_simp
          exact hK _ _ (Below.refl _ _) rfl
        refine grow.EachL.cons ?_ ?_
        · intro A W hB hs hJ K hK
          have s0 := hs 0 (by kernel_rfl)
          simp at s0
          rw [if_pos (by rfl)]
          clear hs hJ
          go_simp
          exact hK _ _ (Below.refl _ _) rfl
        refine grow.EachL.cons ?_ ?_
        · intro A W hB hs hJ K hK
          have s0 := hs 7 (by kernel_rfl)
          simp at s0
          rw [if_pos (by rfl)]
          clear hs hJ
          go_simp
          exact hK _ _ (Below.refl _ _) rfl
        refine grow.EachL.cons ?_ ?_
        · intro A W hB hs hJ K hK
          have s0 : A.tmps.getD 27 undef = .slice (some ⟨ab, ao, none⟩) n c := hJ 1 27 (by kernel_rfl) (by kernel_rfl)
          simp at s0
          have s1 : A.tmps.getD 28 undef = .int .i64 (j : Nat) := hJ 2 28 (by kernel_rfl) (by kernel_rfl)
          simp at s1
          rw [if_pos (by rfl)]
          clear hs hJ
          go_simp
          exact hK _ _ (Below.refl _ _) rfl
        refine grow.EachL.cons ?_ ?_
        · intro A W hB hs hJ K hK
          have s0 : A.tmps.getD 29 undef = .pointer (some ⟨ab, ao + j, none⟩) := hJ 3 29 (by kernel_rfl) (by kernel_rfl)
          simp at s0
          have kk := upc hB HC.out.2
          rw [if_pos (by rfl)]
          clear hs hJ
          go_simp
          exact hK _ _ (Below.refl _ _) rfl
        refine grow.EachL.cons ?_ ?_
        · intro A W hB hs hJ K hK
          have s0 := hs 7 (by kernel_rfl)
          simp at s0
          rw [if_pos (by rfl)]
          clear hs hJ
          go_simp
          exact hK _ _ (Below.refl _ _) rfl
        refine grow.EachL.cons ?_ ?_
        · intro A W hB hs hJ K hK
          have s0 : A.tmps.getD 26 undef = .agg #[.pointer p] := hJ 0 26 (by kernel_rfl) (by kernel_rfl)
          simp at s0
          have s1 : A.tmps.getD 30 undef = ys := hJ 4 30 (by kernel_rfl) (by kernel_rfl)
          simp at s1
          have s2 : A.tmps.getD 31 undef = .int .i64 (j : Nat) := hJ 5 31 (by kernel_rfl) (by kernel_rfl)
          simp at s2
          rw [if_pos (by rfl)]
          clear hs hJ
          go_simp
          go_at_call 9
          refine (HP.out W hB).mono ?_
          rintro e W2 ⟨q1, rfl, hq1, hb1⟩
          exact hK _ _ hb1 ⟨q1, rfl, hq1⟩
        exact grow.EachL.nil
      case fin =>
        intro f W hB hF
        have f0 : f 0 = .agg #[.pointer p] := hF 0 (by decide)
        have f1 : f 1 = .slice (some ⟨ab, ao, none⟩) n c := hF 1 (by decide)
        have f2 : f 2 = .int .i64 (j : Nat) := hF 2 (by decide)
        have f3 : f 3 = .pointer (some ⟨ab, ao + j, none⟩) := hF 3 (by decide)
        have f4 : f 4 = ys := hF 4 (by decide)
        have f5 : f 5 = .int .i64 (j : Nat) := hF 5 (by decide)
        obtain ⟨p1_6, f6, h1_6⟩ := hF 6 (by decide)
        clear hF
        intro A hA
        simp only [grow.puts, Act.put, List.getElem?_toArray, List.getElem?_cons_zero, List.getElem?_cons_succ, Option.bind_some, List.setIfInBounds_toArray, List.set_cons_zero, List.set_cons_succ, f0, f1, f2, f3, f4, f5, f6] at hA
        subst hA
        have hs7 := HST.out.up hB
        have c7 := cell_of_one hs7.b0
        have f7 := free_of_one hs7.b0
        have HE2 : Hid (∃ p, St w G (fillN l (j + 1)) p (W.setCell ⟨G, 0, none⟩ (.pointer p1_6))) := Lib.hid ⟨p1_6, by rw [show fillN l (j + 1) = put (fillN l j) (l.getD j []) (j : Int) from rfl, ← HY.out]; exact hs7.set h1_6⟩
        clear hs7 h1_6 hB HST HC HP
        go_simp
        go_wp2_with fail
        go_roundw
        case rel => exact ⟨j + 1, by go_num, hlt, HE2⟩
        case measure => simp [intOf]; omega
    · obtain rfl : n = j := by omega
      obtain ⟨p, hst⟩ := HS.out
      clear HS
      obtain ⟨T, hT⟩ : ∃ T, T = fillN l n := ⟨_, rfl⟩
      rw [← hT] at hst
      have hTc : cnt T ≤ n := by rw [hT]; exact fillN_cnt l n
      have hTo : Ok T := by rw [hT]; exact fillN_ok l n
      have hTl : ∀ u x, get T u = some x → u.length ≤ 140737488351232 := fun u x h => by rw [hT] at h; have := fillN_len HA.out.2.2.2 (Nat.le_of_eq HA.out.1.symm) h; omega
      obtain ⟨T2, hT2⟩ : ∃ T2, T2 = drop T s := ⟨_, rfl⟩
      have h2c : cnt T2 ≤ n := by rw [hT2]; exact Nat.le_trans (cnt_drop T s) hTc
      have h2d : Deep T2 140737488351232 := by rw [hT2]; exact deep_of (ok_drop hTo) (drop_len hTl)
      have HT := Lib.hid (And.intro hTc (And.intro hTo (And.intro hT2 (And.intro h2c h2d))))
      have k0 := cell_of_one hst.b0
      obtain ⟨Hd, hHd⟩ : ∃ H, H = words T [] := ⟨_, rfl⟩
      have HW := Lib.hid (fun W (hW : Below wr.heap.size wr W) => Words_any W p T 140737488351232 (hst.h0.up hW) (by unfold most; omega) (deep_of hTo hTl) (by omega))
      simp only [← hHd] at HW
      obtain ⟨Ln, hLn⟩ : ∃ n, n = Hd.length := ⟨_, rfl⟩
      have HD := Lib.hid (And.intro hHd hLn)
      have HST := Lib.hid hst
      have HLx : Hid (Ln ≤ 1048576) := Lib.hid (by rw [hLn, hHd, words_len]; omega)
      have hWn := HW.out wr (Below.refl _ _)
      unfold RetW at hWn
      rw [← hLn] at hWn
      clear hT hTc hTo hTl hT2 h2c h2d hst j0 hge hHd hLn
      go_wp2_with fail
      refine hWn.mono ?_
      rintro e w2 ⟨a2, c2, rfl, ho2, hb2⟩
      clear hWn k0
      have H2 := Lib.hid (And.intro (HST.out.up hb2) (And.intro (OwnW.reads (n := Hd.length) (by rw [← HD.out.2]; exact ho2)) hb2))
      clear ho2 hb2 HST
      have k0 := cell_of_one H2.out.1.b0
      obtain ⟨g, hg⟩ : ∃ g, g = get T s := ⟨_, rfl⟩
      have HGt := Lib.hid (Get_any w2 p T s H2.out.1.h0 g hg.symm)
      rw [← HX.out] at HGt
      unfold RetV at HGt
      have Hg := Lib.hid hg
      clear hg
      obtain ⟨hs, hhs⟩ : ∃ b, b = g.isSome := ⟨_, rfl⟩
      obtain ⟨gx, hgx⟩ : ∃ b, b = g.getD 0 := ⟨_, rfl⟩
      rw [← hhs, ← hgx] at HGt
      have HH := Lib.hid hhs
      clear hhs hgx
      go_wp2_with fail
      refine HGt.out.mono ?_
      rintro e w3 ⟨rfl, hb3⟩
      clear HGt k0
      have H3 := Lib.hid (And.intro (H2.out.1.up hb3) (And.intro (H2.out.2.1.up hb3) (belowTrans H2.out.2.2 hb3)))
      clear hb3 H2
      have k0 := cell_of_one H3.out.1.b0
      have HP := Lib.hid (Put_any w3 p T s 9 H3.out.1.h0 (by have := HT.out.1; omega))
      rw [← HX.out] at HP
      go_wp2_with fail
      refine HP.out.mono ?_
      rintro e w4 ⟨p4, rfl, h4, hb4⟩
      clear HP k0
      obtain ⟨U, hU⟩ : ∃ V, V = w4.alloc (.cells #[.pointer p4] 26) := ⟨_, rfl⟩
      have hbU : Below w4.heap.size w4 U := by rw [hU]; exact belowAlloc w4 _
      have hu0 : U.heap[w4.heap.size]? = some (.cells #[.pointer p4] 26 (0, 0)) := by rw [hU]; exact heap_alloc_new w4 _
      have k4 := cell_of_one hu0
      have HD4 := Lib.hid (Drop_any U p4 (put T s 9) s (h4.up hbU) (by have := cnt_put T s 9; have := HT.out.1; omega))
      rw [put_drop HT.out.2.1, ← HT.out.2.2.1, ← HX.out] at HD4
      have H4 := Lib.hid (And.intro (H3.out.1.up (belowTrans hb4 hbU)) (And.intro (H3.out.2.1.up (belowTrans hb4 hbU)) (belowTrans H3.out.2.2 (belowTrans hb4 hbU))))
      have HU := Lib.hid hU
      clear hU hbU hu0 h4 hb4 H3
      go_wp2_with fail
      rw [← HU.out]
      go_wp2_with fail
      refine HD4.out.mono ?_
      rintro e w5 ⟨p5, rfl, h5, hb5⟩
      clear HD4 k4 HU
      obtain ⟨V, hV⟩ : ∃ V, V = w5.alloc (.cells #[.pointer p5] 26) := ⟨_, rfl⟩
      have hbV : Below w5.heap.size w5 V := by rw [hV]; exact belowAlloc w5 _
      have hv0 : V.heap[w5.heap.size]? = some (.cells #[.pointer p5] 26 (0, 0)) := by rw [hV]; exact heap_alloc_new w5 _
      obtain ⟨J, hJ⟩ : ∃ J, J = w5.heap.size := ⟨_, rfl⟩
      rw [← hJ] at hv0
      have H5 := Lib.hid (And.intro (H4.out.1.up (belowTrans hb5 hbV)) (And.intro (H4.out.2.1.up (belowTrans hb5 hbV)) (And.intro (belowTrans H4.out.2.2 (belowTrans hb5 hbV)) (And.intro hv0 (h5.up hbV)))))
      have k0 := cell_of_one H5.out.1.b0
      rw [hV] at k0
      have hWn := HW.out V H5.out.2.2.1
      unfold RetW at hWn
      rw [← HD.out.2] at hWn
      have HV := Lib.hid (And.intro hV hJ)
      clear hV hbV hv0 h5 hb5 H4 hJ
      go_wp2_with fail
      rw [← HV.out.2, ← HV.out.1]
      clear HV
      refine hWn.mono ?_
      rintro e w6 ⟨a6, c6, rfl, ho6, hb6⟩
      clear hWn k0
      have H6 := Lib.hid (And.intro (H5.out.1.up hb6) (And.intro (H5.out.2.1.up hb6) (And.intro (belowTrans H5.out.2.2.1 hb6) (And.intro (upb hb6 H5.out.2.2.2.1) (H5.out.2.2.2.2.up hb6)))))
      have HS6 := Lib.hid (sameV_any a6 a2 c6 c2 Ln Ln Hd Hd w6 HD.out.2.symm HD.out.2.symm (OwnW.reads (n := Hd.length) (by rw [← HD.out.2]; exact ho6)) H6.out.2.1 (by have := HLx.out; unfold maxLen; omega) true (by simp))
      clear ho6 hb6 H5
      go_wp2_with fail
      refine HS6.out.mono ?_
      rintro e w7 ⟨rfl, q7, rfl⟩
      clear HS6
      obtain ⟨w7, hw7⟩ : ∃ V, V = w6.drewN q7 := ⟨_, rfl⟩
      have hb7 : Below w6.heap.size w6 w7 := by rw [hw7]; exact belowDrewN _ _
      rw [← hw7]
      clear hw7
      have H7 := Lib.hid (And.intro (H6.out.1.up hb7) (And.intro (H6.out.2.1.up hb7) (And.intro (belowTrans H6.out.2.2.1 hb7) (And.intro (upb hb7 H6.out.2.2.2.1) (H6.out.2.2.2.2.up hb7)))))
      clear hb7 H6
      have k5 := cell_of_one H7.out.2.2.2.1
      obtain ⟨H2d, hH2⟩ : ∃ H, H = words T2 [] := ⟨_, rfl⟩
      have hW2 := Words_any w7 p5 T2 140737488351232 H7.out.2.2.2.2 (by have := HT.out.2.2.2.1; unfold most; omega) HT.out.2.2.2.2 (by omega)
      rw [← hH2] at hW2
      unfold RetW at hW2
      obtain ⟨L2, hL2⟩ : ∃ n, n = H2d.length := ⟨_, rfl⟩
      rw [← hL2] at hW2
      have hL2x : L2 ≤ 1048576 := by rw [hL2, hH2, words_len]; have := HT.out.2.2.2.1; omega
      have HD2 := Lib.hid (And.intro hH2 (And.intro hL2 hL2x))
      clear hH2 hL2 hL2x
      go_wp2_with fail
      refine hW2.mono ?_
      rintro e w8 ⟨a8, c8, rfl, ho8, hb8⟩
      clear hW2 k5
      have H8 := Lib.hid (And.intro (H7.out.1.up hb8) (And.intro (H7.out.2.1.up hb8) (And.intro (belowTrans H7.out.2.2.1 hb8) (And.intro (upb hb8 H7.out.2.2.2.1) (H7.out.2.2.2.2.up hb8)))))
      obtain ⟨tw, htw⟩ : ∃ b, b = decide (H2d = Hd) := ⟨_, rfl⟩
      have HS8 := Lib.hid (sameV_any a8 a2 c8 c2 L2 Ln H2d Hd w8 HD2.out.2.1.symm HD.out.2.symm (OwnW.reads (n := H2d.length) (by rw [← HD2.out.2.1]; exact ho8)) H8.out.2.1 (by have := HD2.out.2.2; unfold maxLen; omega) tw htw.symm)
      have Htw := Lib.hid htw
      clear ho8 hb8 H7 htw
      go_wp2_with fail
      refine HS8.out.mono ?_
      rintro e w9 ⟨rfl, q9, rfl⟩
      clear HS8
      obtain ⟨w9, hw9⟩ : ∃ V, V = w8.drewN q9 := ⟨_, rfl⟩
      have hb9 : Below w8.heap.size w8 w9 := by rw [hw9]; exact belowDrewN _ _
      rw [← hw9]
      clear hw9
      have H9 := Lib.hid (And.intro (H8.out.1.up hb9) (And.intro (H8.out.2.2.1.trans (hb9.mono H8.out.2.2.1.size)) (And.intro (upb hb9 H8.out.2.2.2.1) (H8.out.2.2.2.2.up hb9))))
      clear hb9 H8
      have k5 := cell_of_one H9.out.2.2.1
      have HG9 := Lib.hid (Get_any w9 p5 T2 s H9.out.2.2.2 none (by rw [HT.out.2.2.1, get_drop, if_pos rfl]))
      rw [← HX.out] at HG9
      unfold RetV at HG9
      simp only [Option.isSome_none, Option.getD_none] at HG9
      go_wp2_with fail
      refine HG9.out.mono ?_
      rintro e w10 ⟨rfl, hb10⟩
      clear HG9 k5
      have H10 := Lib.hid (And.intro (H9.out.1.up hb10) (And.intro (upb hb10 H9.out.2.2.1) (H9.out.2.2.2.up hb10)))
      clear hb10 H9
      obtain ⟨m2, hm2⟩ : ∃ m, m = cnt T2 := ⟨_, rfl⟩
      have k0 := cell_of_one H10.out.1.b0
      have k5 := cell_of_one H10.out.2.1
      have HL2 := Lib.hid (fun W (q : Option Addr) (h : In W T2 q) => Len_any W q T2 h)
      rw [← hm2] at HL2
      have HDr := Lib.hid (fun W (hW : Below w10.heap.size w10 W) => Drop_any W p T s (H10.out.1.h0.up hW) (by have := HT.out.1; omega))
      rw [← HT.out.2.2.1, ← HX.out] at HDr
      have HK := Lib.hid (And.intro k0 k5)
      have Hor : Hid (hs = false → tw = true) := Lib.hid fun e => by
        rw [Htw.out, HD2.out.1, HD.out.1, HT.out.2.2.1, drop_no HT.out.2.1 (by have h := HH.out; rw [e, Hg.out] at h; cases h2 : get T s with | none => rfl | some x => rw [h2] at h; cases h)]
        simp
      clear hm2 k0 k5
      cases hs with
      | false =>
        obtain rfl : tw = true := Hor.out rfl
        clear Hor
        go_wp2_with fail
        refine grow.wp_grow [grow.kEq (.bool true), grow.kEq (.bool true), grow.kEq (.bool false), grow.kEq (.bool true), grow.kEq (.bool true), grow.kEq (.bool true), grow.kEq (.bool false), grow.kEq (.bool false), grow.kEq (.bool true), grow.kEq (.bool true), grow.kEq (.bool true), grow.kEq (.bool true), grow.kEq (.agg #[.pointer p5]), grow.kEq (.int .i64 (m2 : Nat)), grow.kEq (.agg #[.pointer p]), grow.kEq (xs), kTrieV T2, grow.kEq (.int .i64 (m2 : Nat)), grow.kEq (.bool true), grow.kEq (.bool true), grow.kEq (.bool true)] (by kernel_rfl) (by kernel_rfl) (by kernel_rfl) (by kernel_rfl) ?step ?fin
        case step =>
          refine grow.Each.cons ?_ ?_
          · intro A W hB hs hJ K hK
            have s0 := hs 13 (by kernel_rfl)
            simp at s0
            rw [if_pos (by rfl)]
            clear hs hJ
            go_simp
            exact hK _ _ (Below.refl _ _) rfl
          refine grow.Each.cons ?_ ?_
          · intro A W hB hs hJ K hK
            have s0 : A.tmps.getD 61 undef = .bool true := hJ 0 61 (by kernel_rfl) (by kernel_rfl)
            simp at s0
            rw [if_pos (by rfl)]
            clear hs hJ
            go_simp
            exact hK _ _ (Below.refl _ _) rfl
          refine grow.Each.cons ?_ ?_
          · intro A W hB hs hJ K hK
            have eg : A.tmps.getD 62 undef = .bool true := hJ 1 62 (by kernel_rfl) (by kernel_rfl)
            have s0 := hs 16 (by kernel_rfl)
            simp at s0
            rw [if_pos (grow.wanted_of (j := 1) (d := 62) (b := true) rfl (by kernel_rfl) eg)]
            clear eg
            clear hs hJ
            go_simp
            exact hK _ _ (Below.refl _ _) rfl
          refine grow.Each.cons ?_ ?_
          · intro A W hB hs hJ K hK
            have eg : A.tmps.getD 62 undef = .bool true := hJ 1 62 (by kernel_rfl) (by kernel_rfl)
            have s0 : A.tmps.getD 63 undef = .bool false := hJ 2 63 (by kernel_rfl) (by kernel_rfl)
            simp at s0
            rw [if_pos (grow.wanted_of (j := 1) (d := 62) (b := true) rfl (by kernel_rfl) eg)]
            clear eg
            clear hs hJ
            go_simp
            exact hK _ _ (Below.refl _ _) rfl
          refine grow.Each.cons ?_ ?_
          · intro A W hB hs hJ K hK
            have s0 : A.tmps.getD 62 undef = .bool true := hJ 1 62 (by kernel_rfl) (by kernel_rfl)
            simp at s0
            have s1 : A.tmps.getD 64 undef = .bool true := hJ 3 64 (by kernel_rfl) (by kernel_rfl)
            simp at s1
            rw [if_pos (by rfl)]
            clear hs hJ
            go_simp
            exact hK _ _ (Below.refl _ _) rfl
          refine grow.Each.cons ?_ ?_
          · intro A W hB hs hJ K hK
            have s0 : A.tmps.getD 65 undef = .bool true := hJ 4 65 (by kernel_rfl) (by kernel_rfl)
            simp at s0
            rw [if_pos (by rfl)]
            clear hs hJ
            go_simp
            exact hK _ _ (Below.refl _ _) rfl
          refine grow.Each.cons ?_ ?_
          · intro A W hB hs hJ K hK
            have eg : A.tmps.getD 66 undef = .bool true := hJ 5 66 (by kernel_rfl) (by kernel_rfl)
            have s0 := hs 10 (by kernel_rfl)
            simp at s0
            rw [if_pos (grow.wanted_of (j := 5) (d := 66) (b := true) rfl (by kernel_rfl) eg)]
            clear eg
            clear hs hJ
            go_simp
            exact hK _ _ (Below.refl _ _) rfl
          refine grow.Each.cons ?_ ?_
          · intro A W hB hs hJ K hK
            have eg : A.tmps.getD 66 undef = .bool true := hJ 5 66 (by kernel_rfl) (by kernel_rfl)
            have s0 : A.tmps.getD 67 undef = .bool false := hJ 6 67 (by kernel_rfl) (by kernel_rfl)
            simp at s0
            rw [if_pos (grow.wanted_of (j := 5) (d := 66) (b := true) rfl (by kernel_rfl) eg)]
            clear eg
            clear hs hJ
            go_simp
            exact hK _ _ (Below.refl _ _) rfl
          refine grow.Each.cons ?_ ?_
          · intro A W hB hs hJ K hK
            have eg : A.tmps.getD 68 undef = .bool false := hJ 7 68 (by kernel_rfl) (by kernel_rfl)
            have s0 := hs 14 (by kernel_rfl)
            simp at s0
            rw [if_pos (grow.wanted_of (j := 7) (d := 68) (b := false) rfl (by kernel_rfl) eg)]
            clear eg
            clear hs hJ
            go_simp
            exact hK _ _ (Below.refl _ _) rfl
          refine grow.Each.cons ?_ ?_
          · intro A W hB hs hJ K hK
            have eg : A.tmps.getD 66 undef = .bool true := hJ 5 66 (by kernel_rfl) (by kernel_rfl)
            have s0 : A.tmps.getD 68 undef = .bool false := hJ 7 68 (by kernel_rfl) (by kernel_rfl)
            simp at s0
            have s1 : A.tmps.getD 69 undef = .bool true := hJ 8 69 (by kernel_rfl) (by kernel_rfl)
            simp at s1
            rw [if_pos (grow.wanted_of (j := 5) (d := 66) (b := true) rfl (by kernel_rfl) eg)]
            clear eg
            clear hs hJ
            go_simp
            exact hK _ _ (Below.refl _ _) rfl
          refine grow.Each.cons ?_ ?_
          · intro A W hB hs hJ K hK
            have s0 : A.tmps.getD 66 undef = .bool true := hJ 5 66 (by kernel_rfl) (by kernel_rfl)
            simp at s0
            have s1 : A.tmps.getD 70 undef = .bool true := hJ 9 70 (by kernel_rfl) (by kernel_rfl)
            simp at s1
            rw [if_pos (by rfl)]
            clear hs hJ
            go_simp
            exact hK _ _ (Below.refl _ _) rfl
          refine grow.Each.cons ?_ ?_
          · intro A W hB hs hJ K hK
            have s0 : A.tmps.getD 71 undef = .bool true := hJ 10 71 (by kernel_rfl) (by kernel_rfl)
            simp at s0
            rw [if_pos (by rfl)]
            clear hs hJ
            go_simp
            exact hK _ _ (Below.refl _ _) rfl
          refine grow.Each.cons ?_ ?_
          · intro A W hB hs hJ K hK
            have eg : A.tmps.getD 72 undef = .bool true := hJ 11 72 (by kernel_rfl) (by kernel_rfl)
            have s0 := hs 12 (by kernel_rfl)
            simp at s0
            have kk := upc hB HK.out.2
            rw [if_pos (grow.wanted_of (j := 11) (d := 72) (b := true) rfl (by kernel_rfl) eg)]
            clear eg
            clear hs hJ
            go_simp
            exact hK _ _ (Below.refl _ _) rfl
          refine grow.Each.cons ?_ ?_
          · intro A W hB hs hJ K hK
            have eg : A.tmps.getD 72 undef = .bool true := hJ 11 72 (by kernel_rfl) (by kernel_rfl)
            have s0 : A.tmps.getD 73 undef = .agg #[.pointer p5] := hJ 12 73 (by kernel_rfl) (by kernel_rfl)
            simp at s0
            rw [if_pos (grow.wanted_of (j := 11) (d := 72) (b := true) rfl (by kernel_rfl) eg)]
            clear eg
            clear hs hJ
            go_simp
            go_at_call 13
            refine (HL2.out W p5 (H10.out.2.2.up hB)).mono ?_
            rintro e W2 ⟨rfl, hbl⟩
            exact hK _ _ hbl rfl
          refine grow.Each.cons ?_ ?_
          · intro A W hB hs hJ K hK
            have eg : A.tmps.getD 72 undef = .bool true := hJ 11 72 (by kernel_rfl) (by kernel_rfl)
            have s0 := hs 6 (by kernel_rfl)
            simp at s0
            have kk := upc hB HK.out.1
            rw [if_pos (grow.wanted_of (j := 11) (d := 72) (b := true) rfl (by kernel_rfl) eg)]
            clear eg
            clear hs hJ
            go_simp
            exact hK _ _ (Below.refl _ _) rfl
          refine grow.Each.cons ?_ ?_
          · intro A W hB hs hJ K hK
            have eg : A.tmps.getD 72 undef = .bool true := hJ 11 72 (by kernel_rfl) (by kernel_rfl)
            have s0 := hs 1 (by kernel_rfl)
            simp at s0
            rw [if_pos (grow.wanted_of (j := 11) (d := 72) (b := true) rfl (by kernel_rfl) eg)]
            clear eg
            clear hs hJ
            go_simp
            exact hK _ _ (Below.refl _ _) rfl
          refine grow.Each.cons ?_ ?_
          · intro A W hB hs hJ K hK
            have eg : A.tmps.getD 72 undef = .bool true := hJ 11 72 (by kernel_rfl) (by kernel_rfl)
            have s0 : A.tmps.getD 75 undef = .agg #[.pointer p] := hJ 14 75 (by kernel_rfl) (by kernel_rfl)
            simp at s0
            have s1 : A.tmps.getD 76 undef = xs := hJ 15 76 (by kernel_rfl) (by kernel_rfl)
            simp at s1
            rw [if_pos (grow.wanted_of (j := 11) (d := 72) (b := true) rfl (by kernel_rfl) eg)]
            clear eg
            clear hs hJ
            go_simp
            go_at_call 17
            refine (HDr.out W hB).mono ?_
            rintro e W2 ⟨pd, rfl, hd, hbd⟩
            exact hK _ _ hbd ⟨pd, rfl, hd⟩
          refine grow.Each.cons ?_ ?_
          · intro A W hB hs hJ K hK
            have eg : A.tmps.getD 72 undef = .bool true := hJ 11 72 (by kernel_rfl) (by kernel_rfl)
            obtain ⟨pd, s0, hd⟩ := hJ 16 77 (by kernel_rfl) (by kernel_rfl)
            simp at s0
            rw [if_pos (grow.wanted_of (j := 11) (d := 72) (b := true) rfl (by kernel_rfl) eg)]
            clear eg
            clear hs hJ
            go_simp
            go_at_call 13
            refine (HL2.out W pd hd).mono ?_
            rintro e W2 ⟨rfl, hbl⟩
            exact hK _ _ hbl rfl
          refine grow.Each.cons ?_ ?_
          · intro A W hB hs hJ K hK
            have eg : A.tmps.getD 72 undef = .bool true := hJ 11 72 (by kernel_rfl) (by kernel_rfl)
            have s0 : A.tmps.getD 74 undef = .int .i64 (m2 : Nat) := hJ 13 74 (by kernel_rfl) (by kernel_rfl)
            simp at s0
            have s1 : A.tmps.getD 78 undef = .int .i64 (m2 : Nat) := hJ 17 78 (by kernel_rfl) (by kernel_rfl)
            simp at s1
            rw [if_pos (grow.wanted_of (j := 11) (d := 72) (b := true) rfl (by kernel_rfl) eg)]
            clear eg
            clear hs hJ
            go_simp
            exact hK _ _ (Below.refl _ _) rfl
          refine grow.Each.cons ?_ ?_
          · intro A W hB hs hJ K hK
            have s0 : A.tmps.getD 72 undef = .bool true := hJ 11 72 (by kernel_rfl) (by kernel_rfl)
            simp at s0
            have s1 : A.tmps.getD 79 undef = .bool true := hJ 18 79 (by kernel_rfl) (by kernel_rfl)
            simp at s1
            rw [if_pos (by rfl)]
            clear hs hJ
            go_simp
            exact hK _ _ (Below.refl _ _) rfl
          refine grow.Each.cons ?_ ?_
          · intro A W hB hs hJ K hK
            have s0 : A.tmps.getD 80 undef = .bool true := hJ 19 80 (by kernel_rfl) (by kernel_rfl)
            simp at s0
            rw [if_pos (by rfl)]
            clear hs hJ
            go_simp
            exact hK _ _ (Below.refl _ _) rfl
          exact grow.Each.nil
        case fin =>
          intro f W hB hF
          have f0 : f 0 = .bool true := hF 0 (by decide)
          have f1 : f 1 = .bool true := hF 1 (by decide)
          have f2 : f 2 = .bool false := hF 2 (by decide)
          have f3 : f 3 = .bool true := hF 3 (by decide)
          have f4 : f 4 = .bool true := hF 4 (by decide)
          have f5 : f 5 = .bool true := hF 5 (by decide)
          have f6 : f 6 = .bool false := hF 6 (by decide)
          have f7 : f 7 = .bool false := hF 7 (by decide)
          have f8 : f 8 = .bool true := hF 8 (by decide)
          have f9 : f 9 = .bool true := hF 9 (by decide)
          have f10 : f 10 = .bool true := hF 10 (by decide)
          have f11 : f 11 = .bool true := hF 11 (by decide)
          have f12 : f 12 = .agg #[.pointer p5] := hF 12 (by decide)
          have f13 : f 13 = .int .i64 (m2 : Nat) := hF 13 (by decide)
          have f14 : f 14 = .agg #[.pointer p] := hF 14 (by decide)
          have f15 : f 15 = xs := hF 15 (by decide)
          obtain ⟨pd_16, f16, -⟩ := hF 16 (by decide)
          have f17 : f 17 = .int .i64 (m2 : Nat) := hF 17 (by decide)
          have f18 : f 18 = .bool true := hF 18 (by decide)
          have f19 : f 19 = .bool true := hF 19 (by decide)
          have f20 : f 20 = .bool true := hF 20 (by decide)
          clear hF
          generalize hA : grow.puts _ _ f _ = A'
          simp only [List.length_cons, List.length_nil, Nat.reduceAdd, grow.puts, Act.put, List.getElem?_toArray, List.getElem?_cons_zero, List.getElem?_cons_succ, Option.bind_some, List.setIfInBounds_toArray, List.set_cons_zero, List.set_cons_succ, f0, f1, f2, f3, f4, f5, f6, f7, f8, f9, f10, f11, f12, f13, f14, f15, f16, f17, f18, f19, f20] at hA
          subst hA
          have HF := Lib.hid (H10.out.1.up hB).bel
          clear hB
          go_wp2_with fail
          go_ret
          exact ⟨rfl, HF.out⟩
      | true =>
        clear Hor
        go_wp2_with fail
        refine grow.wp_grow [grow.kEq (.bool true), grow.kEq (.bool true), grow.kEq (.bool false), grow.kEq (.bool true), grow.kEq (.bool true), grow.kEq (.bool true), grow.kEq (.bool true), grow.kEq (.bool true), grow.kEq (undef), grow.kEq (.bool true), grow.kEq (.bool true), grow.kEq (.bool true), grow.kEq (.agg #[.pointer p5]), grow.kEq (.int .i64 (m2 : Nat)), grow.kEq (.agg #[.pointer p]), grow.kEq (xs), kTrieV T2, grow.kEq (.int .i64 (m2 : Nat)), grow.kEq (.bool true), grow.kEq (.bool true), grow.kEq (.bool true)] (by kernel_rfl) (by kernel_rfl) (by kernel_rfl) (by kernel_rfl) ?step ?fin
        case step =>
          refine grow.Each.cons ?_ ?_
          · intro A W hB hs hJ K hK
            have s0 := hs 13 (by kernel_rfl)
            simp at s0
            rw [if_pos (by rfl)]
            clear hs hJ
            go_simp
            exact hK _ _ (Below.refl _ _) rfl
          refine grow.Each.cons ?_ ?_
          · intro A W hB hs hJ K hK
            have s0 : A.tmps.getD 61 undef = .bool true := hJ 0 61 (by kernel_rfl) (by kernel_rfl)
            simp at s0
            rw [if_pos (by rfl)]
            clear hs hJ
            go_simp
            exact hK _ _ (Below.refl _ _) rfl
          refine grow.Each.cons ?_ ?_
          · intro A W hB hs hJ K hK
            have eg : A.tmps.getD 62 undef = .bool true := hJ 1 62 (by kernel_rfl) (by kernel_rfl)
            have s0 := hs 16 (by kernel_rfl)
            simp at s0
            rw [if_pos (grow.wanted_of (j := 1) (d := 62) (b := true) rfl (by kernel_rfl) eg)]
            clear eg
            clear hs hJ
            go_simp
            exact hK _ _ (Below.refl _ _) rfl
          refine grow.Each.cons ?_ ?_
          · intro A W hB hs hJ K hK
            have eg : A.tmps.getD 62 undef = .bool true := hJ 1 62 (by kernel_rfl) (by kernel_rfl)
            have s0 : A.tmps.getD 63 undef = .bool false := hJ 2 63 (by kernel_rfl) (by kernel_rfl)
            simp at s0
            rw [if_pos (grow.wanted_of (j := 1) (d := 62) (b := true) rfl (by kernel_rfl) eg)]
            clear eg
            clear hs hJ
            go_simp
            exact hK _ _ (Below.refl _ _) rfl
          refine grow.Each.cons ?_ ?_
          · intro A W hB hs hJ K hK
            have s0 : A.tmps.getD 62 undef = .bool true := hJ 1 62 (by kernel_rfl) (by kernel_rfl)
            simp at s0
            have s1 : A.tmps.getD 64 undef = .bool true := hJ 3 64 (by kernel_rfl) (by kernel_rfl)
            simp at s1
            rw [if_pos (by rfl)]
            clear hs hJ
            go_simp
            exact hK _ _ (Below.refl _ _) rfl
          refine grow.Each.cons ?_ ?_
          · intro A W hB hs hJ K hK
            have s0 : A.tmps.getD 65 undef = .bool true := hJ 4 65 (by kernel_rfl) (by kernel_rfl)
            simp at s0
            rw [if_pos (by rfl)]
            clear hs hJ
            go_simp
            exact hK _ _ (Below.refl _ _) rfl
          refine grow.Each.cons ?_ ?_
          · intro A W hB hs hJ K hK
            have eg : A.tmps.getD 66 undef = .bool true := hJ 5 66 (by kernel_rfl) (by kernel_rfl)
            have s0 := hs 10 (by kernel_rfl)
            simp at s0
            rw [if_pos (grow.wanted_of (j := 5) (d := 66) (b := true) rfl (by kernel_rfl) eg)]
            clear eg
            clear hs hJ
            go_simp
            exact hK _ _ (Below.refl _ _) rfl
          refine grow.Each.cons ?_ ?_
          · intro A W hB hs hJ K hK
            have eg : A.tmps.getD 66 undef = .bool true := hJ 5 66 (by kernel_rfl) (by kernel_rfl)
            have s0 : A.tmps.getD 67 undef = .bool true := hJ 6 67 (by kernel_rfl) (by kernel_rfl)
            simp at s0
            rw [if_pos (grow.wanted_of (j := 5) (d := 66) (b := true) rfl (by kernel_rfl) eg)]
            clear eg
            clear hs hJ
            go_simp
            exact hK _ _ (Below.refl _ _) rfl
          refine grow.Each.cons ?_ ?_
          · intro A W hB hs hJ K hK
            have eg : A.tmps.getD 68 undef = .bool true := hJ 7 68 (by kernel_rfl) (by kernel_rfl)
            rw [if_neg (grow.unwanted_of (j := 7) (d := 68) (b := false) (c := true) rfl (by kernel_rfl) eg (by decide))]
            exact hK _ _ (Below.refl _ _) rfl
          refine grow.Each.cons ?_ ?_
          · intro A W hB hs hJ K hK
            have eg : A.tmps.getD 66 undef = .bool true := hJ 5 66 (by kernel_rfl) (by kernel_rfl)
            have s0 : A.tmps.getD 68 undef = .bool true := hJ 7 68 (by kernel_rfl) (by kernel_rfl)
            simp at s0
            have s1 : A.tmps.getD 69 undef = undef := hJ 8 69 (by kernel_rfl) (by kernel_rfl)
            simp at s1
            rw [if_pos (grow.wanted_of (j := 5) (d := 66) (b := true) rfl (by kernel_rfl) eg)]
            clear eg
            clear hs hJ
            go_simp
            exact hK _ _ (Below.refl _ _) rfl
          refine grow.Each.cons ?_ ?_
          · intro A W hB hs hJ K hK
            have s0 : A.tmps.getD 66 undef = .bool true := hJ 5 66 (by kernel_rfl) (by kernel_rfl)
            simp at s0
            have s1 : A.tmps.getD 70 undef = .bool true := hJ 9 70 (by kernel_rfl) (by kernel_rfl)
            simp at s1
            rw [if_pos (by rfl)]
            clear hs hJ
            go_simp
            exact hK _ _ (Below.refl _ _) rfl
          refine grow.Each.cons ?_ ?_
          · intro A W hB hs hJ K hK
            have s0 : A.tmps.getD 71 undef = .bool true := hJ 10 71 (by kernel_rfl) (by kernel_rfl)
            simp at s0
            rw [if_pos (by rfl)]
            clear hs hJ
            go_simp
            exact hK _ _ (Below.refl _ _) rfl
          refine grow.Each.cons ?_ ?_
          · intro A W hB hs hJ K hK
            have eg : A.tmps.getD 72 undef = .bool true := hJ 11 72 (by kernel_rfl) (by kernel_rfl)
            have s0 := hs 12 (by kernel_rfl)
            simp at s0
            have kk := upc hB HK.out.2
            rw [if_pos (grow.wanted_of (j := 11) (d := 72) (b := true) rfl (by kernel_rfl) eg)]
            clear eg
            clear hs hJ
            go_simp
            exact hK _ _ (Below.refl _ _) rfl
          refine grow.Each.cons ?_ ?_
          · intro A W hB hs hJ K hK
            have eg : A.tmps.getD 72 undef = .bool true := hJ 11 72 (by kernel_rfl) (by kernel_rfl)
            have s0 : A.tmps.getD 73 undef = .agg #[.pointer p5] := hJ 12 73 (by kernel_rfl) (by kernel_rfl)
            simp at s0
            rw [if_pos (grow.wanted_of (j := 11) (d := 72) (b := true) rfl (by kernel_rfl) eg)]
            clear eg
            clear hs hJ
            go_simp
            go_at_call 13
            refine (HL2.out W p5 (H10.out.2.2.up hB)).mono ?_
            rintro e W2 ⟨rfl, hbl⟩
            exact hK _ _ hbl rfl
          refine grow.Each.cons ?_ ?_
          · intro A W hB hs hJ K hK
            have eg : A.tmps.getD 72 undef = .bool true := hJ 11 72 (by kernel_rfl) (by kernel_rfl)
            have s0 := hs 6 (by kernel_rfl)
            simp at s0
            have kk := upc hB HK.out.1
            rw [if_pos (grow.wanted_of (j := 11) (d := 72) (b := true) rfl (by kernel_rfl) eg)]
            clear eg
            clear hs hJ
            go_simp
            exact hK _ _ (Below.refl _ _) rfl
          refine grow.Each.cons ?_ ?_
          · intro A W hB hs hJ K hK
            have eg : A.tmps.getD 72 undef = .bool true := hJ 11 72 (by kernel_rfl) (by kernel_rfl)
            have s0 := hs 1 (by kernel_rfl)
            simp at s0
            rw [if_pos (grow.wanted_of (j := 11) (d := 72) (b := true) rfl (by kernel_rfl) eg)]
            clear eg
            clear hs hJ
            go_simp
            exact hK _ _ (Below.refl _ _) rfl
          refine grow.Each.cons ?_ ?_
          · intro A W hB hs hJ K hK
            have eg : A.tmps.getD 72 undef = .bool true := hJ 11 72 (by kernel_rfl) (by kernel_rfl)
            have s0 : A.tmps.getD 75 undef = .agg #[.pointer p] := hJ 14 75 (by kernel_rfl) (by kernel_rfl)
            simp at s0
            have s1 : A.tmps.getD 76 undef = xs := hJ 15 76 (by kernel_rfl) (by kernel_rfl)
            simp at s1
            rw [if_pos (grow.wanted_of (j := 11) (d := 72) (b := true) rfl (by kernel_rfl) eg)]
            clear eg
            clear hs hJ
            go_simp
            go_at_call 17
            refine (HDr.out W hB).mono ?_
            rintro e W2 ⟨pd, rfl, hd, hbd⟩
            exact hK _ _ hbd ⟨pd, rfl, hd⟩
          refine grow.Each.cons ?_ ?_
          · intro A W hB hs hJ K hK
            have eg : A.tmps.getD 72 undef = .bool true := hJ 11 72 (by kernel_rfl) (by kernel_rfl)
            obtain ⟨pd, s0, hd⟩ := hJ 16 77 (by kernel_rfl) (by kernel_rfl)
            simp at s0
            rw [if_pos (grow.wanted_of (j := 11) (d := 72) (b := true) rfl (by kernel_rfl) eg)]
            clear eg
            clear hs hJ
            go_simp
            go_at_call 13
            refine (HL2.out W pd hd).mono ?_
            rintro e W2 ⟨rfl, hbl⟩
            exact hK _ _ hbl rfl
          refine grow.Each.cons ?_ ?_
          · intro A W hB hs hJ K hK
            have eg : A.tmps.getD 72 undef = .bool true := hJ 11 72 (by kernel_rfl) (by kernel_rfl)
            have s0 : A.tmps.getD 74 undef = .int .i64 (m2 : Nat) := hJ 13 74 (by kernel_rfl) (by kernel_rfl)
            simp at s0
            have s1 : A.tmps.getD 78 undef = .int .i64 (m2 : Nat) := hJ 17 78 (by kernel_rfl) (by kernel_rfl)
            simp at s1
            rw [if_pos (grow.wanted_of (j := 11) (d := 72) (b := true) rfl (by kernel_rfl) eg)]
            clear eg
            clear hs hJ
            go_simp
            exact hK _ _ (Below.refl _ _) rfl
          refine grow.Each.cons ?_ ?_
          · intro A W hB hs hJ K hK
            have s0 : A.tmps.getD 72 undef = .bool true := hJ 11 72 (by kernel_rfl) (by kernel_rfl)
            simp at s0
            have s1 : A.tmps.getD 79 undef = .bool true := hJ 18 79 (by kernel_rfl) (by kernel_rfl)
            simp at s1
            rw [if_pos (by rfl)]
            clear hs hJ
            go_simp
            exact hK _ _ (Below.refl _ _) rfl
          refine grow.Each.cons ?_ ?_
          · intro A W hB hs hJ K hK
            have s0 : A.tmps.getD 80 undef = .bool true := hJ 19 80 (by kernel_rfl) (by kernel_rfl)
            simp at s0
            rw [if_pos (by rfl)]
            clear hs hJ
            go_simp
            exact hK _ _ (Below.refl _ _) rfl
          exact grow.Each.nil
        case fin =>
          intro f W hB hF
          have f0 : f 0 = .bool true := hF 0 (by decide)
          have f1 : f 1 = .bool true := hF 1 (by decide)
          have f2 : f 2 = .bool false := hF 2 (by decide)
          have f3 : f 3 = .bool true := hF 3 (by decide)
          have f4 : f 4 = .bool true := hF 4 (by decide)
          have f5 : f 5 = .bool true := hF 5 (by decide)
          have f6 : f 6 = .bool true := hF 6 (by decide)
          have f7 : f 7 = .bool true := hF 7 (by decide)
          have f8 : f 8 = undef := hF 8 (by decide)
          have f9 : f 9 = .bool true := hF 9 (by decide)
          have f10 : f 10 = .bool true := hF 10 (by decide)
          have f11 : f 11 = .bool true := hF 11 (by decide)
          have f12 : f 12 = .agg #[.pointer p5] := hF 12 (by decide)
          have f13 : f 13 = .int .i64 (m2 : Nat) := hF 13 (by decide)
          have f14 : f 14 = .agg #[.pointer p] := hF 14 (by decide)
          have f15 : f 15 = xs := hF 15 (by decide)
          obtain ⟨pd_16, f16, -⟩ := hF 16 (by decide)
          have f17 : f 17 = .int .i64 (m2 : Nat) := hF 17 (by decide)
          have f18 : f 18 = .bool true := hF 18 (by decide)
          have f19 : f 19 = .bool true := hF 19 (by decide)
          have f20 : f 20 = .bool true := hF 20 (by decide)
          clear hF
          generalize hA : grow.puts _ _ f _ = A'
          simp only [List.length_cons, List.length_nil, Nat.reduceAdd, grow.puts, Act.put, List.getElem?_toArray, List.getElem?_cons_zero, List.getElem?_cons_succ, Option.bind_some, List.setIfInBounds_toArray, List.set_cons_zero, List.set_cons_succ, f0, f1, f2, f3, f4, f5, f6, f7, f8, f9, f10, f11, f12, f13, f14, f15, f16, f17, f18, f19, f20] at hA
          subst hA
          have HF := Lib.hid (H10.out.1.up hB).bel
          clear hB
          go_wp2_with fail
          go_ret
          exact ⟨rfl, HF.out⟩
theorem stays_any (a : Option Addr) (c : Nat) (l : List Wd) (s : Wd) (w : World) (hb : l.length ≤ 1048576 ∧ ∀ x ∈ l, x.length ≤ 1048576) (hr : ReadsS w a l) (hs : s.length ≤ 140737488351232) :
    Calls Try.prog 6 #[.slice a l.length c, sv s] w (Yes w) := stays_law a c l.length l s w rfl hb.1 hb.2 hs hr
end Go.Proofs.Yteglhcpochcopaa.trie
