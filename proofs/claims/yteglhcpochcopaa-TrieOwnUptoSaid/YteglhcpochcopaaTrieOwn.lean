/- What is told is the asker's: tries. -/
import Derived.Test.YteglhcpochcopaaTrieFi
import Derived.Test.YteglhcpochcopaaFillR
import Derived.Test.YteglhcpochcopaaAppRow
import Derived.Deep.RegionWith
namespace Go.Proofs.Yteglhcpochcopaa.trie
open Go.RowKit

theorem one_len : cnt (put .nil [97] 1) = 1 := by rw [cnt_put_eq, get_nil, cnt_nil]; rfl
set_option maxRecDepth 100000 in
set_option maxHeartbeats 16000000 in
theorem owns (a : Option Addr) (c n : Nat) (l : List Wd) (s : Wd) (w : World) (hn : l.length = n) (hb : n ≤ 1048576) (hl : ∀ x ∈ l, x.length ≤ 1048576) (hr : ReadsS w a l) :
    Calls Try.prog 4 #[.slice a n c, sv s] w (Yes w) := by
  have HA := Lib.hid (And.intro hn (And.intro hr hl))
  obtain ⟨xs, hxs⟩ : ∃ xs, xs = bw s := ⟨_, rfl⟩
  rw [sv_bw, ← hxs]
  obtain ⟨i0, hi1, hz0, hz1, hz2⟩ := info_parts infoW
  have Hi := Lib.hid (And.intro hi1 (And.intro hz0 (And.intro hz1 hz2)))
  obtain ⟨G, hG⟩ : ∃ G, G = w.heap.size := ⟨_, rfl⟩
  have hst0 : St w G .nil none (w.alloc (.cells #[.pointer none] 26)) := by rw [hG]; exact ⟨belowAlloc w _, Nat.le_refl _, heap_alloc_new w _, rfl⟩
  have hP1 : Calls Try.prog 9 #[.agg #[.pointer none], .string { data := #[97] }, .int .i64 1] (w.alloc (.cells #[.pointer none] 26)) (RetM (w.alloc (.cells #[.pointer none] 26)) (put .nil [97] 1)) := Put_any _ none .nil [97] 1 rfl (by rw [cnt_nil]; decide)
  have HP1 := Lib.hid (And.intro hP1 hst0)
  have HG := Lib.hid hG
  clear hn hr hl hxs hi1 hz0 hz1 hz2 hP1 hst0 hG
  go_enter Try.func4, Try.ntmps4
  go_wp2_with fail
  refine HP1.out.1.mono ?_
  rintro e w1 ⟨p1, rfl, hp1, hb1⟩
  have HL := Lib.hid (Len_any w1 p1 _ hp1)
  rw [one_len, show ((1 : Nat) : Int) = 1 from rfl] at HL
  have HB1 := Lib.hid (HP1.out.2.up hb1)
  clear hp1 hb1 HP1
  go_wp2_with fail
  refine HL.out.mono ?_
  rintro e w2 ⟨rfl, hb2⟩
  have HI : Hid (∃ p, St w G (fillN l 0) p w2) := Lib.hid ⟨none, HB1.out.up hb2⟩
  clear hb2 HB1 HL
  go_wp2_with fail
  rw [← HG.out]
  go_loopw [6] (fun iv wr => ∃ j : Nat, iv = .int .i64 j ∧ j ≤ n ∧ Hid (∃ p, St w G (fillN l j) p wr)) (fun iv _ => n - (intOf iv).toNat)
  case atStart => exact ⟨0, rfl, Nat.zero_le _, HI⟩
  case round =>
    obtain ⟨j, rfl, hj, HS⟩ := hrel
    have j0 : (0 : Int) ≤ (j : Int) := by omega
    clear HI
    rcases Nat.lt_or_ge j n with hlt | hge
    · obtain ⟨p, hst⟩ := HS.out
      obtain ⟨ab, ao, rfl, hcell⟩ := HA.out.2.1.at (j := j) (by rw [HA.out.1]; exact hlt)
      have hlt' : (j : Int) < (n : Int) := by omega
      have hw1 : IntKind.i64.wrap ((j : Int) + 1) = (j : Int) + 1 := IntWalk.i64_in _ (by omega)
      have k0 := cell_of_one hst.b0
      obtain ⟨y, hy⟩ : ∃ y, y = l.getD j [] := ⟨_, rfl⟩
      have hk1 := upc hst.bel hcell
      rw [← hy] at hk1
      have HP := Lib.hid (fun W (hW : Below wr.heap.size wr W) => Put_any W p (fillN l j) y (j : Int) (hst.h0.up hW) (by have := fillN_cnt l j; omega))
      obtain ⟨ys, hys⟩ : ∃ ys, ys = sv y := ⟨_, rfl⟩
      rw [← hys] at HP hk1
      have HST := Lib.hid hst
      have HY := Lib.hid hy
      have HC := Lib.hid (And.intro k0 hk1)
      clear hst hcell hy hys HS
      go_wp2_with fail
      refine grow.wp_grow_last 7 _ [grow.kEq (.agg #[.pointer p]), grow.kEq (.slice (some ⟨ab, ao, none⟩) n c), grow.kEq (.int .i64 (j : Nat)), grow.kEq (.pointer (some ⟨ab, ao + j, none⟩)), grow.kEq (ys), grow.kEq (.int .i64 (j : Nat)), kTrieV (put (fillN l j) y (j : Int))] rfl rfl rfl (by kernel_rfl) (by kernel_rfl) (by kernel_rfl) (by kernel_rfl) (by kernel_rfl) ?step ?fin
      case step =>
        refine grow.EachL.cons ?_ ?_
        · intro A W hB hs hJ K hK
          have s0 := hs 5 (by kernel_rfl)
          simp at s0
          have kk := upc hB HC.out.1
          rw [if_pos (by rfl)]
          clear hs hJ
          go_simp
          exact hK _ _ (Below.refl _ _) rfl
        refine grow.EachL.cons ?_ ?_
        · intro A W hB hs hJ K hK
          have s0 := hs 0 (by kernel_rfl)
          simp at s0
          rw [if_pos (by rfl)]
          clear hs hJ
          go_simp
          exact hK _ _ (Below.refl _ _) rfl
        refine grow.EachL.cons ?_ ?_
        · intro A W hB hs hJ K hK
          have s0 := hs 6 (by kernel_rfl)
          simp at s0
          rw [if_pos (by rfl)]
          clear hs hJ
          go_simp
          exact hK _ _ (Below.refl _ _) rfl
        refine grow.EachL.cons ?_ ?_
        · intro A W hB hs hJ K hK
          have s0 : A.tmps.getD 24 undef = .slice (some ⟨ab, ao, none⟩) n c := hJ 1 24 (by kernel_rfl) (by kernel_rfl)
          simp at s0
          have s1 : A.tmps.getD 25 undef = .int .i64 (j : Nat) := hJ 2 25 (by kernel_rfl) (by kernel_rfl)
          simp at s1
          rw [if_pos (by rfl)]
          clear hs hJ
          go_simp
          exact hK _ _ (Below.refl _ _) rfl
        refine grow.EachL.cons ?_ ?_
        · intro A W hB hs hJ K hK
          have s0 : A.tmps.getD 26 undef = .pointer (some ⟨ab, ao + j, none⟩) := hJ 3 26 (by kernel_rfl) (by kernel_rfl)
          simp at s0
          have kk := upc hB HC.out.2
          rw [if_pos (by rfl)]
          clear hs hJ
          go_simp
          exact hK _ _ (Below.refl _ _) rfl
        refine grow.EachL.cons ?_ ?_
        · intro A W hB hs hJ K hK
          have s0 := hs 6 (by kernel_rfl)
          simp at s0
          rw [if_pos (by rfl)]
          clear hs hJ
          go_simp
          exact hK _ _ (Below.refl _ _) rfl
        refine grow.EachL.cons ?_ ?_
        · intro A W hB hs hJ K hK
          have s0 : A.tmps.getD 23 undef = .agg #[.pointer p] := hJ 0 23 (by kernel_rfl) (by kernel_rfl)
          simp at s0
          have s1 : A.tmps.getD 27 undef = ys := hJ 4 27 (by kernel_rfl) (by kernel_rfl)
          simp at s1
          have s2 : A.tmps.getD 28 undef = .int .i64 (j : Nat) := hJ 5 28 (by kernel_rfl) (by kernel_rfl)
          simp at s2
          rw [if_pos (by rfl)]
          clear hs hJ
          go_simp
          go_at_call 9
          refine (HP.out W hB).mono ?_
          rintro e W2 ⟨q1, rfl, hq1, hb1⟩
          exact hK _ _ hb1 ⟨q1, rfl, hq1⟩
        exact grow.EachL.nil
      case fin =>
        intro f W hB hF
        have f0 : f 0 = .agg #[.pointer p] := hF 0 (by decide)
        have f1 : f 1 = .slice (some ⟨ab, ao, none⟩) n c := hF 1 (by decide)
        have f2 : f 2 = .int .i64 (j : Nat) := hF 2 (by decide)
        have f3 : f 3 = .pointer (some ⟨ab, ao + j, none⟩) := hF 3 (by decide)
        have f4 : f 4 = ys := hF 4 (by decide)
        have f5 : f 5 = .int .i64 (j : Nat) := hF 5 (by decide)
        obtain ⟨p1_6, f6, h1_6⟩ := hF 6 (by decide)
        clear hF
        intro A hA
        simp only [grow.puts, Act.put, List.getElem?_toArray, List.getElem?_cons_zero, List.getElem?_cons_succ, Option.bind_some, List.setIfInBounds_toArray, List.set_cons_zero, List.set_cons_succ, f0, f1, f2, f3, f4, f5, f6] at hA
        subst hA
        have hs7 := HST.out.up hB
        have c7 := cell_of_one hs7.b0
        have f7 := free_of_one hs7.b0
        have HE2 : Hid (∃ p, St w G (fillN l (j + 1)) p (W.setCell ⟨G, 0, none⟩ (.pointer p1_6))) := Lib.hid ⟨p1_6, by rw [show fillN l (j + 1) = put (fillN l j) (l.getD j []) (j : Int) from rfl, ← HY.out]; exact hs7.set h1_6⟩
        clear hs7 h1_6 hB HST HC HP
        go_simp
        go_wp2_with fail
        go_roundw
        case rel => exact ⟨j + 1, by go_num, hlt, HE2⟩
        case measure => simp [intOf]; omega
    · obtain rfl : n = j := by omega
      obtain ⟨p, hst⟩ := HS.out
      clear HS
      obtain ⟨T, hT⟩ : ∃ T, T = fillN l n := ⟨_, rfl⟩
      rw [← hT] at hst
      have hTc : cnt T ≤ n := by rw [hT]; exact fillN_cnt l n
      have hTo : Ok T := by rw [hT]; exact fillN_ok l n
      have hTl : ∀ u x, get T u = some x → u.length ≤ 140737488351232 := fun u x h => by rw [hT] at h; have := fillN_len HA.out.2.2 (Nat.le_of_eq HA.out.1.symm) h; omega
      have hTd := deep_of hTo hTl
      have k0 := cell_of_one hst.b0
      obtain ⟨Hd, hHd⟩ : ∃ H, H = words T [] := ⟨_, rfl⟩
      obtain ⟨Ln, hLn⟩ : ∃ n, n = Hd.length := ⟨_, rfl⟩
      have hLm : Ln ≤ 1048576 := by rw [hLn, hHd, words_len]; omega
      have HW := Lib.hid (fun W (hW : Below wr.heap.size wr W) => Words_any W p T 140737488351232 (hst.h0.up hW) (by unfold most; omega) hTd (by omega))
      simp only [← hHd] at HW
      unfold RetW at HW
      simp only [← hLn] at HW
      have HUn : Hid (∀ W, Below wr.heap.size wr W → Calls Try.prog 15 #[.agg #[.pointer p], .string { data := #[] }] W (RetW W Hd)) := Lib.hid fun W hW => by rw [hHd]; exact Under_any W p T [] 140737488351232 (hst.h0.up hW) (by unfold most; omega) hTd (by simp)
      unfold RetW at HUn
      simp only [← hLn] at HUn
      have HD := Lib.hid (And.intro hLn hLm)
      have HST := Lib.hid hst
      have kb2 := upc (belowAlloc wr (.cells #[] 29)) k0
      clear hT hTc hTo hTl hTd hst j0 hge hHd hLn k0
      go_wp2_with fail
      refine (HW.out _ (by exact belowAlloc _ _)).mono ?_
      rintro e w5 ⟨a5, c5, rfl, ho5, hb5⟩
      have hbr5 := belowTrans (belowAlloc wr (.cells #[] 29)) hb5
      have hrow : w5.ownsRow wr.heap.size 29 2 (.slice (some ⟨wr.heap.size, 0, none⟩) 0 0) 0 [] := ⟨rfl, .inr ⟨wr.heap.size, 0, #[], rfl, Nat.le_refl _, upb hb5 (heap_alloc_new wr (.cells #[] 29)), Nat.le_refl _, Nat.zero_le _, rfl, rfl⟩⟩
      have Hrow := Lib.hid hrow
      have HT5 := Lib.hid (HST.out.up hbr5)
      have Hb5 := Lib.hid hbr5
      rw [HD.out.1] at ho5
      have hnil : a5 = none → Ln = 0 ∧ c5 = 0 := by
        intro h
        subst h
        obtain ⟨a', c', e, hn, hrd, _⟩ := OwnW.form ho5
        cases e
        refine ⟨?_, hn rfl⟩
        rcases hrd with h | ⟨b, o, h, _⟩
        · rw [HD.out.1, h]; rfl
        · cases h
      have hsome : ∀ ad, a5 = some ad → ∀ j u, (cellsW Hd)[j]? = some u → w5.cell? (ad.add j) = some u := by
        intro ad h
        subst h
        obtain ⟨a', c', e, hn, hrd, hg⟩ := OwnW.form ho5
        cases e
        obtain ⟨g, rfl, _⟩ := hg _ rfl
        intro j u hu
        exact World.ownsRow.cells ho5 rfl j u hu
      have Hnil := Lib.hid hnil
      have Hsome := Lib.hid hsome
      have hsz5 := hbr5.size
      clear hb5 hbr5 hrow ho5 hnil hsome kb2
      go_wp2_with (at_builtin; obtain ⟨hi, hz0, hz1, hz2⟩ := Hi.out; refine wpList_append_row _ rfl (.tmp 30) (.tmp 32) 37 rfl wr.heap.size 29 i0 (.agg #[.string { data := #[] }, .int .i64 0]) 2 24 Try.underlying37 hi hz0 hz1 hz2 rfl (by decide) (.slice (some ⟨wr.heap.size, 0, none⟩) 0 0) 0 [] rfl Hrow.out a5 Ln c5 (cellsW Hd) rfl Hnil.out ?c1 Hsome.out (cellsW_one Hd) ?c2 ?c3 ?c4 ?_)
      case c1 => rw [cellsW_length, HD.out.1]
      case c2 => have := HD.out.2; unfold maxLen; omega
      case c3 => have := HD.out.2; omega
      case c4 => exact hsz5
      intro v8 w6 hown8 hgrow8
      have ho8 : OwnW w6 wr.heap.size v8 Hd := by
        unfold OwnW
        rw [← HD.out.1]
        simpa using hown8
      have hb6 : Below wr.heap.size wr w6 := Below.grown Hb5.out hgrow8 hsz5 (fun k hk => by cases hk; exact Nat.le_refl _)
      obtain ⟨a8, c8, hv8, -⟩ := OwnW.form ho8
      rw [← HD.out.1] at hv8
      subst hv8
      have HT6 := Lib.hid (HST.out.up hb6)
      have HO8 := Lib.hid ho8
      have HW6 := Lib.hid (fun W (hW : Below w6.heap.size w6 W) => HW.out W (belowTrans hb6 hW))
      have HU6 := Lib.hid (fun W (hW : Below w6.heap.size w6 W) => HUn.out W (belowTrans hb6 hW))
      have k0 := cell_of_one HT6.out.b0
      clear hown8 hgrow8 ho8 hb6 HW HUn HT5 HST Hrow Hnil Hsome Hb5 hsz5
      go_wp2_with fail
      refine (HW6.out w6 (Below.refl _ _)).mono ?_
      rintro e w7 ⟨a9, c9, rfl, ho9, hb7⟩
      have HB7 := Lib.hid hb7
      rw [HD.out.1] at ho9
      have hrow9 : w7.ownsRow w6.heap.size 29 2 (.slice a9 Ln c9) Ln (cellsW Hd) := by
        have h := ho9
        unfold OwnW at h
        rw [← HD.out.1] at h
        exact h
      have hblk := OwnW.block ho9
      rw [← HD.out.1] at hblk
      have hat : 0 < Ln → ∃ g, a9 = some ⟨g, 0, none⟩ := by
        intro hm
        rcases hrow9.2 with ⟨h, h0⟩ | ⟨g, cap, cur, e, _⟩
        · omega
        · cases e
          exact ⟨g, rfl⟩
      have HA9 := Lib.hid (And.intro hblk hat)
      have HI9 : Hid (FilledR 29 2 w6.heap.size (.slice a9 Ln c9) Ln w7 w7) := Lib.hid (FilledR.start hrow9)
      have hlm := HD.out.2
      clear hb7 hrow9 hblk hat ho9 k0
      obtain ⟨wo, rfl⟩ : ∃ wo : World, wo = wr := ⟨_, rfl⟩
      go_wp2_with fail
      go_loopw [9] (fun iv wr => ∃ j : Nat, iv = .int .i64 j ∧ j ≤ Ln ∧ Hid (FilledR 29 2 w6.heap.size (.slice a9 Ln c9) Ln w7 wr)) (fun iv _ => Ln - (intOf iv).toNat)
      case atStart => exact ⟨0, rfl, Nat.zero_le _, HI9⟩
      case round =>
        obtain ⟨j, rfl, hj, HG⟩ := hrel
        clear HI9
        by_cases hlj : j < Ln
        · obtain ⟨g, hg⟩ := HA9.out.2 (by omega)
          subst hg
          obtain ⟨u, hc, hf⟩ := HG.out.cell (j * 2) (by omega)
          have HG' := Lib.hid (HG.out.step (j * 2) (.string xs))
          have h0 : (0 : Int) ≤ (j : Int) := by omega
          have h1 : (j : Int) < (Ln : Int) := by omega
          have hw1 : IntKind.i64.wrap ((j : Int) + 1) = (j : Int) + 1 := IntWalk.i64_in _ (by omega)
          go_wp2_with fail
          go_roundw
          case rel => exact ⟨j + 1, by go_num, hlj, HG'⟩
          case measure => simp [intOf]; omega
        · obtain rfl : Ln = j := by omega
          have hb8 := HG.out.old w6 HB7.out (fun b hb => (HA9.out.1 b hb).1)
          have HT8 := Lib.hid (HT6.out.up hb8)
          have HO88 := Lib.hid (OwnW.up HO8.out hb8)
          have HW8 := Lib.hid (fun W (hW : Below wr.heap.size wr W) => HW6.out W (belowTrans hb8 hW))
          have HU8 := Lib.hid (HU6.out wr hb8)
          have k0 := cell_of_one HT8.out.b0
          clear hb8 HG HT6 HO8 HW6 HU6
          obtain ⟨wq, hwq⟩ : ∃ wq : World, wq = wr := ⟨_, rfl⟩
          rw [← hwq] at HT8 HO88 HW8 HU8 k0 ⊢
          clear hwq
          go_wp2_with fail
          refine (HU8.out).mono ?_
          rintro e w7b ⟨a9b, c9b, rfl, ho9, hb7⟩
          have HB7b := Lib.hid hb7
          rw [HD.out.1] at ho9
          have hrow9 : w7b.ownsRow wq.heap.size 29 2 (.slice a9b Ln c9b) Ln (cellsW Hd) := by
            have h := ho9
            unfold OwnW at h
            rw [← HD.out.1] at h
            exact h
          have hblk := OwnW.block ho9
          rw [← HD.out.1] at hblk
          have hat : 0 < Ln → ∃ g, a9b = some ⟨g, 0, none⟩ := by
            intro hm
            rcases hrow9.2 with ⟨h, h0⟩ | ⟨g, cap, cur, e, _⟩
            · omega
            · cases e
              exact ⟨g, rfl⟩
          have HA9b := Lib.hid (And.intro hblk hat)
          have HI9 : Hid (FilledR 29 2 wq.heap.size (.slice a9b Ln c9b) Ln w7b w7b) := Lib.hid (FilledR.start hrow9)
          have hlm := HD.out.2
          clear hb7 hrow9 hblk hat ho9 k0
          obtain ⟨wob, rfl⟩ : ∃ wo : World, wo = wr := ⟨_, rfl⟩
          go_wp2_with fail
          go_loopw [11] (fun iv wr => ∃ j : Nat, iv = .int .i64 j ∧ j ≤ Ln ∧ Hid (FilledR 29 2 wq.heap.size (.slice a9b Ln c9b) Ln w7b wr)) (fun iv _ => Ln - (intOf iv).toNat)
          case atStart => exact ⟨0, rfl, Nat.zero_le _, HI9⟩
          case round =>
            obtain ⟨j, rfl, hj, HG⟩ := hrel
            clear HI9
            by_cases hlj : j < Ln
            · obtain ⟨g, hg⟩ := HA9b.out.2 (by omega)
              subst hg
              obtain ⟨u, hc, hf⟩ := HG.out.cell (j * 2 + 1) (by omega)
              have HG' := Lib.hid (HG.out.step (j * 2 + 1) (.int .i64 77))
              have h0 : (0 : Int) ≤ (j : Int) := by omega
              have h1 : (j : Int) < (Ln : Int) := by omega
              have hw1 : IntKind.i64.wrap ((j : Int) + 1) = (j : Int) + 1 := IntWalk.i64_in _ (by omega)
              go_wp2_with fail
              go_roundw
              case rel => exact ⟨j + 1, by go_num, hlj, HG'⟩
              case measure => simp [intOf]; omega
            · obtain rfl : Ln = j := by omega
              have hb8 := HG.out.old wq HB7b.out (fun b hb => (HA9b.out.1 b hb).1)
              have HTA := Lib.hid (HT8.out.up hb8)
              have HOA := Lib.hid (OwnW.up HO88.out hb8)
              have HWA := HW8.out wr hb8
              have k0 := cell_of_one HTA.out.b0
              clear hb8 HG HT8 HO88 HW8 HU8
              go_wp2_with fail
              refine HWA.mono ?_
              rintro e wB ⟨aA, cA, rfl, hoA, hbB⟩
              rw [HD.out.1] at hoA
              have HS := Lib.hid (sameV_any aA a8 cA c8 Ln Ln Hd Hd wB HD.out.1.symm HD.out.1.symm (OwnW.reads hoA) (ReadsW.up (OwnW.reads (n := Hd.length) (by rw [← HD.out.1]; exact HOA.out)) hbB) (by unfold maxLen; omega) true (decide_eq_true rfl))
              have HE := Lib.hid (HTA.out.up hbB).bel
              clear hoA hbB k0 HWA HOA HTA
              go_wp2_with fail
              refine HS.out.mono ?_
              rintro e wC ⟨rfl, qq, hU⟩
              have hbC : Below wB.heap.size wB wC := by rw [hU]; exact belowDrewN _ _
              have HE2 : Hid (Below w.heap.size w wC) := Lib.hid (belowTrans HE.out hbC)
              clear hU hbC
              go_wp2_with fail
              go_ret
              exact ⟨rfl, HE2.out⟩
theorem owns_any (a : Option Addr) (c : Nat) (l : List Wd) (s : Wd) (w : World) (hb : l.length ≤ 1048576 ∧ ∀ x ∈ l, x.length ≤ 1048576) (hr : ReadsS w a l) (_hs : s.length ≤ 140737488351232) :
    Calls Try.prog 4 #[.slice a l.length c, sv s] w (Yes w) := owns a c l.length l s w rfl hb.1 hb.2 hr
end Go.Proofs.Yteglhcpochcopaa.trie
