/- The law of who writes into items that were told: package prio. -/
import Derived.Test.YtnigadnjppeckaaQueue
import Derived.Test.YtnigadnjppeckaaSameVP
import Derived.Test.YtnigadnjppeckaaFillR
import Derived.Test.YtnigadnjppeckaaAppRow
import Derived.Deep.RegionWith
namespace Go.Proofs.Ytnigadnjppeckaa.prio
open Go.RowKit
open manyP (V OwnV ReadsV RetV)

structure Box (w : World) (t : BT V) (p : Option Addr) (W : World) : Prop where
  bel : Below w.heap.size w W
  b0 : W.heap[w.heap.size]? = some (.cells #[.pointer p] 49 (0, 0))
  h0 : In w.heap.size W p t
theorem Box.up {w : World} {t : BT V} {p : Option Addr} {W W' : World} (h : Box w t p W) (hb : Below W.heap.size W W') : Box w t p W' :=
  ⟨h.bel.trans (hb.mono h.bel.size), upb hb h.b0, h.h0.up hb⟩
theorem Box.set {w : World} {t t' : BT V} {p p' : Option Addr} {W : World} (h : Box w t p W) (hp : In w.heap.size W p' t') : Box w t' p' (W.setCell ⟨w.heap.size, 0, none⟩ (.pointer p')) :=
  ⟨belowSet (a := ⟨w.heap.size, 0, none⟩) h.bel (Nat.le_refl _) _, one_setCell h.b0, manyP.Holds.store1 hp h.b0 (by decide)⟩
def State (w : World) (j : Nat) (W : World) : Prop := ∃ p t, Box w t p W ∧ t.size = j

set_option maxRecDepth 100000 in
set_option maxHeartbeats 4000000 in
theorem owns (a : Option Addr) (c n : Nat) (l : List Int) (x : Int) (w : World) (hl : l.length = n) (hn : n ≤ 1048576) (hr : Reads w a l) :
    Calls Try.prog 6 #[.slice a n c, .int .i64 x] w fun e w' => e = .returned (.bool true) ∧ Below w.heap.size w w' := by
  obtain ⟨i0, hi1, hz0, hz1, hz2⟩ := info_parts manyP.infoV
  have Hi := Lib.hid (And.intro hi1 (And.intro hz0 (And.intro hz1 hz2)))
  have hb0 := belowAlloc w (.cells #[.pointer none] 49)
  have hP1 := Push_any w.heap.size (w.alloc (.cells #[.pointer none] 49)) none .nil (0, 0) (by simp) rfl (by decide)
  have hbx := heap_alloc_new w (.cells #[.pointer none] 49)
  have HP1 := Lib.hid (And.intro hP1 (And.intro hb0 hbx))
  have HR := Lib.hid (And.intro hr hl)
  clear hi1 hz0 hz1 hz2 hP1 hb0 hbx hr hl
  go_enter Try.func6, Try.ntmps6
  go_wp2_with fail
  refine HP1.out.1.mono ?_
  rintro e w1 ⟨p1, t1, rfl, hq1, hp1, hb1⟩
  have HL := Lib.hid (Len_any w.heap.size w1 p1 _ hp1)
  rw [show t1.size = 1 from hq1.2, show ((1 : Nat) : Int) = 1 from rfl] at HL
  have hb1' := belowTrans HP1.out.2.1 hb1
  have HB1 := Lib.hid (And.intro hb1' (upb hb1 HP1.out.2.2))
  clear hp1 hb1 hb1' HP1 hq1
  go_wp2_with fail
  refine HL.out.mono ?_
  rintro e w2 ⟨rfl, hb2⟩
  have HS : Hid (State w 0 w2) := Lib.hid ⟨none, .nil, ⟨belowTrans HB1.out.1 hb2, upb hb2 HB1.out.2, rfl⟩, rfl⟩
  clear hb2 HB1 HL
  go_wp2_with fail
  go_loopw [6] (fun iv wr => ∃ j : Nat, iv = .int .i64 j ∧ j ≤ n ∧ Hid (State w j wr)) (fun iv _ => n - (intOf iv).toNat)
  case atStart => exact ⟨0, rfl, Nat.zero_le _, HS⟩
  case round =>
    obtain ⟨j, rfl, hj, HF⟩ := hrel
    obtain ⟨p, t, hT, ht⟩ := HF.out
    have kb := cell_of_one hT.b0
    by_cases hlt : j < n
    · obtain ⟨qa, oa, hap, q1⟩ : ∃ qa oa, a = some ⟨qa, oa, none⟩ ∧ w.cell? ⟨qa, oa + j, none⟩ = some (.int .i64 (l.getD j 0)) := by
        rcases HR.out.1 with h | ⟨b, o, ha, h⟩
        · have h2 := HR.out.2; rw [h] at h2; simp at h2; omega
        · exact ⟨b, o, ha, h j (by rw [HR.out.2]; exact hlt)⟩
      subst hap
      replace q1 := upc hT.bel q1
      obtain ⟨y, hy⟩ : ∃ y, y = l.getD j 0 := ⟨_, rfl⟩
      rw [← hy] at q1
      have j0 : (0 : Int) ≤ (j : Int) := by omega
      have j1 : (j : Int) < (n : Int) := by omega
      have HC := Lib.hid (fun W (hW : Below wr.heap.size wr W) => Push_any w.heap.size W p t (y, (j : Int)) (szle hW hT.bel.size) (hT.h0.up hW) (by omega))
      have HX := Lib.hid (And.intro hT ht)
      clear hy hT ht HF HS
      go_wp2_with fail
      go_region_with (first | (go_at_call 20; refine (HC.out _ (by exact belowDrew _)).mono ?_; rintro e w4 ⟨p3, t3, rfl, hq3, hp3, hb4⟩; replace hb4 := belowTrans (belowDrew _) hb4; have hT3 := HX.out.1.up hb4; have c0 := cell_of_one hT3.b0; have f0 := free_of_one hT3.b0))
      all_goals
        have HF2 : Hid (State w (j + 1) (w4.setCell ⟨w.heap.size, 0, none⟩ (.pointer p3))) := Lib.hid ⟨p3, t3, hT3.set hp3, by rw [hq3.2, HX.out.2]⟩
        clear hp3 hq3 hb4 hT3 c0 f0 kb q1
        go_wp2_with fail
        go_roundw
        case rel => exact ⟨j + 1, by go_num, hlt, HF2⟩
        case measure => simp [intOf]; omega
    · obtain rfl : n = j := by omega
      obtain ⟨xs, hx⟩ : ∃ xs, t.inorder = xs := ⟨_, rfl⟩
      have hxl : xs.length = n := by rw [← hx, BT.length_inorder, ht]
      have HO1 : Hid (t.inorder = xs ∧ xs.length = n ∧ t.size = n) := Lib.hid ⟨hx, hxl, ht⟩
      have HPn := Lib.hid (fun W (hW : Below wr.heap.size wr W) => Items_any w.heap.size W p t (hT.h0.up hW) (by rw [ht]; omega))
      rw [hx] at HPn
      unfold RetV at HPn
      rw [hxl] at HPn
      have HT := Lib.hid hT
      have kb2 := upc (belowAlloc wr (.cells #[] 52)) kb
      clear hT hx hxl ht HF HS
      go_wp2_with fail
      refine (HPn.out _ (by exact belowAlloc _ _)).mono ?_
      rintro e w5 ⟨a5, c5, rfl, ho5, hb5⟩
      have hbr5 := belowTrans (belowAlloc wr (.cells #[] 52)) hb5
      have hrow : w5.ownsRow wr.heap.size 52 2 (.slice (some ⟨wr.heap.size, 0, none⟩) 0 0) 0 [] :=
        ⟨rfl, .inr ⟨wr.heap.size, 0, #[], rfl, Nat.le_refl _, upb hb5 (heap_alloc_new wr (.cells #[] 52)), Nat.le_refl _, Nat.zero_le _, rfl, rfl⟩⟩
      have Hrow := Lib.hid hrow
      have HT5 := Lib.hid (HT.out.up hbr5)
      have Hb5 := Lib.hid hbr5
      have hnil : a5 = none → n = 0 ∧ c5 = 0 := by
        intro h
        subst h
        obtain ⟨a', c', e, hn, hrd, _⟩ := ho5.form
        cases e
        refine ⟨?_, hn rfl⟩
        rcases hrd with h | ⟨b, o, h, _⟩
        · rw [← HO1.out.2.1, h]; rfl
        · cases h
      have hsome : ∀ ad, a5 = some ad → ∀ j u, (manyP.cellsV xs)[j]? = some u → w5.cell? (ad.add j) = some u := by
        intro ad h
        subst h
        obtain ⟨a', c', e, hn, hrd, hg⟩ := ho5.form
        cases e
        obtain ⟨g, rfl, _⟩ := hg _ rfl
        intro j u hu
        exact World.ownsRow.cells ho5 rfl j u hu
      have Hnil := Lib.hid hnil
      have Hsome := Lib.hid hsome
      have hsz5 := hbr5.size
      clear hb5 hbr5 hrow ho5 hnil hsome kb kb2
      go_wp2_with (at_builtin; obtain ⟨hi, hz0, hz1, hz2⟩ := Hi.out; refine wpList_append_row _ rfl (.tmp 33) (.tmp 35) 53 rfl wr.heap.size 52 i0 (.agg #[.int .i64 0, .int .i64 0]) 2 16 Try.underlying53 hi hz0 hz1 hz2 rfl (by decide) (.slice (some ⟨wr.heap.size, 0, none⟩) 0 0) 0 [] rfl Hrow.out a5 n c5 (manyP.cellsV xs) rfl Hnil.out ?c1 Hsome.out (manyP.cellsV_one xs) ?c2 ?c3 ?c4 ?_)
      case c1 => rw [manyP.cellsV_length, HO1.out.2.1]
      case c2 => unfold maxLen; omega
      case c3 => omega
      case c4 => exact hsz5
      intro v8 w6 hown8 hgrow8
      have ho8 : OwnV w6 wr.heap.size v8 xs := by
        unfold OwnV
        rw [HO1.out.2.1]
        simpa using hown8
      have hb6 : Below wr.heap.size wr w6 := Below.grown Hb5.out hgrow8 hsz5 (fun k hk => by cases hk; exact Nat.le_refl _)
      obtain ⟨a8, c8, hv8, -⟩ := ho8.form
      rw [HO1.out.2.1] at hv8
      subst hv8
      have HT6 := Lib.hid (HT.out.up hb6)
      have HO8 := Lib.hid ho8
      have HPn6 := Lib.hid (fun W (hW : Below w6.heap.size w6 W) => HPn.out W (belowTrans hb6 hW))
      have kb := cell_of_one HT6.out.b0
      clear hown8 hgrow8 ho8 hb6 HPn HT5 HT Hrow Hnil Hsome Hb5 hsz5
      go_wp2_with fail
      refine (HPn6.out w6 (Below.refl _ _)).mono ?_
      rintro e w7 ⟨a9, c9, rfl, ho9, hb7⟩
      have HB7 := Lib.hid hb7
      have hrow9 : w7.ownsRow w6.heap.size 52 2 (.slice a9 n c9) n (manyP.cellsV xs) := by
        have h := ho9
        unfold OwnV at h
        rw [HO1.out.2.1] at h
        exact h
      have hblk := ho9.block
      have hat : 0 < n → ∃ g, a9 = some ⟨g, 0, none⟩ := by
        intro hm
        rcases hrow9.2 with ⟨h, h0⟩ | ⟨g, cap, cur, e, _⟩
        · omega
        · cases e
          exact ⟨g, rfl⟩
      have HA9 := Lib.hid (And.intro hblk hat)
      have HI9 : Hid (FilledR 52 2 w6.heap.size (.slice a9 n c9) n w7 w7) := Lib.hid (FilledR.start hrow9)
      have hmp : (0 : Int) ≤ (n : Int) := by omega
      clear hb7 hrow9 hblk hat ho9 kb
      obtain ⟨wo, rfl⟩ : ∃ wo : World, wo = wr := ⟨_, rfl⟩
      go_wp2_with fail
      go_loopw [9] (fun iv wr => ∃ j : Nat, iv = .int .i64 j ∧ j ≤ n ∧ Hid (FilledR 52 2 w6.heap.size (.slice a9 n c9) n w7 wr)) (fun iv _ => n - (intOf iv).toNat)
      case atStart => exact ⟨0, rfl, Nat.zero_le _, HI9⟩
      case round =>
        obtain ⟨j, rfl, hj, HG⟩ := hrel
        by_cases hlj : j < n
        · obtain ⟨g, hg⟩ := HA9.out.2 (by omega)
          subst hg
          obtain ⟨u, hc, hf⟩ := HG.out.cell (j * 2) (by omega)
          have HG' := Lib.hid (HG.out.step (j * 2) (.int .i64 x))
          have h0 : (0 : Int) ≤ (j : Int) := by omega
          have h1 : (j : Int) < (n : Int) := by omega
          go_wp2_with fail
          go_roundw
          case rel => exact ⟨j + 1, by go_num, hlj, HG'⟩
          case measure => simp [intOf]; omega
        · have hb8 := HG.out.old w6 HB7.out (fun b hb => (HA9.out.1 b (by first | exact hb | (rw [HO1.out.2.1] at *; exact hb))).1)
          have HT8 := Lib.hid (HT6.out.up hb8)
          have HO88 := Lib.hid (HO8.out.up hb8)
          have HP8 := Lib.hid (fun W hW => HPn6.out W (belowTrans hb8 hW))
          have kb := cell_of_one HT8.out.b0
          clear hb8 HG
          have HPop : Hid (Calls Try.prog 23 #[.agg #[.pointer p]] wr fun e w' => ∃ z1 z2 q u, e = .returned (.tuple #[.agg #[.int .i64 z1, .int .i64 z2], .agg #[.pointer q], .bool (decide (0 < n))]) ∧ u.size = n - 1 ∧ In w.heap.size w' q u ∧ Below wr.heap.size wr w') := Lib.hid (by
            by_cases hm : 0 < n
            · refine (Pop_some w.heap.size wr p t HT8.out.bel.size HT8.out.h0 (by rw [HO1.out.2.2]; exact hm) (by rw [HO1.out.2.2]; omega)).mono ?_
              rintro e w9 ⟨v, q, u, rfl, g1, g2, g3⟩
              exact ⟨v.1, v.2, q, u, by simp [hm], by rw [g1, HO1.out.2.2], g2, g3⟩
            · have hz := HO1.out.2.2
              have hh := HT8.out.h0
              cases t with
              | node y l r => simp only [BT.size] at hz; omega
              | nil =>
                obtain rfl : p = none := hh
                refine (Pop_nil wr).mono ?_
                rintro e w9 ⟨rfl, g3⟩
                exact ⟨0, 0, none, .nil, by simp [hm], by simp [BT.size]; omega, rfl, g3⟩)
          go_wp2_with fail
          refine HPop.out.mono ?_
          rintro e w9 ⟨z1, z2, q, u, rfl, hqu, hq, hb9⟩
          have hbA := belowTrans hb9 (belowTrans (belowAlloc w9 (.cells #[.int .i64 z1, .int .i64 z2] 52)) (belowAlloc _ (.cells #[.pointer q] 49)))
          have hq2 := hq.up (belowTrans (belowAlloc w9 (.cells #[.int .i64 z1, .int .i64 z2] 52)) (belowAlloc _ (.cells #[.pointer q] 49)))
          have kq := heapNew2 w9 (.cells #[.int .i64 z1, .int .i64 z2] 52) (.cells #[.pointer q] 49)
          have HTA := Lib.hid (HT8.out.up hbA)
          have HOA := Lib.hid (HO88.out.up hbA)
          have HPA := Lib.hid (HP8.out _ hbA)
          have kbA := cell_of_one HTA.out.b0
          have HQ2 := Lib.hid (And.intro hqu (And.intro hq2 kq))
          clear hbA hb9 hq2 kq hqu hq kb HPop HP8 HO88 HT8
          go_wp2_with fail
          refine HPA.out.mono ?_
          rintro e wB ⟨aA, cA, rfl, hoA, hbB⟩
          have HS := Lib.hid (sameV_any aA a8 cA c8 n n xs xs wB HO1.out.2.1 HO1.out.2.1 (OwnV.reads hoA) (OwnV.reads (HOA.out.up hbB)) (by unfold maxLen; omega) true (decide_eq_true rfl))
          have HE := Lib.hid (HTA.out.up hbB).bel
          have HQ3 := Lib.hid (And.intro HQ2.out.1 (And.intro (HQ2.out.2.1.up hbB) (upb hbB HQ2.out.2.2)))
          clear hoA hbB kbA HQ2 HPA HOA
          go_wp2_with fail
          refine HS.out.mono ?_
          rintro e wC ⟨rfl, qq, hU⟩
          have hbC : Below wB.heap.size wB wC := by rw [hU]; exact belowDrewN _ _
          have HE2 : Hid (Below w.heap.size w wC) := Lib.hid (belowTrans HE.out hbC)
          have HLq := Lib.hid (Len_any w.heap.size wC q u (HQ3.out.2.1.up hbC))
          rw [HQ3.out.1] at HLq
          have kq := cell_of_one (upb hbC HQ3.out.2.2)
          clear hU hbC HQ3
          go_wp2_with fail
          refine HLq.out.mono ?_
          rintro e wD ⟨rfl, hbD⟩
          have HE3 := Lib.hid (belowTrans HE2.out hbD)
          clear hbD HE2 HLq kq
          go_wp2_with fail
          all_goals go_ret
          all_goals refine ⟨?_, HE3.out⟩
          all_goals (simp; omega)

theorem owns_any (a : Option Addr) (c : Nat) (l : List Int) (x : Int) (w : World) (hb : l.length ≤ 1048576) (hr : Reads w a l) (_hn : a = none → c = 0) :
    Calls Try.prog 6 #[.slice a l.length c, .int .i64 x] w fun e w' => e = .returned (.bool true) ∧ Below w.heap.size w w' :=
  owns a c l.length l x w rfl hb hr
end Go.Proofs.Ytnigadnjppeckaa.prio
