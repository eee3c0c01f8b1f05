/- The law of who writes into pairs that were told: package bag. -/
import Derived.Test.YtnebmncjohoekaaBagOps
import Derived.Test.YtnebmncjohoekaaBagPut
import Derived.Test.YtnebmncjohoekaaPairs
import Derived.Test.YtnebmncjohoekaaAppRow
import Derived.Test.YtnebmncjohoekaaGrow2
import Derived.Deep.RegionHeld3
namespace Go.Proofs.Ytnebmncjohoekaa.bag
open Go.RowKit
open pat (PT HO OOk ocnt olist oget tk I64 lk told oput odrop ounion)

/-- a bag of no more than so many, none of them there too often -/
structure Few (j : Nat) (o : Option PT) : Prop where
  ok : OOk o
  bnd : Bnd o
  few : ∀ k, I64 k → cnt o k ≤ j * 1000
  n : ocnt o ≤ j
theorem few_none : Few 0 none := ⟨trivial, bnd_none, fun k _ => by simp [cnt, oget], Nat.le_refl _⟩
theorem few_next {j : Nat} {o : Option PT} (h : Few j o) {x n : Int} (hx : I64 x) (h0 : 0 ≤ n) (h1 : n ≤ 1000) : Few (j + 1) (withO o x (cnt o x + n)) := by
  refine ⟨with_ok h.ok hx _, with_bnd h.ok h.bnd hx _, fun k hk => ?_, Nat.le_trans (with_cnt o x _) (Nat.succ_le_succ h.n)⟩
  rw [cnt_with h.ok hx _ hk]
  have hf := h.few
  by_cases e : k = x
  · subst e
    rw [if_pos rfl]
    have := hf k hk
    unfold clamp
    split
    · omega
    · have := Int.min_le_left (cnt o k + n) most
      push_cast
      omega
  · rw [if_neg e]
    have := hf k hk
    push_cast
    omega
theorem few_good {j : Nat} {o : Option PT} (h : Few j o) (hj : j ≤ 1000) {x n : Int} (hx : I64 x) (h0 : 0 ≤ n) (h1 : n ≤ 1000) : ¬ badPut o x n := by
  unfold badPut most
  have := h.few x hx
  omega
theorem few_both {j : Nat} {o : Option PT} (h : Few j o) (hj : j ≤ 1000) : told (metO fLess (metO fAdd o o) o) = told o := by
  obtain ⟨h1, h2, _⟩ := metO_ok fAdd h.ok h.ok
  obtain ⟨h3, h4, _⟩ := metO_ok fLess h1 h.ok
  refine same_bag h3 h4 h.ok h.bnd fun k hk => ?_
  rw [cnt_met fLess zeroLess h1 h.ok hk, cnt_met fAdd zeroAdd h.ok h.ok hk]
  have hb := cnt_bnd h.ok h.bnd k
  have hf := h.few k hk
  have hm : most = 1099511627776 := rfl
  unfold fAdd fLess
  rw [clamp_id (n := cnt o k + cnt o k) (by omega) (by omega), clamp_id (by omega) (by omega)]
  omega
/-- a new box -/
def kNew (B : Nat) : grow.Kept := ⟨fun v W => ∃ b, v = .pointer (some ⟨b, 0, none⟩) ∧ B ≤ b ∧ W.heap[b]? = some (.cells #[.pointer none] 47 (0, 0)), fun _ _ _ hb ⟨b, e, h1, h2⟩ => ⟨b, e, h1, upb hb h2⟩⟩
/-- a bag in a box -/
structure Box (w : World) (G : Nat) (o : Option PT) (p : Option Addr) (W : World) : Prop where
  bel : Below w.heap.size w W
  g : w.heap.size ≤ G
  b0 : W.heap[G]? = some (.cells #[.pointer p] 47 (0, 0))
  h0 : HO w.heap.size W p o
theorem Box.up {w : World} {G : Nat} {o : Option PT} {p : Option Addr} {W W' : World} (h : Box w G o p W) (hb : Below W.heap.size W W') : Box w G o p W' :=
  ⟨h.bel.trans (hb.mono h.bel.size), h.g, upb hb h.b0, h.h0.up hb⟩
theorem Box.set {w : World} {G : Nat} {o o' : Option PT} {p p' : Option Addr} {W : World} (h : Box w G o p W) (hp : HO w.heap.size W p' o') : Box w G o' p' (W.setCell ⟨G, 0, none⟩ (.pointer p')) :=
  ⟨belowSet (a := ⟨G, 0, none⟩) h.bel (by have := h.g; show w.heap.size ≤ G; omega) _, h.g, one_setCell h.b0, pat.HO.store (k := G) (off := 0) h.b0 (by decide) hp⟩

set_option maxHeartbeats 4000000 in
theorem owns (a : Option Addr) (c n : Nat) (l : List Int) (x : Int) (w : World) (hl : l.length = n) (hn8 : n ≤ 17592186043904) (hr : Reads w a l) (hi : ∀ x ∈ l, I64 x) :
    Calls Try.prog 8 #[.slice a n c, .int .i64 x] w fun e w' => e = .returned (.bool true) ∧ Below w.heap.size w w' := by
  obtain ⟨i0, hi1, hz0, hz1, hz2⟩ := info_parts infoP
  have Hi := Lib.hid (And.intro hi1 (And.intro hz0 (And.intro hz1 hz2)))
  have hb0 := belowAlloc w (.cells #[.pointer none] 47)
  have hbx := heap_alloc_new w (.cells #[.pointer none] 47)
  have hi5 : I64 5 := by unfold I64; omega
  have hg := few_good few_none (by omega) hi5 (n := 2) (by omega) (by omega)
  have hP1 := Put_good w.heap.size (w.alloc (.cells #[.pointer none] 47)) none none 5 2 2 (by simp) rfl trivial hi5 (by decide) (cnt_bnd few_none.ok few_none.bnd 5) hg (by rfl)
  have HP1 := Lib.hid (And.intro hP1 (And.intro hb0 hbx))
  have HR := Lib.hid (And.intro hr (And.intro hl hi))
  clear hi1 hz0 hz1 hz2 hP1 hb0 hbx hr hl hi hg
  have H5 := Lib.hid hi5
  clear hi5
  go_enter Try.func8, Try.ntmps8
  go_wp2_with fail
  refine HP1.out.1.mono ?_
  rintro e w1 ⟨p1, rfl, hp1, hb1⟩
  have hB1 : Box w w.heap.size none none w1 := ⟨belowTrans HP1.out.2.1 hb1, Nat.le_refl _, upb hb1 HP1.out.2.2, rfl⟩
  obtain ⟨W1, hW1⟩ : ∃ W, W = w1.alloc (.cells #[.pointer p1] 47) := ⟨_, rfl⟩
  have hb1' : Below w1.heap.size w1 W1 := by rw [hW1]; exact belowAlloc _ _
  have hc5 : cnt (withO none 5 2) 5 = 2 := by rw [cnt_with (o := none) trivial H5.out _ H5.out, if_pos rfl]; rfl
  have HC1 := Lib.hid (Count_any w.heap.size W1 p1 _ 5 (hp1.up hb1') (with_ok (o := none) trivial H5.out 2) H5.out 2 hc5)
  have HB1 := Lib.hid (hB1.up hb1')
  have HW1 := Lib.hid hW1
  clear hp1 hb1 hb1' hB1 hW1 HP1 hc5
  go_wp2_with fail
  rw [← HW1.out]
  refine HC1.out.mono ?_
  rintro e w2 ⟨rfl, hb2⟩
  have HB2 := Lib.hid (HB1.out.up hb2)
  clear hb2
  have k0 := cell_of_one HB2.out.b0
  go_wp2_with fail
  refine (Count_any w.heap.size w2 none none 5 rfl trivial H5.out 0 rfl).mono ?_
  rintro e w3 ⟨rfl, hb3⟩
  have HB3 := Lib.hid (HB2.out.up hb3)
  clear hb3 k0
  by_cases hn : 1000 < n
  · have hn' : (1000 : Int) < (n : Int) := by omega
    clear hn
    go_wp2_with fail
    go_ret
    exact ⟨rfl, HB3.out.bel⟩
  have hn0 : n ≤ 1000 := by omega
  have hn' : decide ((1000 : Int) < (n : Int)) = false := by simp; omega
  clear hn hn8
  go_wp2_with fail
  have HI : Hid (∃ o p, Few 0 o ∧ Box w w.heap.size o p w3) := Lib.hid ⟨none, none, few_none, HB3.out⟩
  go_loopw [8, 9, 10] (fun iv _ _ wr => ∃ j : Nat, iv = .int .i64 j ∧ j ≤ n ∧ Hid (∃ o p, Few j o ∧ Box w w.heap.size o p wr)) (fun iv _ _ _ => n - (intOf iv).toNat)
  case atStart => exact ⟨0, rfl, Nat.zero_le _, HI⟩
  case round =>
    obtain ⟨j, rfl, hj, HF⟩ := hrel
    obtain ⟨o, p, hFe, hT⟩ := HF.out
    have j0 : (0 : Int) ≤ (j : Int) := by omega
    have kb := cell_of_one hT.b0
    by_cases hlt : j < n
    · obtain ⟨qa, oa, rfl, q1⟩ : ∃ b o, a = some ⟨b, o, none⟩ ∧ wr.cell? ⟨b, o + j, none⟩ = some (.int .i64 (l.getD j 0)) := by
        rcases HR.out.1.up hT.bel with h | ⟨b, o, ha, hc⟩
        · have h2 := HR.out.2.1; rw [h] at h2; simp at h2; omega
        · exact ⟨b, o, ha, hc j (by rw [HR.out.2.1]; exact hlt)⟩
      have hik : I64 (l.getD j 0) := HR.out.2.2 _ (by rw [List.getD_eq_getElem?_getD, List.getElem?_eq_getElem (by rw [HR.out.2.1]; exact hlt)]; exact List.getElem_mem _)
      obtain ⟨y, hy⟩ : ∃ y, y = l.getD j 0 := ⟨_, rfl⟩
      rw [← hy] at q1 hik
      have j1 : (j : Int) < (n : Int) := by omega
      have hwr : IntKind.i64.wrap ((j : Int) + 1) = (j : Int) + 1 := IntWalk.i64_in _ (by omega)
      have HC := Lib.hid (fun W (hW : Below wr.heap.size wr W) => Put_good w.heap.size W p o y ((j : Int) + 1) _ (szle hW hT.bel.size) (hT.h0.up hW) hFe.ok hik (by have := hFe.n; omega) (cnt_bnd hFe.ok hFe.bnd y) (few_good hFe (by omega) hik (by omega) (by omega)) rfl)
      have HX := Lib.hid (And.intro hFe (And.intro hT hik))
      have q1' := upc (belowAlloc wr (.cells #[.pointer none] 47)) q1
      have kb' := upc (belowAlloc wr (.cells #[.pointer none] 47)) kb
      clear hy hFe hT hik HF
      go_wp2_with fail
      go_region_with (first | (go_at_call 23; refine (HC.out _ (by first | exact belowDrew _ | exact belowTrans (belowDrew _) (belowAlloc _ _))).mono ?_; rintro e w4 ⟨p4, rfl, hp4, hb4⟩; try (have hz4 : w4.heap[wr.heap.size]? = some (.cells #[.pointer none] 47 (0, 0)) := upb hb4 (heap_alloc_new wr.drew _); have c4 := cell_of_one hz4; have f4 := free_of_one hz4)))
      all_goals
        first
        | (have hbA : Below wr.heap.size wr w4 := belowTrans (belowDrew wr) hb4
           have hT9 := (HX.out.2.1.up hbA).up (belowAlloc w4 (.cells #[.pointer p4] 47))
           have HE : Hid (∃ o p, Few (j + 1) o ∧ Box w w.heap.size o p ((w4.alloc (.cells #[.pointer p4] 47)).setCell ⟨w.heap.size, 0, none⟩ (.pointer p4))) := Lib.hid ⟨_, p4, few_next HX.out.1 HX.out.2.2 (n := (j : Int) + 1) (by omega) (by omega), hT9.set (hp4.up (belowAlloc w4 _))⟩
           have c0 := cell_of_one hT9.b0
           have f0 := free_of_one hT9.b0
           clear hbA hT9)
        | (have hbA : Below wr.heap.size wr (w4.setCell ⟨wr.heap.size, 0, none⟩ (.pointer p4)) := belowSet (a := ⟨wr.heap.size, 0, none⟩) (belowTrans (belowTrans (belowAlloc wr (.cells #[.pointer none] 47)) (belowDrew _)) hb4) (Nat.le_refl _) _
           have hT9 := HX.out.2.1.up hbA
           have HE : Hid (∃ o p, Few (j + 1) o ∧ Box w w.heap.size o p ((w4.setCell ⟨wr.heap.size, 0, none⟩ (.pointer p4)).setCell ⟨w.heap.size, 0, none⟩ (.pointer p4))) := Lib.hid ⟨_, p4, few_next HX.out.1 HX.out.2.2 (n := (j : Int) + 1) (by omega) (by omega), hT9.set (pat.HO.store (k := wr.heap.size) (off := 0) hz4 (by decide) hp4)⟩
           have c9 := cell_of_one (one_setCell (u := .pointer p4) hz4)
           have c0 := cell_of_one hT9.b0
           have f0 := free_of_one hT9.b0
           clear hbA hT9)
        clear hp4 hb4 q1 q1' kb kb'
        go_wp2_with fail
        go_roundw
        case rel => exact ⟨j + 1, by go_num, hlt, HE⟩
        case measure => simp [intOf]; omega
    · obtain rfl : n = j := by omega
      obtain ⟨m, hm⟩ : ∃ m, ocnt o = m := ⟨_, rfl⟩
      obtain ⟨xs, hx⟩ : ∃ xs, told o = xs := ⟨_, rfl⟩
      have hxl : xs.length = m := by rw [← hx, ← hm]; exact pat.told_length o
      have HO1 : Hid (OOk o ∧ ocnt o = m ∧ told o = xs ∧ xs.length = m) := Lib.hid ⟨hFe.ok, hm, hx, hxl⟩
      have hmn : m ≤ n := by rw [← hm]; exact hFe.n
      have HPn := Lib.hid (fun W (hW : Below wr.heap.size wr W) => Pairs_any w.heap.size W p o m (hT.h0.up hW) HO1.out.1 HO1.out.2.1 (by omega) xs HO1.out.2.2.1)
      have HFe := Lib.hid hFe
      have HT := Lib.hid hT
      have kb2 := upc (belowAlloc wr (.cells #[] 31)) kb
      clear hT hm hx hxl HF hFe HI
      go_wp2_with fail
      refine (HPn.out _ (by exact belowAlloc _ _)).mono ?_
      rintro e w5 ⟨a5, c5, rfl, ho5, hb5⟩
      have hbr5 := belowTrans (belowAlloc wr (.cells #[] 31)) hb5
      have hrow : w5.ownsRow wr.heap.size 31 2 (.slice (some ⟨wr.heap.size, 0, none⟩) 0 0) 0 [] := own_empty (upb hb5 (heap_alloc_new wr (.cells #[] 31)))
      have Hrow := Lib.hid hrow
      have HT5 := Lib.hid (HT.out.up hbr5)
      have Hb5 := Lib.hid hbr5
      have hnil : a5 = none → m = 0 ∧ c5 = 0 := by
        intro h
        subst h
        obtain ⟨a', c', e, hn, hrd, _⟩ := ho5.form
        cases e
        refine ⟨?_, hn rfl⟩
        rcases hrd with h | ⟨b, o, h, _⟩
        · rw [← HO1.out.2.2.2, h]; rfl
        · cases h
      have hsome : ∀ ad, a5 = some ad → ∀ j u, (cellsP xs)[j]? = some u → w5.cell? (ad.add j) = some u := by
        intro ad h
        subst h
        obtain ⟨a', c', e, hn, hrd, hg⟩ := ho5.form
        cases e
        obtain ⟨g, rfl, _⟩ := hg _ rfl
        intro j u hu
        exact World.ownsRow.cells ho5 rfl j u hu
      have Hnil := Lib.hid hnil
      have Hsome := Lib.hid hsome
      have hsz5 := hbr5.size
      clear hb5 hbr5 hrow ho5 hnil hsome kb kb2
      go_wp2_with (at_builtin; obtain ⟨hi, hz0, hz1, hz2⟩ := Hi.out; refine wpList_append_row _ rfl (.tmp 57) (.tmp 59) 28 rfl wr.heap.size 31 i0 (.agg #[.int .i64 0, .int .i64 0]) 2 16 Try.underlying28 hi hz0 hz1 hz2 rfl (by decide) (.slice (some ⟨wr.heap.size, 0, none⟩) 0 0) 0 [] rfl Hrow.out a5 m c5 (cellsP xs) rfl Hnil.out ?c1 Hsome.out (cellsP_one xs) ?c2 ?c3 ?c4 ?_)
      case c1 => rw [cellsP_length, HO1.out.2.2.2]
      case c2 => unfold maxLen; omega
      case c3 => omega
      case c4 => exact hsz5
      intro v8 w6 hown8 hgrow8
      have ho8 : OwnP w6 wr.heap.size v8 xs := by
        unfold OwnP
        rw [HO1.out.2.2.2]
        simpa using hown8
      have hb6 : Below wr.heap.size wr w6 := Below.grown Hb5.out hgrow8 hsz5 (fun k hk => by cases hk; exact Nat.le_refl _)
      obtain ⟨a8, c8, hv8, -⟩ := ho8.form
      rw [HO1.out.2.2.2] at hv8
      subst hv8
      have HT6 := Lib.hid (HT.out.up hb6)
      have HO8 := Lib.hid ho8
      have HPn6 := Lib.hid (fun W (hW : Below w6.heap.size w6 W) => HPn.out W (belowTrans hb6 hW))
      have kb := cell_of_one HT6.out.b0
      clear hown8 hgrow8 ho8 hb6 HPn HT5 HT Hrow Hnil Hsome Hb5 hsz5
      go_wp2_with fail
      refine (HPn6.out w6 (Below.refl _ _)).mono ?_
      rintro e w7 ⟨a9, c9, rfl, ho9, hb7⟩
      have HB7 := Lib.hid hb7
      have hrow9 : w7.ownsRow w6.heap.size 31 2 (.slice a9 m c9) m (cellsP xs) := by
        have h := ho9
        unfold OwnP at h
        rw [HO1.out.2.2.2] at h
        exact h
      have hblk := ho9.block
      have hat : 0 < m → ∃ g, a9 = some ⟨g, 0, none⟩ := by
        intro hm
        obtain ⟨g, cap, e, _⟩ := rowCell hrow9 hm
        cases e
        exact ⟨g, rfl⟩
      have HA9 := Lib.hid (And.intro hblk hat)
      have HI9 : Hid (FilledR 31 2 w6.heap.size (.slice a9 m c9) m w7 w7) := Lib.hid (FilledR.start hrow9)
      have hmp : (0 : Int) ≤ (m : Int) := by omega
      clear hb7 hrow9 hblk hat ho9 kb
      obtain ⟨wo, rfl⟩ : ∃ wo : World, wo = wr := ⟨_, rfl⟩
      go_wp2_with fail
      go_loopw [13] (fun iv wr => ∃ j : Nat, iv = .int .i64 j ∧ j ≤ m ∧ Hid (FilledR 31 2 w6.heap.size (.slice a9 m c9) m w7 wr)) (fun iv _ => m - (intOf iv).toNat)
      case atStart => exact ⟨0, rfl, Nat.zero_le _, HI9⟩
      case round =>
        obtain ⟨j, rfl, hj, HG⟩ := hrel
        by_cases hlj : j < m
        · obtain ⟨g, hg⟩ := HA9.out.2 (by omega)
          subst hg
          obtain ⟨u, hc, hf⟩ := HG.out.cell (j * 2 + 1) (by omega)
          have HG' := Lib.hid (HG.out.step (j * 2 + 1) (.int .i64 x))
          have h0 : (0 : Int) ≤ (j : Int) := by omega
          have h1 : (j : Int) < (m : Int) := by omega
          go_wp2_with fail
          go_roundw
          case rel => exact ⟨j + 1, by go_num, hlj, HG'⟩
          case measure => simp [intOf]; omega
        · have hb8 := HG.out.old w6 HB7.out (fun b hb => (HA9.out.1 b (by first | exact hb | (rw [HO1.out.2.2.2] at *; exact hb))).1)
          have HT8 := Lib.hid (HT6.out.up hb8)
          have HO88 := Lib.hid (HO8.out.up hb8)
          have HP8 := Lib.hid (fun W (hW : Below wr.heap.size wr W) => HPn6.out W (belowTrans hb8 hW))
          have kb := cell_of_one HT8.out.b0
          have hO2 := metO_ok fAdd HFe.out.ok HFe.out.ok
          have hO3 := metO_ok fLess hO2.1 HFe.out.ok
          have hT3 := few_both HFe.out hn0
          have HO3 : Hid (OOk (metO fLess (metO fAdd o o) o) ∧ ocnt (metO fLess (metO fAdd o o) o) = m ∧ told (metO fLess (metO fAdd o o) o) = xs) := Lib.hid ⟨hO3.1, by rw [told_ocnt hT3]; exact HO1.out.2.1, by rw [hT3]; exact HO1.out.2.2.1⟩
          have HO2 := Lib.hid hO2
          clear hb8 HG hO2 hO3 hT3
          go_wp2_with fail
          refine grow.wp_grow_last 6 _ [grow.kEq (.agg #[.pointer p]), grow.kEq (.agg #[.pointer p]), kBag w.heap.size (metO fAdd o o), grow.kEq (.agg #[.pointer p]), kBag w.heap.size (metO fLess (metO fAdd o o) o), kNew wr.heap.size] rfl rfl rfl (by kernel_rfl) (by kernel_rfl) (by kernel_rfl) (by kernel_rfl) (by kernel_rfl) ?step ?fin
          case step =>
            refine grow.EachL.cons ?_ ?_
            · intro A W hB hs hJ K hK
              have s0 := hs 5 (by kernel_rfl)
              simp at s0
              have kk := upc hB (cell_of_one HT8.out.b0)
              rw [if_pos (by rfl)]
              clear hs hJ
              go_simp
              exact hK _ _ (Below.refl _ _) rfl
            refine grow.EachL.cons ?_ ?_
            · intro A W hB hs hJ K hK
              have s0 := hs 5 (by kernel_rfl)
              simp at s0
              have kk := upc hB (cell_of_one HT8.out.b0)
              rw [if_pos (by rfl)]
              clear hs hJ
              go_simp
              exact hK _ _ (Below.refl _ _) rfl
            refine grow.EachL.cons ?_ ?_
            · intro A W hB hs hJ K hK
              have s0 : A.tmps.getD 74 undef = .agg #[.pointer p] := hJ 0 74 (by kernel_rfl) (by kernel_rfl)
              simp at s0
              have s1 : A.tmps.getD 75 undef = .agg #[.pointer p] := hJ 1 75 (by kernel_rfl) (by kernel_rfl)
              simp at s1
              rw [if_pos (by rfl)]
              clear hs hJ
              go_simp
              go_at_call 26
              refine (Add_any w.heap.size W p p o o (szle hB HT8.out.bel.size) (HT8.out.h0.up hB) (HT8.out.h0.up hB) HFe.out.ok HFe.out.ok HFe.out.bnd HFe.out.bnd (by have := HFe.out.n; omega)).mono ?_
              rintro e W2 ⟨pU, rfl, hpU, hrU⟩
              exact hK _ _ hrU ⟨pU, rfl, hpU⟩
            refine grow.EachL.cons ?_ ?_
            · intro A W hB hs hJ K hK
              have s0 := hs 5 (by kernel_rfl)
              simp at s0
              have kk := upc hB (cell_of_one HT8.out.b0)
              rw [if_pos (by rfl)]
              clear hs hJ
              go_simp
              exact hK _ _ (Below.refl _ _) rfl
            refine grow.EachL.cons ?_ ?_
            · intro A W hB hs hJ K hK
              obtain ⟨pA, s0, hA⟩ := hJ 2 76 (by kernel_rfl) (by kernel_rfl)
              simp at s0
              have s1 : A.tmps.getD 77 undef = .agg #[.pointer p] := hJ 3 77 (by kernel_rfl) (by kernel_rfl)
              simp at s1
              rw [if_pos (by rfl)]
              clear hs hJ
              go_simp
              go_at_call 27
              refine (Less_any w.heap.size W pA p (metO fAdd o o) o (szle hB HT8.out.bel.size) hA (HT8.out.h0.up hB) HO2.out.1 HFe.out.ok HO2.out.2.1 HFe.out.bnd (by have := HFe.out.n; have := HO2.out.2.2; omega)).mono ?_
              rintro e W2 ⟨pU, rfl, hpU, hrU⟩
              exact hK _ _ hrU ⟨pU, rfl, hpU⟩
            refine grow.EachL.cons ?_ ?_
            · intro A W hB hs hJ K hK
              rw [if_pos (by rfl)]
              clear hs hJ
              go_simp
              exact hK _ _ (belowAlloc _ _) ⟨_, rfl, hB.size, heap_alloc_new _ _⟩
            exact grow.EachL.nil
          case fin =>
            intro f W hB hF
            have f0 : f 0 = .agg #[.pointer p] := hF 0 (by decide)
            have f1 : f 1 = .agg #[.pointer p] := hF 1 (by decide)
            obtain ⟨pA_2, f2, -⟩ := hF 2 (by decide)
            have f3 : f 3 = .agg #[.pointer p] := hF 3 (by decide)
            obtain ⟨pB_4, f4, hB1_4⟩ := hF 4 (by decide)
            obtain ⟨bN_5, f5, hN1_5, hN2_5⟩ := hF 5 (by decide)
            clear hF
            intro A hA
            simp only [grow.puts, Act.put, List.getElem?_toArray, List.getElem?_cons_zero, List.getElem?_cons_succ, Option.bind_some, List.setIfInBounds_toArray, List.set_cons_zero, List.set_cons_succ, f0, f1, f2, f3, f4, f5] at hA
            subst hA
            have hT9 := HT8.out.up hB
            have hO9 := HO88.out.up hB
            have kN := cell_of_one hN2_5
            have fN := free_of_one hN2_5
            have hbS : Below wr.heap.size wr (W.setCell ⟨bN_5, 0, none⟩ (.pointer pB_4)) := belowSet (a := ⟨bN_5, 0, none⟩) hB hN1_5 _
            have HB5 := Lib.hid hbS
            have HT9 := Lib.hid (HT8.out.up hbS)
            have Hc : Hid ((W.setCell ⟨bN_5, 0, none⟩ (.pointer pB_4)).heap[bN_5]? = some (.cells #[.pointer pB_4] 47 (0, 0)) ∧ HO w.heap.size (W.setCell ⟨bN_5, 0, none⟩ (.pointer pB_4)) pB_4 (metO fLess (metO fAdd o o) o)) := Lib.hid ⟨one_setCell hN2_5, pat.HO.store (k := bN_5) (off := 0) hN2_5 (by decide) hB1_4⟩
            clear hT9 hO9 hbS hN1_5 hN2_5 hB1_4 hB kb
            go_simp
            clear kN fN
            obtain ⟨W5, hW5⟩ : ∃ W5, W5 = W.setCell ⟨bN_5, 0, none⟩ (.pointer pB_4) := ⟨_, rfl⟩
            rw [← hW5] at HB5 HT9 Hc ⊢
            clear hW5
            obtain ⟨pc, rfl⟩ : ∃ a, a = pB_4 := ⟨_, rfl⟩
            have kb := cell_of_one HT9.out.b0
            have kc := cell_of_one Hc.out.1
            go_wp2_with fail
            refine (HP8.out W5 HB5.out).mono ?_
            rintro e w9 ⟨aA, cA, rfl, hoA, hbA⟩
            have HS := Lib.hid (samePairs_any aA a8 cA c8 m m xs xs w9 HO1.out.2.2.2 HO1.out.2.2.2 (OwnP.reads hoA) (OwnP.reads ((HO88.out.up HB5.out).up hbA)) (by unfold maxLen; omega) true (decide_eq_true rfl))
            have HT10 := Lib.hid (And.intro (HT9.out.up hbA).bel (And.intro (upb hbA Hc.out.1) (And.intro (Hc.out.2.up hbA) ((HO88.out.up HB5.out).up hbA))))
            clear hoA hbA kb kc
            go_wp2_with fail
            refine HS.out.mono ?_
            rintro e wB ⟨rfl, qq, hU⟩
            have hbB : Below w9.heap.size w9 wB := by rw [hU]; exact belowDrewN _ _
            have HT11 := Lib.hid (And.intro (HT10.out.1.trans (hbB.mono HT10.out.1.size)) (And.intro (upb hbB HT10.out.2.1) (And.intro (HT10.out.2.2.1.up hbB) (HT10.out.2.2.2.up hbB))))
            have kc := cell_of_one HT11.out.2.1
            clear hU hbB HS HT10
            go_wp2_with fail
            refine (Pairs_any w.heap.size wB pc _ m HT11.out.2.2.1 HO3.out.1 HO3.out.2.1 (by omega) xs HO3.out.2.2).mono ?_
            rintro e wC ⟨aC, cC, rfl, hoC, hbC⟩
            have HS := Lib.hid (samePairs_any aC a8 cC c8 m m xs xs wC HO1.out.2.2.2 HO1.out.2.2.2 (OwnP.reads hoC) (OwnP.reads (HT11.out.2.2.2.up hbC)) (by unfold maxLen; omega) true (decide_eq_true rfl))
            have HE := Lib.hid (HT11.out.1.trans (hbC.mono HT11.out.1.size))
            clear hoC hbC kc
            go_wp2_with fail
            refine HS.out.mono ?_
            rintro e wD ⟨rfl, qq2, hU⟩
            have HE2 : Hid (Below w.heap.size w wD) := Lib.hid (by rw [hU]; exact belowTrans HE.out (belowDrewN _ _))
            clear hU
            go_wp2_with fail
            go_ret
            exact ⟨rfl, HE2.out⟩

theorem owns_any (a : Option Addr) (c : Nat) (l : List Int) (x : Int) (w : World) (hb : l.length * 8 ≤ 140737488351232) (hr : Reads w a l) (hi : ∀ x ∈ l, I64 x) :
    Calls Try.prog 8 #[.slice a l.length c, .int .i64 x] w fun e w' => e = .returned (.bool true) ∧ Below w.heap.size w w' :=
  owns a c l.length l x w rfl (by omega) hr hi
end Go.Proofs.Ytnebmncjohoekaa.bag
