/- The law of who writes into pairs that were told: package hamt. -/
import Derived.Test.YtenaddjnaeebbaaHamtDoor
import Derived.Test.YtenaddjnaeebbaaPairs
import Derived.Test.YtenaddjnaeebbaaAppRow
import Derived.Test.YtenaddjnaeebbaaGrow
import Derived.Deep.RegionWith
namespace Go.Proofs.Ytenaddjnaeebbaa.hamt
open Go.RowKit
open pat (PT OOk ocnt olist oput odrop oget tk I64 tk_lt tk_inj lk told telled Yes i64_lit PT.cnt Ok)

def fillI : List (Int × Int) → Option PT := fun l => l.foldl (fun o p => putI o p.1 p.2) none
theorem fillI_snoc (l : List (Int × Int)) (j : Nat) (h : j < l.length) : fillI (l.take (j + 1)) = putI (fillI (l.take j)) (l.getD j (0, 0)).1 (l.getD j (0, 0)).2 := by
  unfold fillI
  rw [List.take_succ_eq_append_getElem h, List.foldl_append]
  simp [List.getD_eq_getElem?_getD, h]
theorem fillI_facts (l : List (Int × Int)) (hl : ∀ p ∈ l, I64 p.1) : ∀ o, OOk o → OOk (l.foldl (fun o p => putI o p.1 p.2) o) ∧ ocnt (l.foldl (fun o p => putI o p.1 p.2) o) ≤ ocnt o + l.length := by
  induction l with
  | nil => intro o h; exact ⟨h, Nat.le_refl _⟩
  | cons p t ih =>
    intro o h
    have h0 := hl p List.mem_cons_self
    obtain ⟨h1, h2⟩ := ih (fun q hq => hl q (List.mem_cons_of_mem _ hq)) (putI o p.1 p.2) (put_ok h h0 _)
    refine ⟨h1, ?_⟩
    have := put_cnt (o := o) h h0 p.2
    simp only [List.foldl_cons, List.length_cons]
    omega
structure Box (w : World) (G : Nat) (o : Option PT) (p : Option Addr) (W : World) : Prop where
  bel : Below w.heap.size w W
  g : w.heap.size ≤ G
  b0 : W.heap[G]? = some (.cells #[.pointer p] 25 (0, 0))
  h0 : HO w.heap.size W p o
theorem Box.up {w : World} {G : Nat} {o : Option PT} {p : Option Addr} {W W' : World} (h : Box w G o p W) (hb : Below W.heap.size W W') : Box w G o p W' :=
  ⟨h.bel.trans (hb.mono h.bel.size), h.g, upb hb h.b0, h.h0.up hb⟩
theorem Box.set {w : World} {G : Nat} {o o' : Option PT} {p p' : Option Addr} {W : World} (h : Box w G o p W) (hp : HO w.heap.size W p' o') : Box w G o' p' (W.setCell ⟨G, 0, none⟩ (.pointer p')) :=
  ⟨belowSet (a := ⟨G, 0, none⟩) h.bel (by have := h.g; show w.heap.size ≤ G; omega) _, h.g, one_setCell h.b0, HO.store (k := G) (off := 0) h.b0 (by decide) hp⟩
theorem Box.row {w : World} {G B : Nat} {o : Option PT} {p : Option Addr} {W : World} (h : Box w G o p W) {v u : Value} {xs : List (Int × Int)} (ho : OwnP W B v xs) : OwnP (W.setCell ⟨G, 0, none⟩ u) B v xs :=
  ho.keep (T := [25]) (KeepT.set (a := ⟨G, 0, none⟩) h.b0 (by simp) _) (by decide)
def State (w : World) (ps : List (Int × Int)) (vp : Value) (j : Nat) (W : World) : Prop := ∃ p, Box w w.heap.size (fillI (ps.take j)) p W ∧ OwnP W w.heap.size vp ps

set_option maxHeartbeats 4000000 in
theorem owns (a : Option Addr) (c n : Nat) (l : List Int) (x : Int) (w : World) (hl : l.length = n) (hn : n ≤ 1048576) (hr : Reads w a l) (hi : ∀ x ∈ l, I64 x) :
    Calls Try.prog 3 #[.slice a n c, .int .i64 x] w fun e w' => e = .returned (.bool true) ∧ Below w.heap.size w w' := by
  obtain ⟨i0, hi1, hz0, hz1, hz2⟩ := info_parts infoP
  have Hi := Lib.hid (And.intro hi1 (And.intro hz0 (And.intro hz1 hz2)))
  have hb0 := belowAlloc w (.cells #[.pointer none] 25)
  have hP1 := Put_any w.heap.size (w.alloc (.cells #[.pointer none] 25)) none none 5 7 (by simp) (HO.nil _ _) trivial (by unfold I64; omega) (by decide)
  have hbx := heap_alloc_new w (.cells #[.pointer none] 25)
  have HP1 := Lib.hid (And.intro hP1 (And.intro hb0 hbx))
  have HR := Lib.hid (And.intro hr (And.intro hl hi))
  clear hi1 hz0 hz1 hz2 hP1 hb0 hbx hr hl hi
  go_enter Try.func3, Try.ntmps3
  go_wp2_with fail
  refine HP1.out.1.mono ?_
  rintro e w1 ⟨p1, rfl, hp1, hb1⟩
  have HL := Lib.hid (Len_num w.heap.size w1 p1 _ 1 hp1 put_one)
  have hb1' := belowTrans HP1.out.2.1 hb1
  have HB1 := Lib.hid (And.intro hb1' (upb hb1 HP1.out.2.2))
  clear hp1 hb1 hb1' HP1
  go_wp2_with fail
  refine HL.out.mono ?_
  rintro e w2 ⟨rfl, hb2⟩
  have hb02 := belowTrans HB1.out.1 hb2
  have HPr := Lib.hid (pairs_row a c n l w2 HR.out.2.1 (by omega) (HR.out.1.up hb02))
  have HB2 := Lib.hid (And.intro hb02 (upb hb2 HB1.out.2))
  clear hb2 hb02 HB1 HL
  go_wp2_with fail
  refine HPr.out.mono ?_
  rintro e w3 ⟨ap, cp, rfl, hop, hb3⟩
  obtain ⟨ps, hps⟩ : ∃ ps, ps = pairsOf l := ⟨_, rfl⟩
  rw [← hps] at hop
  have hpl : ps.length = n := by rw [hps, pairsOf_length]; exact HR.out.2.1
  have hpi : ∀ p ∈ ps, I64 p.1 := by rw [hps]; exact pairsF_keys l I64 HR.out.2.2 0
  have HPS := Lib.hid (And.intro hpl hpi)
  have hS : State w ps (.slice ap n cp) 0 w3 := ⟨none, ⟨belowTrans HB2.out.1 hb3, Nat.le_refl _, upb hb3 HB2.out.2, HO.nil _ _⟩, hop.lower HB2.out.1.size⟩
  have HS := Lib.hid hS
  clear hop hb3 hps hpl hpi hS HB2 HPr
  go_wp2_with fail
  go_loopw [7] (fun iv wr => ∃ j : Nat, iv = .int .i64 j ∧ j ≤ n ∧ Hid (State w ps (.slice ap n cp) j wr)) (fun iv _ => n - (intOf iv).toNat)
  case atStart => exact ⟨0, rfl, Nat.zero_le _, HS⟩
  case round =>
    obtain ⟨j, rfl, hj, HF⟩ := hrel
    obtain ⟨p, hT, hrow⟩ := HF.out
    have j0 : (0 : Int) ≤ (j : Int) := by omega
    have hfa := fillI_facts (ps.take j) (fun p hp => HPS.out.2 p (List.mem_of_mem_take hp)) none trivial
    have HFa : Hid (OOk (fillI (ps.take j)) ∧ ocnt (fillI (ps.take j)) ≤ j) := Lib.hid ⟨hfa.1, by
      have h := hfa.2
      rw [List.length_take] at h
      have e : ocnt none = 0 := rfl
      have e2 : fillI (ps.take j) = List.foldl (fun o p => putI o p.1 p.2) none (ps.take j) := rfl
      rw [e2]
      omega⟩
    clear hfa
    have kb := cell_of_one hT.b0
    by_cases hlt : j < n
    · obtain ⟨qa, oa, hap, q1, q2⟩ := (OwnP.reads hrow).at (k := j) (by rw [HPS.out.1]; exact hlt)
      subst hap
      have hsn := fillI_snoc ps j (by rw [HPS.out.1]; exact hlt)
      have hik : I64 (ps.getD j (0, 0)).1 := HPS.out.2 _ (by rw [List.getD_eq_getElem?_getD, List.getElem?_eq_getElem (by rw [HPS.out.1]; exact hlt)]; exact List.getElem_mem _)
      obtain ⟨y, hy⟩ : ∃ y, y = ps.getD j (0, 0) := ⟨_, rfl⟩
      obtain ⟨y1, y2⟩ := y
      rw [← hy] at q1 q2 hsn hik
      dsimp only at q1 q2 hsn hik
      have j1 : (j : Int) < (n : Int) := by omega
      have HC := Lib.hid (fun W (hW : Below wr.heap.size wr W) => Put_any w.heap.size W p (fillI (ps.take j)) y1 y2 (szle hW hT.bel.size) (hT.h0.up hW) HFa.out.1 hik (by have := HFa.out.2; omega))
      have HX := Lib.hid (And.intro hT (And.intro hrow hsn))
      clear hy hT hrow hsn hik HF
      go_wp2_with fail
      go_region_with (first | (go_at_call 9; refine (HC.out _ (by exact belowDrew _)).mono ?_; rintro e w4 ⟨p3, rfl, hp3, hb4⟩; replace hb4 := belowTrans (belowDrew _) hb4; have hT3 := HX.out.1.up hb4; have hr3 := HX.out.2.1.up hb4; have c0 := cell_of_one hT3.b0; have f0 := free_of_one hT3.b0))
      all_goals
        have HF2 : Hid (State w ps (.slice (some ⟨qa, oa, none⟩) n cp) (j + 1) (w4.setCell ⟨w.heap.size, 0, none⟩ (.pointer p3))) := Lib.hid ⟨p3, by rw [HX.out.2.2]; exact hT3.set hp3, hT3.row hr3⟩
        clear hp3 hb4 hT3 hr3 c0 f0 kb q1 q2
        go_wp2_with fail
        go_roundw
        case rel => exact ⟨j + 1, by go_num, hlt, HF2⟩
        case measure => simp [intOf]; omega
    · obtain rfl : n = j := by omega
      rw [show ps.take n = ps from List.take_of_length_le (by rw [HPS.out.1]; exact Nat.le_refl _)] at hT HFa
      obtain ⟨o, ho⟩ : ∃ o, o = fillI ps := ⟨_, rfl⟩
      rw [← ho] at hT HFa
      obtain ⟨m, hm⟩ : ∃ m, ocnt o = m := ⟨_, rfl⟩
      obtain ⟨xs, hx⟩ : ∃ xs, told o = xs := ⟨_, rfl⟩
      have hxl : xs.length = m := by rw [← hx, ← hm]; exact told_len HFa.out.1
      have HO1 : Hid (OOk o ∧ ocnt o = m ∧ told o = xs ∧ xs.length = m) := Lib.hid ⟨HFa.out.1, hm, hx, hxl⟩
      have hmn : m ≤ n := by rw [← hm]; exact HFa.out.2
      have hT' := hT.up (belowAlloc wr (.cells #[] 31))
      have HPn := Lib.hid (fun W (hW : Below wr.heap.size wr W) => Pairs_num w.heap.size W p o m (hT.h0.up hW) HO1.out.1 HO1.out.2.1 (by omega) xs HO1.out.2.2.1)
      have HT := Lib.hid hT
      have kb2 := upc (belowAlloc wr (.cells #[] 31)) kb
      clear hT hrow ho hm hx hxl hT' HF HFa HS
      go_wp2_with fail
      refine (HPn.out _ (by exact belowAlloc _ _)).mono ?_
      rintro e w5 ⟨a5, c5, rfl, ho5, hb5⟩
      have hbr5 := belowTrans (belowAlloc wr (.cells #[] 31)) hb5
      have hrow : w5.ownsRow wr.heap.size 31 2 (.slice (some ⟨wr.heap.size, 0, none⟩) 0 0) 0 [] :=
        ⟨rfl, .inr ⟨wr.heap.size, 0, #[], rfl, Nat.le_refl _, upb hb5 (heap_alloc_new wr (.cells #[] 31)), Nat.le_refl _, Nat.zero_le _, rfl, rfl⟩⟩
      have Hrow := Lib.hid hrow
      have HT5 := Lib.hid (HT.out.up hbr5)
      have Hb5 := Lib.hid hbr5
      have hnil : a5 = none → m = 0 ∧ c5 = 0 := by
        intro h
        subst h
        obtain ⟨a', c', e, hn, hrd, _⟩ := ho5.form
        cases e
        refine ⟨?_, hn rfl⟩
        rcases hrd with h | ⟨b, o, h, _⟩
        · rw [← HO1.out.2.2.2, h]; rfl
        · cases h
      have hsome : ∀ ad, a5 = some ad → ∀ j u, (cellsP xs)[j]? = some u → w5.cell? (ad.add j) = some u := by
        intro ad h
        subst h
        obtain ⟨a', c', e, hn, hrd, hg⟩ := ho5.form
        cases e
        obtain ⟨g, rfl, _⟩ := hg _ rfl
        intro j u hu
        exact World.ownsRow.cells ho5 rfl j u hu
      have Hnil := Lib.hid hnil
      have Hsome := Lib.hid hsome
      have HPn5 := Lib.hid (fun W (hW : Below w5.heap.size w5 W) => HPn.out W (belowTrans hbr5 hW))
      have hsz5 := hbr5.size
      clear hb5 hbr5 hrow ho5 hnil hsome HPn5 kb kb2
      go_wp2_with (at_builtin; obtain ⟨hi, hz0, hz1, hz2⟩ := Hi.out; refine wpList_append_row _ rfl (.tmp 36) (.tmp 38) 28 rfl wr.heap.size 31 i0 (.agg #[.int .i64 0, .int .i64 0]) 2 16 Try.underlying28 hi hz0 hz1 hz2 rfl (by decide) (.slice (some ⟨wr.heap.size, 0, none⟩) 0 0) 0 [] rfl Hrow.out a5 m c5 (cellsP xs) rfl Hnil.out ?c1 Hsome.out (cellsP_one xs) ?c2 ?c3 ?c4 ?_)
      case c1 => rw [cellsP_length, HO1.out.2.2.2]
      case c2 => unfold maxLen; omega
      case c3 => omega
      case c4 => exact hsz5
      intro v8 w6 hown8 hgrow8
      have ho8 : OwnP w6 wr.heap.size v8 xs := by
        unfold OwnP
        rw [HO1.out.2.2.2]
        simpa using hown8
      have hb6 : Below wr.heap.size wr w6 := Below.grown Hb5.out hgrow8 hsz5 (fun k hk => by cases hk; exact Nat.le_refl _)
      obtain ⟨a8, c8, hv8, -⟩ := ho8.form
      rw [HO1.out.2.2.2] at hv8
      subst hv8
      have HT6 := Lib.hid (HT.out.up hb6)
      have HO8 := Lib.hid ho8
      have HPn6 := Lib.hid (fun W (hW : Below w6.heap.size w6 W) => HPn.out W (belowTrans hb6 hW))
      have kb := cell_of_one HT6.out.b0
      clear hown8 hgrow8 ho8 hb6 HPn HT5 HT Hrow Hnil Hsome Hb5 hsz5
      go_wp2_with fail
      refine (HPn6.out w6 (Below.refl _ _)).mono ?_
      rintro e w7 ⟨a9, c9, rfl, ho9, hb7⟩
      have HB7 := Lib.hid hb7
      have hrow9 : w7.ownsRow w6.heap.size 31 2 (.slice a9 m c9) m (cellsP xs) := by
        have h := ho9
        unfold OwnP at h
        rw [HO1.out.2.2.2] at h
        exact h
      have hblk := ho9.block
      have hat : 0 < m → ∃ g, a9 = some ⟨g, 0, none⟩ := by
        intro hm
        obtain ⟨g, cap, e, _⟩ := rowCell hrow9 hm
        cases e
        exact ⟨g, rfl⟩
      have HA9 := Lib.hid (And.intro hblk hat)
      have HI9 : Hid (FilledR 31 2 w6.heap.size (.slice a9 m c9) m w7 w7) := Lib.hid (FilledR.start hrow9)
      have hmp : (0 : Int) ≤ (m : Int) := by omega
      clear hb7 hrow9 hblk hat ho9 kb
      obtain ⟨wo, rfl⟩ : ∃ wo : World, wo = wr := ⟨_, rfl⟩
      go_wp2_with fail
      go_loopw [10] (fun iv wr => ∃ j : Nat, iv = .int .i64 j ∧ j ≤ m ∧ Hid (FilledR 31 2 w6.heap.size (.slice a9 m c9) m w7 wr)) (fun iv _ => m - (intOf iv).toNat)
      case atStart => exact ⟨0, rfl, Nat.zero_le _, HI9⟩
      case round =>
        obtain ⟨j, rfl, hj, HG⟩ := hrel
        by_cases hlj : j < m
        · obtain ⟨g, hg⟩ := HA9.out.2 (by omega)
          subst hg
          obtain ⟨u, hc, hf⟩ := HG.out.cell (j * 2) (by omega)
          have HG' := Lib.hid (HG.out.step (j * 2) (.int .i64 x))
          have h0 : (0 : Int) ≤ (j : Int) := by omega
          have h1 : (j : Int) < (m : Int) := by omega
          go_wp2_with fail
          go_roundw
          case rel => exact ⟨j + 1, by go_num, hlj, HG'⟩
          case measure => simp [intOf]; omega
        · have hb8 := HG.out.old w6 HB7.out (fun b hb => (HA9.out.1 b (by first | exact hb | (rw [HO1.out.2.2.2] at *; exact hb))).1)
          have HT8 := Lib.hid (HT6.out.up hb8)
          have HO88 := Lib.hid (HO8.out.up hb8)
          have HP8 := Lib.hid (HPn6.out wr hb8)
          have kb := cell_of_one HT8.out.b0
          clear hb8 HG
          go_wp2_with fail
          refine HP8.out.mono ?_
          rintro e w9 ⟨aA, cA, rfl, hoA, hbA⟩
          have HS := Lib.hid (samePairs_any aA a8 cA c8 m m xs xs w9 HO1.out.2.2.2 HO1.out.2.2.2 (OwnP.reads hoA) (OwnP.reads (HO88.out.up hbA)) (by unfold maxLen; omega) true (decide_eq_true rfl))
          have HE := Lib.hid (HT8.out.up hbA).bel
          clear hoA hbA kb
          go_wp2_with fail
          refine HS.out.mono ?_
          rintro e wB ⟨rfl, qq, hU⟩
          have HE2 : Hid (Below w.heap.size w wB) := Lib.hid (by rw [hU]; exact belowTrans HE.out (belowDrewN _ _))
          clear hU
          go_wp2_with fail
          go_ret
          exact ⟨rfl, HE2.out⟩

theorem owns_any (a : Option Addr) (c : Nat) (l : List Int) (x : Int) (w : World) (hb : l.length ≤ 1048576) (hr : Reads w a l) (hi : ∀ x ∈ l, I64 x) :
    Calls Try.prog 3 #[.slice a l.length c, .int .i64 x] w fun e w' => e = .returned (.bool true) ∧ Below w.heap.size w w' :=
  owns a c l.length l x w rfl hb hr hi
end Go.Proofs.Ytenaddjnaeebbaa.hamt
