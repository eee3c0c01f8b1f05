/- The law of who writes into a list: package seq. (Printed by fl.py.) Whatever the list: true; what was there stays. -/
import Derived.Test.YtnigadnjppeckaaSeq
import Derived.Test.YtnigadnjppeckaaSame
import Derived.Test.YtnigadnjppeckaaFill
namespace Go.Proofs.Ytnigadnjppeckaa.seq
open Go.RowKit Go

set_option maxRecDepth 100000 in
set_option maxHeartbeats 4000000 in
theorem law (a : Option Addr) (c : Nat) (l : List Int) (x : Int) (w : World) (hlen : l.length * 8 ≤ 140737488351232) (hr : Reads w a l) (hn : a = none → c = 0) :
    Calls Try.prog 4 #[.slice a l.length c, .int .i64 x] w fun e w' => e = .returned (.bool true) ∧ Below w.heap.size w w' := by
  have hcat := cat_any a c l w hlen hr hn
  obtain ⟨n, hnl⟩ : ∃ n, n = l.length := ⟨_, rfl⟩
  have hn8 : n ≤ 17592186043904 := by omega
  rw [← hnl] at hcat ⊢
  have Hn := Lib.hid hnl
  clear hr hn hlen hnl
  go_enter Try.func4, Try.ntmps4
  go_wp2_with fail
  refine hcat.mono ?_
  rintro e w1 ⟨a1, c1, rfl, ho1, hb1⟩
  rw [← Hn.out]
  have Ho1 := Lib.hid ho1
  have hOf := Of_all w1 a1 c1 l (by rw [← Hn.out]; omega) ho1.reads
  rw [← Hn.out] at hOf
  clear ho1 hcat
  go_wp2_with fail
  refine hOf.mono ?_
  rintro e w2 ⟨p, he, hin, hb2⟩
  obtain ⟨t, ht⟩ : ∃ t, t = l := ⟨_, rfl⟩
  rw [← ht] at hin
  subst he
  have hts : t.length ≤ l.length := by rw [ht]; exact Nat.le_refl _
  clear ht
  rw [← Hn.out] at hts
  clear hOf
  have hfive := Of_five ((w2.alloc (.cells #[.pointer p] 35)).alloc (.cells #[.int .i64 5] 3)) (w2.heap.size + 1) (heapNew2 _ _ _)
  have Hin := Lib.hid hin
  clear hin
  go_wp2_with fail
  refine hfive.mono ?_
  rintro e w3 ⟨p5, rfl, hin5, hb3⟩
  have hlen5 := Len_one w3 p5 _ 5 hin5
  have hb23 := belowTrans (belowTrans (belowAlloc w2 (.cells #[.pointer p] 35)) (belowAlloc _ (.cells #[.int .i64 5] 3))) hb3
  have hbox := upb hb3 (heapNew1 w2 (.cells #[.pointer p] 35) (.cells #[.int .i64 5] 3))
  clear hfive hin5 hb3
  go_wp2_with fail
  refine hlen5.mono ?_
  rintro e w4 ⟨rfl, hw4⟩
  have hb24 : Below w2.heap.size w2 w4 := belowTrans hb23 hw4
  have hbox4 : w4.heap[w2.heap.size]? = some (.cells #[.pointer p] 35 (0, 0)) := upb hw4 hbox
  have kb4 := cell_of_one hbox4
  have Hbox := Lib.hid hbox4
  have Hin4 := Lib.hid (Hin.out.up hb24)
  have Hb24 := Lib.hid hb24
  clear hw4 hlen5 hb23 hbox hbox4 hb24
  go_wp2_with fail
  refine (ints_all _ w4 p t Hin4.out (by omega)).mono ?_
  rintro e w5 ⟨a5, c5, rfl, ho5, hb5⟩
  have hcat5 := cat_any a5 c5 t w5 (by omega) ho5.reads ho5.none
  go_wp2_with fail
  refine hcat5.mono ?_
  rintro e w6 ⟨a6, c6, rfl, ho6, hb6⟩
  have hb46 := belowTrans hb5 hb6
  have hbox6 := upb hb46 Hbox.out
  have Hin6 := Lib.hid (Hin4.out.up hb46)
  have Ho16 := Lib.hid (Ho1.out.up (belowTrans (belowTrans hb2 Hb24.out) hb46))
  have Ho6 := Lib.hid ho6
  have Hb06 := Lib.hid (belowTrans (belowTrans (belowTrans hb1 hb2) Hb24.out) hb46)
  have hsz6 : w.heap.size ≤ w1.heap.size ∧ w1.heap.size ≤ w2.heap.size ∧ w2.heap.size < w4.heap.size ∧ w4.heap.size ≤ w5.heap.size ∧ w5.heap.size ≤ w6.heap.size :=
    ⟨hb1.size, hb2.size, (Array.getElem?_eq_some_iff.1 Hbox.out).1, hb5.size, hb6.size⟩
  have Hbox6 := Lib.hid hbox6
  clear hcat5 ho5 ho6 hb5 hb6 hb46 kb4 hbox6 Hin4 Hb24 Hbox Hin hb1 hb2
  go_wp2_with fail
  have ho16 := Ho16.out
  rw [← Hn.out] at ho16
  have hblk : ∀ b, (Value.slice a1 n c1).ownBlock = some b → w.heap.size ≤ b ∧ b < w1.heap.size := by
    have h := Ho1.out
    rw [← Hn.out] at h
    exact h.block
  have Hblk := Lib.hid hblk
  have Hown := Lib.hid ho16
  clear Ho16 Ho1 ho16 hblk
  go_loopw [9] (fun i wr => ∃ k : Nat, k ≤ n ∧ i = .int .i64 k ∧ Hid (Filled 3 w.heap.size (.slice a1 n c1) n w6 wr)) (fun i _ => n - (intOf i).toNat)
  case atStart => exact ⟨0, Nat.zero_le _, rfl, Lib.hid (Filled.start (by have h := Hown.out; unfold OwnI at h; rw [← Hn.out] at h; exact h))⟩
  case round =>
    obtain ⟨k, hk, rfl, HF⟩ := hrel
    by_cases hlt : k < n
    · obtain ⟨g, hg⟩ : ∃ g, a1 = some ⟨g, 0, none⟩ := by
        have h := Hown.out
        obtain ⟨a', c', e, _, hr, hg⟩ := h.form
        have e' : a1 = a' := by injection e
        rcases hr with hr | ⟨b, o, ha, _⟩
        · rw [hr] at Hn
          have := Hn.out
          simp at this
          omega
        · obtain ⟨g, hx, _⟩ := hg _ ha
          exact ⟨g, by rw [e', ha, hx]⟩
      subst hg
      obtain ⟨u, hc, hf⟩ := HF.out.cell k hlt
      have HF' := Lib.hid (HF.out.step k (.int .i64 x))
      have h0 : (0 : Int) ≤ (k : Int) := by omega
      have h1 : (k : Int) < (n : Int) := by omega
      go_wp2_with fail
      exact ⟨⟨k + 1, by omega, by go_num, HF'⟩, by simp [intOf]; omega⟩
    · have hinr := finger.TIn.frame (fun b cs ty hB _ hx => (HF.out.block b (fun e => by have h := (Hblk.out b e).2; omega)).trans hx) Hin6.out
      have ho6r := HF.out.ownI Ho6.out (fun b hb e => by have h1 := (Hblk.out b hb).2; have h2 := (Ho6.out.block b e).1; omega)
      have hboxr := (HF.out.block w2.heap.size (fun e => by have h1 := (Hblk.out _ e).2; omega)).trans Hbox6.out
      have hbr := HF.out.below Hb06.out (fun b hb => (Hblk.out b hb).1)
      have hszr := HF.out.size
      have kbr := cell_of_one hboxr
      have Hinr := Lib.hid hinr
      have Ho6r := Lib.hid ho6r
      have Hboxr := Lib.hid hboxr
      have Hbr := Lib.hid hbr
      clear hinr ho6r hboxr hbr HF
      go_wp2_with fail
      refine (ints_all _ wr p t Hinr.out (by omega)).mono ?_
      rintro e w7 ⟨a7, c7, rfl, ho7, hb7⟩
      have Ho7 := Lib.hid ho7
      have Ho67 := Lib.hid (Ho6r.out.up hb7)
      have Hin7 := Lib.hid (Hinr.out.up hb7)
      have Hbox7 := Lib.hid (upb hb7 Hboxr.out)
      have Hb07 := Lib.hid (belowTrans Hbr.out hb7)
      have hsz7 := hb7.size
      have Hb7 := Lib.hid hb7
      clear ho7 hb7 kbr
      go_wp2_with fail
      refine (sameInts_any a7 a6 c7 c6 t t w7 Ho7.out.reads Ho67.out.reads (by unfold maxLen; omega)).mono ?_
      rintro e w8 ⟨rfl, q8, rfl⟩
      have hdec : decide (t = t) = true := by simp
      rw [hdec]
      clear hdec
      go_wp2_with fail
      have hm : t.length ≤ n := hts
      have hblk7 : ∀ b, (Value.slice a7 t.length c7).ownBlock = some b → wr.heap.size ≤ b ∧ b < w7.heap.size := Ho7.out.block
      have Hblk7 := Lib.hid hblk7
      have hm0 : (0 : Int) ≤ (t.length : Int) := by omega
      have hm1 : (t.length : Int) ≤ (n : Int) := by omega
      clear hblk7
      obtain ⟨wo, rfl⟩ : ∃ wo : World, wo = wr := ⟨_, rfl⟩
      go_loopw [12] (fun i wq => ∃ k : Nat, k ≤ t.length ∧ i = .int .i64 k ∧ Hid (Filled 3 wo.heap.size (.slice a7 t.length c7) t.length (w7.drewN q8) wq)) (fun i _ => t.length - (intOf i).toNat)
      case atStart => exact ⟨0, Nat.zero_le _, rfl, Lib.hid (Filled.start (by have h := Ho7.out; exact h))⟩
      case round =>
        obtain ⟨j, hj, rfl, HG⟩ := hrel
        by_cases hlj : j < t.length
        · obtain ⟨g, hg⟩ : ∃ g, a7 = some ⟨g, 0, none⟩ := by
            have h := Ho7.out
            obtain ⟨a', c', e, _, hr, hg⟩ := h.form
            have e' : a7 = a' := by injection e
            rcases hr with hr | ⟨b, o, ha, _⟩
            · rw [hr] at hlj
              simp at hlj
            · obtain ⟨g, hx, _⟩ := hg _ ha
              exact ⟨g, by rw [e', ha, hx]⟩
          subst hg
          obtain ⟨u, hc, hf⟩ := HG.out.cell j hlj
          have HG' := Lib.hid (HG.out.step j (.int .i64 x))
          have h0 : (0 : Int) ≤ (j : Int) := by omega
          have h1 : (j : Int) < (t.length : Int) := by omega
          go_wp2_with fail
          exact ⟨⟨j + 1, by omega, by go_num, HG'⟩, by simp [intOf]; omega⟩
        · have hbo : Below wo.heap.size wo wr := HG.out.below (belowTrans Hb7.out (belowDrewN _ _)) (fun b hb => (Hblk7.out b hb).1)
          have Hin8 := Lib.hid (Hinr.out.up hbo)
          have Ho68 := Lib.hid (Ho6r.out.up hbo)
          have kb8 := cell_of_one (upb hbo Hboxr.out)
          have Hb08 := Lib.hid (belowTrans Hbr.out hbo)
          clear hbo HG
          go_wp2_with fail
          refine (ints_all _ wr p t Hin8.out (by omega)).mono ?_
          rintro e w9 ⟨a9, c9, rfl, ho9, hb9⟩
          have Ho69 := Lib.hid (Ho68.out.up hb9)
          have Ho9 := Lib.hid ho9
          have Hb09 := Lib.hid (belowTrans Hb08.out hb9)
          clear ho9 hb9 kb8
          go_wp2_with fail
          refine (sameInts_any a9 a6 c9 c6 t t w9 Ho9.out.reads Ho69.out.reads (by unfold maxLen; omega)).mono ?_
          rintro e w10 ⟨rfl, q10, rfl⟩
          have hdec : decide (t = t) = true := by simp
          rw [hdec]
          clear hdec
          go_wp2_with fail
          go_ret
          exact ⟨rfl, belowTrans Hb09.out (belowDrewN _ _)⟩
end Go.Proofs.Ytnigadnjppeckaa.seq
