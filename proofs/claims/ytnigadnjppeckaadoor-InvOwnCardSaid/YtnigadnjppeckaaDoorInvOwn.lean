/- The law of who writes into a list: package inv. Whatever the list: true; what was there stays. -/
import Derived.Test.YtnigadnjppeckaaDoorLehmer
import Derived.Test.YtnigadnjppeckaaDoorSame
import Derived.Test.YtnigadnjppeckaaDoorCat
import Derived.Test.YtnigadnjppeckaaDoorFill
namespace Go.Proofs.YtnigadnjppeckaaDoor.inv
open Go.RowKit Go

theorem Lehmer_any (w : World) (a : Option Addr) (c n : Nat) (p : List Int) (hl : n = p.length) (hc : n ≤ c) (hr : Reads w a p) : Calls Tryd.prog 6 #[.slice a n c] w (RetO w n (chk p)) := by
  by_cases h : chk p = 0
  · rw [h]
    refine Lehmer_good w a c n p hl hc hr ?_ h
    unfold chk at h
    split at h
    · cases h
    · omega
  · exact Lehmer_bad w a c n p hl hc hr h
set_option maxHeartbeats 400000 in
theorem told2_any (k m : Int) (w : World) (hg : er.Handle w) : Calls Tryd.prog 9 #[er.errV k, er.errV m] w fun e w' => e = .returned (.bool (k == m)) ∧ Below w.heap.size w w' := by
  have H1 := Lib.hid (er.told_any k w hg)
  have H2 := Lib.hid (fun W (hW : Below w.heap.size w W) => er.told_any m W (hg.up hW))
  obtain ⟨v1, hv1⟩ : ∃ v1, v1 = er.errV k := ⟨_, rfl⟩
  obtain ⟨v2, hv2⟩ : ∃ v2, v2 = er.errV m := ⟨_, rfl⟩
  rw [← hv1] at H1 ⊢
  rw [← hv2] at H2 ⊢
  clear hv1 hv2 hg
  go_enter Tryd.func9, Tryd.ntmps9
  go_wp2_with fail
  refine H1.out.mono ?_
  rintro e w1 ⟨rfl, hb1⟩
  have H2' := Lib.hid (H2.out w1 hb1)
  have Hb1 := Lib.hid hb1
  clear hb1 H1 H2
  go_wp2_with fail
  refine H2'.out.mono ?_
  rintro e w2 ⟨rfl, hb2⟩
  have Hb2 := Lib.hid (belowTrans Hb1.out hb2)
  clear hb2 H2'
  go_wp2_with fail
  go_ret
  exact ⟨rfl, Hb2.out⟩
theorem own_cap {w : World} {B n c : Nat} {a : Option Addr} {xs : List Int} (h : OwnI 3 w B (.slice a n c) xs) : xs.length ≤ c := by
  rcases h.2 with ⟨e1, e2⟩ | ⟨g, cap, cur, e1, _, _, e3, _⟩
  · omega
  · injection e1 with _ _ e4
    omega
/-- a row of the call's own in which a number is written has a block -/
theorem own_block {w : World} {B n c k : Nat} {a : Option Addr} {xs : List Int} (h : OwnI 3 w B (.slice a n c) xs) (hk : k < xs.length) : ∃ g, a = some ⟨g, 0, none⟩ := by
  rcases h.2 with ⟨e1, e2⟩ | ⟨g, cap, cur, e1, _⟩
  · omega
  · injection e1 with e4 _ _
    exact ⟨g, e4⟩
set_option maxRecDepth 100000 in
set_option maxHeartbeats 8000000 in
theorem law (a : Option Addr) (c : Nat) (p : List Int) (x : Int) (w : World) (hlen : p.length * 8 ≤ 140737488351232) (hr : Reads w a p) (hnn : a = none → c = 0) (hcap : p.length ≤ c) (hg : er.Handle w) :
    Calls Tryd.prog 3 #[.slice a p.length c, .int .i64 x] w fun e w' => e = .returned (.bool true) ∧ Below w.heap.size w w' := by
  have hcat := cat_any a c p w hlen hr hnn
  obtain ⟨n, hnl⟩ : ∃ n, n = p.length := ⟨_, rfl⟩
  have hn8 : n ≤ 17592186043904 := by omega
  rw [← hnl] at hcat ⊢
  have Hn := Lib.hid hnl
  have Hr := Lib.hid (And.intro hr (And.intro hnn (And.intro hcap hg)))
  obtain ⟨N, hN⟩ : ∃ N, N = (srtF 45 p).2 := ⟨_, rfl⟩
  have HN := Lib.hid hN
  obtain ⟨L1, hL1⟩ : ∃ L1, L1 = (if chk p = 0 then n else 0) := ⟨_, rfl⟩
  obtain ⟨L2, hL2⟩ : ∃ L2, L2 = (if ordF p = 0 then n else 0) := ⟨_, rfl⟩
  have HL := Lib.hid (And.intro hL1 hL2)
  have hL1n : L1 ≤ n := by rw [hL1]; split <;> omega
  have hL2n : L2 ≤ n := by rw [hL2]; split <;> omega
  clear hr hnn hcap hlen hnl hN hL1 hL2 hg
  go_enter Tryd.func3, Tryd.ntmps3
  go_wp2_with fail
  refine hcat.mono ?_
  rintro e w1 ⟨a1, c1, rfl, ho1, hb1⟩
  rw [← Hn.out]
  have hc1 := Count_any 45 p a1 c1 w1 ho1.reads ho1.none (own_cap ho1) (by rw [← Hn.out]; omega) (by rw [← Hn.out]; omega)
  rw [← Hn.out, ← HN.out] at hc1
  have HC1 := Lib.hid hc1
  have H1 := Lib.hid (And.intro ho1 hb1)
  clear ho1 hb1 hcat hc1
  go_wp2_with fail
  refine HC1.out.mono ?_
  rintro e w2 ⟨rfl, hb2⟩
  have HLe := Lib.hid (Lehmer_any w2 a1 c1 n p Hn.out (by rw [Hn.out]; exact own_cap H1.out.1) (H1.out.1.up hb2).reads)
  have H2 := Lib.hid hb2
  clear hb2 HC1
  go_wp2_with fail
  refine HLe.out.mono ?_
  rintro e w3 ⟨va, ca, xs, rfl, hoa, hxl, hb3⟩
  rw [← HL.out.1] at hxl
  rw [hxl]
  have HOr := Lib.hid (Order_any w3 a1 c1 n p Hn.out (by rw [Hn.out]; exact own_cap H1.out.1) (H1.out.1.up (belowTrans H2.out hb3)).reads)
  have H3 := Lib.hid (And.intro hoa (And.intro hxl hb3))
  clear hoa hxl hb3 HLe
  go_wp2_with fail
  refine HOr.out.mono ?_
  rintro e w4 ⟨vb, cb, ys, rfl, hob, hyl, hb4⟩
  rw [← HL.out.2] at hyl
  rw [hyl]
  have hrd : Reads (w4.alloc (.cells #[.int .i64 3, .int .i64 1, .int .i64 2] 3)) (some ⟨w4.heap.size, 0, none⟩) [3, 1, 2] := .inr ⟨_, 0, rfl, fun i hi => by
    rw [cell_of_row _ _ _ _ _ _ (heap_alloc_new w4 _)]
    rcases i with _ | _ | _ | i
    · rfl
    · rfl
    · rfl
    · simp at hi
      omega⟩
  have hc5 := Count_any 2 [3, 1, 2] (some ⟨w4.heap.size, 0, none⟩) 3 (w4.alloc (.cells #[.int .i64 3, .int .i64 1, .int .i64 2] 3)) hrd (fun h => by cases h) (by simp) (by simp) (by simp)
  rw [count_312] at hc5
  have HC5 := Lib.hid hc5
  have H4 := Lib.hid (And.intro hob (And.intro hyl hb4))
  clear hob hyl hb4 HOr hrd hc5
  go_wp2_with fail
  refine HC5.out.mono ?_
  rintro e w5 ⟨rfl, hb5⟩
  have hb45 := belowTrans (belowAlloc w4 (.cells #[.int .i64 3, .int .i64 1, .int .i64 2] 3)) hb5
  have hA5 : OwnI 3 w5 w2.heap.size (.slice va L1 ca) xs := by
    have h := H3.out.1
    rw [H3.out.2.1] at h
    exact h.up (belowTrans H4.out.2.2 hb45)
  have hB5 : OwnI 3 w5 w3.heap.size (.slice vb L2 cb) ys := by
    have h := H4.out.1
    rw [H4.out.2.1] at h
    exact h.up hb45
  have hba : ∀ b, (Value.slice va L1 ca).ownBlock = some b → w2.heap.size ≤ b ∧ b < w3.heap.size := by
    have h := H3.out.1.block
    rw [H3.out.2.1] at h
    exact h
  have hbb : ∀ b, (Value.slice vb L2 cb).ownBlock = some b → w3.heap.size ≤ b := fun b hb => (hB5.block b hb).1
  have hbo : ∀ b, (Value.slice a1 n c1).ownBlock = some b → b < w1.heap.size := by
    have h := H1.out.1.block
    rw [← Hn.out] at h
    exact fun b hb => (h b hb).2
  have hO5 : OwnI 3 w5 w.heap.size (.slice a1 n c1) p := by
    have h := H1.out.1
    rw [← Hn.out] at h
    exact h.up (belowTrans H2.out (belowTrans H3.out.2.2 (belowTrans H4.out.2.2 hb45)))
  have hb15 : Below w.heap.size w w5 := belowTrans H1.out.2 (belowTrans H2.out (belowTrans H3.out.2.2 (belowTrans H4.out.2.2 hb45)))
  have hs : w.heap.size ≤ w1.heap.size ∧ w1.heap.size ≤ w2.heap.size ∧ w2.heap.size ≤ w3.heap.size := ⟨H1.out.2.size, H2.out.size, H3.out.2.2.size⟩
  have HA := Lib.hid hA5
  have HB := Lib.hid hB5
  have HO := Lib.hid hO5
  have Hbk := Lib.hid (And.intro hba (And.intro hbb (And.intro hbo (And.intro hb15 hs))))
  have HX := Lib.hid (And.intro H3.out.2.1 H4.out.2.1)
  clear hA5 hB5 hba hbb hbo hO5 hb15 hs hb45 hb5 HC5 H1 H2 H3 H4
  go_wp2_with fail
  go_loopw [11] (fun i wr => ∃ k : Nat, k ≤ L1 ∧ i = .int .i64 k ∧ Hid (Filled 3 w2.heap.size (.slice va L1 ca) L1 w5 wr)) (fun i _ => L1 - (intOf i).toNat)
  case atStart => exact ⟨0, Nat.zero_le _, rfl, Lib.hid (Filled.start (by have h := HA.out; unfold OwnI at h; rw [HX.out.1] at h; exact h))⟩
  case round =>
    obtain ⟨k, hk, rfl, HF⟩ := hrel
    by_cases hlt : k < L1
    · obtain ⟨g, rfl⟩ := own_block HA.out (k := k) (by rw [HX.out.1]; exact hlt)
      obtain ⟨u, hc, hf⟩ := HF.out.cell k hlt
      have HF' := Lib.hid (HF.out.step k (.int .i64 x))
      have h0 : (0 : Int) ≤ (k : Int) := by omega
      have h1 : (k : Int) < (L1 : Int) := by omega
      go_wp2_with fail
      exact ⟨⟨k + 1, by omega, by go_num, HF'⟩, by simp [intOf]; omega⟩
    · obtain ⟨hba, hbb, hbo, hb15, hs0, hs1, hs2⟩ := Hbk.out
      have hB6 := HF.out.ownI HB.out (fun b hb e => by have h1 := (hba b hb).2; have h2 := hbb b e; omega)
      have hO6 := HF.out.ownI HO.out (fun b hb e => by have h1 := (hba b hb).1; have h2 := hbo b e; omega)
      have hb6 := HF.out.below hb15 (fun b hb => by have h1 := (hba b hb).1; omega)
      have HB6 := Lib.hid hB6
      have HO6 := Lib.hid hO6
      have Hb6 := Lib.hid hb6
      have Hs := Lib.hid (And.intro hbb (And.intro hbo (And.intro hs0 (And.intro hs1 hs2))))
      clear hB6 hO6 hb6 HF hba hbb hbo hb15 hs0 hs1 hs2 Hbk HO HB HA
      go_wp2_with fail
      obtain ⟨V, rfl⟩ : ∃ V : World, V = wr := ⟨_, rfl⟩
      go_loopw [12] (fun i wq => ∃ k : Nat, k ≤ L2 ∧ i = .int .i64 k ∧ Hid (Filled 3 w3.heap.size (.slice vb L2 cb) L2 V wq)) (fun i _ => L2 - (intOf i).toNat)
      case atStart => exact ⟨0, Nat.zero_le _, rfl, Lib.hid (Filled.start (by have h := HB6.out; unfold OwnI at h; rw [HX.out.2] at h; exact h))⟩
      case round =>
        obtain ⟨k, hk, rfl, HG⟩ := hrel
        by_cases hlk : k < L2
        · obtain ⟨g, rfl⟩ := own_block HB6.out (k := k) (by rw [HX.out.2]; exact hlk)
          obtain ⟨u, hc, hf⟩ := HG.out.cell k hlk
          have HG' := Lib.hid (HG.out.step k (.int .i64 x))
          have h0 : (0 : Int) ≤ (k : Int) := by omega
          have h1 : (k : Int) < (L2 : Int) := by omega
          go_wp2_with fail
          exact ⟨⟨k + 1, by omega, by go_num, HG'⟩, by simp [intOf]; omega⟩
        · obtain ⟨hbb, hbo, hs0, hs1, hs2⟩ := Hs.out
          have hO7 := HG.out.ownI HO6.out (fun b hb e => by have h1 := hbb b hb; have h2 := hbo b e; omega)
          have hb7 := HG.out.below Hb6.out (fun b hb => by have h1 := hbb b hb; omega)
          have HO7 := Lib.hid hO7
          have Hb7 := Lib.hid hb7
          clear hO7 hb7 HG hbb hbo hs0 hs1 hs2 HO6 Hb6 HB6 Hs
          go_wp2_with fail
          have hS := sameInts_any a1 a c1 c p p wr HO7.out.reads (Hr.out.1.up Hb7.out) (by rw [← Hn.out]; unfold maxLen; omega)
          rw [← Hn.out] at hS
          refine hS.mono ?_
          rintro e w8 ⟨rfl, q8, rfl⟩
          have hdec : decide (p = p) = true := by simp
          rw [hdec]
          clear hdec hS
          have hb8 := belowTrans Hb7.out (belowDrewN wr q8)
          have HLe := Lib.hid (Lehmer_any (wr.drewN q8) a c n p Hn.out (by rw [Hn.out]; exact Hr.out.2.2.1) (Hr.out.1.up hb8))
          have Hb8 := Lib.hid hb8
          clear hb8 HO7 Hb7
          go_wp2_with fail
          refine HLe.out.mono ?_
          rintro e w9 ⟨vc, cc, xs', rfl, _, hxl', hb9⟩
          rw [← HL.out.1] at hxl'
          rw [hxl']
          have HOr := Lib.hid (Order_any w9 a c n p Hn.out (by rw [Hn.out]; exact Hr.out.2.2.1) (Hr.out.1.up (belowTrans Hb8.out hb9)))
          have Hb9 := Lib.hid (belowTrans Hb8.out hb9)
          clear hxl' hb9 HLe Hb8
          go_wp2_with fail
          refine HOr.out.mono ?_
          rintro e w10 ⟨vd, cd, ys', rfl, _, hyl', hb10⟩
          rw [← HL.out.2] at hyl'
          rw [hyl']
          have HT1 := Lib.hid (told2_any (chk p) (chk p) w10 (Hr.out.2.2.2.up (belowTrans Hb9.out hb10)))
          have HT2 := Lib.hid (fun W (hW : Below w10.heap.size w10 W) => told2_any (ordF p) (ordF p) W (Hr.out.2.2.2.up (belowTrans (belowTrans Hb9.out hb10) hW)))
          have Hb10 := Lib.hid (belowTrans Hb9.out hb10)
          obtain ⟨e1, he1⟩ : ∃ e1, e1 = er.errV (chk p) := ⟨_, rfl⟩
          obtain ⟨e2, he2⟩ : ∃ e2, e2 = er.errV (ordF p) := ⟨_, rfl⟩
          rw [← he1] at HT1
          rw [← he2] at HT2
          rw [← he1, ← he2]
          clear hyl' hb10 HOr Hb9 he1 he2
          go_wp2_with fail
          refine HT1.out.mono ?_
          rintro e w11 ⟨rfl, hb11⟩
          have HT2' := Lib.hid (HT2.out w11 hb11)
          have Hb11 := Lib.hid (belowTrans Hb10.out hb11)
          rw [beq_self_eq_true]
          clear hb11 HT1 HT2 Hb10
          go_wp2_with fail
          refine HT2'.out.mono ?_
          rintro e w12 ⟨rfl, hb12⟩
          rw [beq_self_eq_true]
          have hb := belowTrans Hb11.out hb12
          have hc12 := Count_any 45 p a c w12 (Hr.out.1.up hb) Hr.out.2.1 Hr.out.2.2.1 (by rw [← Hn.out]; omega) (by rw [← Hn.out]; omega)
          rw [← Hn.out, ← HN.out] at hc12
          have HC12 := Lib.hid hc12
          have Hb12 := Lib.hid hb
          clear hb12 hb hc12 HT2' Hb11
          go_wp2_with fail
          refine HC12.out.mono ?_
          rintro e w13 ⟨rfl, hb13⟩
          have Hb13 := Lib.hid (belowTrans Hb12.out hb13)
          clear hb13 HC12 Hb12
          go_wp2_with fail
          go_ret
          exact ⟨rfl, Hb13.out⟩
end Go.Proofs.YtnigadnjppeckaaDoor.inv
