/- What finds tell. -/
import Derived.Test.YthlcjhkelcfnoaaDoorFindT
namespace Go.Proofs.YthlcjhkelcfnoaaDoor.find
open Go.RowKit
open ral (elems setS total WF build)
open vers (Ver reads_at ownI_lower keepGrown)

def FT (w : World) (B b N j : Nat) (av : Value) (W : World) : Prop := ∃ vs : List Ver, FR w B b N vs av W ∧ 0 < vs.length ∧ vs.length ≤ j + 1
set_option maxRecDepth 100000 in
set_option maxHeartbeats 8000000 in
theorem tells (n : Int) (a1 a2 a3 : Option Addr) (c1 n1 c2 n2 c3 n3 : Nat) (l1 l2 l3 : List Int) (w : World) (hl1 : l1.length = n1) (hl2 : l2.length = n2) (hl3 : l3.length = n3) (hr1 : Reads w a1 l1) (hr2 : Reads w a2 l2) (hr3 : Reads w a3 l3) (hg : er.Handle w) :
    Calls Tryd.prog 4 #[.int .i64 n, .slice a1 n1 c1, .slice a2 n2 c2, .slice a3 n3 c3] w (Yes w) := by
  have HG := Lib.hid hg
  have HR := Lib.hid (And.intro hr1 (And.intro hr2 hr3))
  have HL := Lib.hid (And.intro hl1 (And.intro hl2 hl3))
  clear hg hr1 hr2 hr3 hl1 hl2 hl3
  go_enter Tryd.func4, Tryd.ntmps4
  go_wp2_with fail
  refine (grouped_any w).mono ?_
  rintro e w1 ⟨rfl, hb1⟩
  have HB := Lib.hid hb1
  clear hb1
  by_cases hn : n < 0 ∨ 5000 < n
  · go_wp2_with fail
    refine (New_out w1 n hn).mono ?_
    rintro e w2 ⟨rfl, rfl⟩
    have HE := Lib.hid (er.errIs_any (.iface 29 (.int .i64 1)) 1 1 w1 (HG.out.up HB.out) rfl true rfl)
    by_cases hn0 : n < 0
    · clear hn
      go_wp2_with fail
      refine HE.out.mono ?_
      rintro e w3 ⟨rfl, hb3⟩
      have HF := Lib.hid (HB.out.trans (hb3.mono HB.out.size))
      clear hb3 HE
      go_wp2_with fail
      go_ret
      exact ⟨rfl, HF.out⟩
    · have hn1 : 5000 < n := by omega
      clear hn
      go_wp2_with fail
      refine HE.out.mono ?_
      rintro e w3 ⟨rfl, hb3⟩
      have HF := Lib.hid (HB.out.trans (hb3.mono HB.out.size))
      clear hb3 HE
      go_wp2_with fail
      go_ret
      exact ⟨rfl, HF.out⟩
  · obtain ⟨N, rfl⟩ : ∃ N : Nat, n = (N : Nat) := ⟨n.toNat, by omega⟩
    have hN : N ≤ 5000 := by omega
    have g0 : (0 : Int) ≤ (N : Int) := by omega
    have g1 : (N : Int) ≤ 5000 := by omega
    clear hn
    go_wp2_with fail
    refine (New_in w1 N hN).mono ?_
    rintro e w2 ⟨b, p, rfl, hFS, hb2⟩
    have HV := Lib.hid hFS
    have HBn := Lib.hid (HB.out.trans (hb2.mono HB.out.size))
    have HB1 := Lib.hid HB.out.size
    have HS2 := Lib.hid hb2.size
    clear hFS hb2
    have HE := Lib.hid (er.errIs_any .nilIface 0 0 w2 (HG.out.up HBn.out) rfl true rfl)
    go_wp2_with fail
    refine HE.out.mono ?_
    rintro e w3 ⟨rfl, hb3⟩
    have HBZ := Lib.hid (Nat.le_trans HS2.out hb3.size)
    have HVn := Lib.hid (HV.out.up hb3)
    have HBm := Lib.hid (HBn.out.trans (hb3.mono HBn.out.size))
    clear hb3 HE HV HB HBn HS2
    have HV := HVn
    have HB := HBm
    clear HVn HBm
    by_cases h100 : 60 < N
    · have h100i : (60 : Int) < (N : Int) := by omega
      go_wp2_with fail
      go_ret
      exact ⟨rfl, HB.out⟩
    have h100i : (N : Int) ≤ 60 := by omega
    by_cases h30 : 30 < n1
    · have h30i : (30 : Int) < (n1 : Int) := by omega
      go_wp2_with fail
      go_ret
      exact ⟨rfl, HB.out⟩
    have h30i : (n1 : Int) ≤ 30 := by omega
    have HI : Hid (FS w1.heap.size w3 b N [(p, build (upTo N))] ∧ OwnI 3 w3 w.heap.size (.slice none 0 0) (upTo 0) ∧ Below w.heap.size w w3 ∧ w1.heap.size ≤ w3.heap.size) := Lib.hid ⟨HV.out, World.ownsRow_nil _ _ _ _, HB.out, HBZ.out⟩
    clear HV HB HBZ
    obtain ⟨i0, hi1, hz0, hz1, hz2⟩ := info_parts infoInt
    have Hi := Lib.hid (And.intro hi1 (And.intro hz0 (And.intro hz1 hz2)))
    clear hi1 hz0 hz1 hz2
    go_wp2_with fail
    go_loopw [14, 15] (fun fv iv wr => ∃ (i : Nat) (ov : Value), ov = fv ∧ iv = .int .i64 i ∧ i ≤ N ∧ Hid (FS w1.heap.size wr b N [(p, build (upTo N))] ∧ OwnI 3 wr w.heap.size ov (upTo i) ∧ Below w.heap.size w wr ∧ w1.heap.size ≤ wr.heap.size)) (fun _ iv _ => N - (intOf iv).toNat)
    case atStart => exact ⟨0, _, rfl, rfl, Nat.zero_le _, HI⟩
    case round =>
      obtain ⟨i, ov, rfl, rfl, hi, HS⟩ := hrel
      have q0 : (0 : Int) ≤ (i : Int) := by omega
      by_cases hlt : i < N
      · have q1 : (i : Int) < (N : Int) := by omega
        clear HI
        have hwS := HS.out.2.2.1.size
        go_wp2_with (at_builtin; obtain ⟨hi1, hz0, hz1, hz2⟩ := Hi.out; refine wpList_append_own _ rfl (.tmp 76) (.tmp 78) 22 rfl w.heap.size 3 i0 (.int .i64 0) 1 8 Tryd.underlying22 hi1 hz0 hz1 hz2 rfl (by decide) ov (upTo i).length ((upTo i).map (Value.int .i64)) rfl (World.ownsRow.alloc HS.out.2.1 _) ⟨wr.heap.size, 0, none⟩ 1 1 [.int .i64 (i : Nat)] rfl rfl ?c1 ?c2 ?c3 ?c4 ?c5 ?_)
        case c1 => exact World.news_of_block (cs := #[.int .i64 (i : Nat)]) (t := 3) (fr := (0, 0)) (heap_alloc_new _ _)
        case c2 => simp [Value.oneCell']
        case c3 => rw [upTo_length]; unfold maxLen; omega
        case c4 => rw [upTo_length]; omega
        case c5 => simp; omega
        intro v5 w5 hown hgrow _
        have hb5 : Below w.heap.size w w5 := Below.grown (HS.out.2.2.1.alloc hwS _) hgrow (by simp; omega) (fun k hk => (World.ownsRow.lt HS.out.2.1 k hk).1)
        have hk5 := KeepT.grown HS.out.2.1 hgrow
        have hz5 := hgrow.size
        have HS3 : Hid (FS w1.heap.size w5 b N [(p, build (upTo N))] ∧ OwnI 3 w5 w.heap.size v5 (upTo (i + 1)) ∧ Below w.heap.size w w5 ∧ w1.heap.size ≤ w5.heap.size) := by
          refine Lib.hid ⟨HS.out.1.keep hk5 (by decide) (by decide) (by decide) (by decide), ?_, hb5, ?_⟩
          · rw [upTo_succ]
            unfold OwnI
            simpa [upTo_length] using hown
          · have h1 := HS.out.2.2.2
            simp at hz5
            omega
        clear hown hgrow hb5 hk5 hz5 HS
        go_wp2_with fail
        go_roundw
        case rel => exact ⟨i + 1, v5, rfl, by go_num, hlt, HS3⟩
        case measure => simp [intOf]; omega
      · obtain rfl : i = N := by omega
        obtain ⟨aF, cF, hov, -⟩ := HS.out.2.1.form
        rw [upTo_length] at hov
        subst hov
        have HX : Hid (FT w w1.heap.size b i 0 (.slice (some ⟨wr.heap.size, 0, none⟩) 1 1) (wr.alloc (.cells #[.slice aF i cF] 22))) := by
          have hb := belowAlloc wr (.cells #[.slice aF i cF] 22)
          refine Lib.hid ⟨[(p, build (upTo i))], ⟨HS.out.1.up hb, ?_, HS.out.2.2.1.trans (hb.mono HS.out.2.2.1.size), HB1.out, Nat.le_trans HS.out.2.2.2 hb.size⟩, by simp, by simp⟩
          have h := allR_first HS.out.2.2.1.size (heap_alloc_new wr (.cells #[.slice aF i cF] 22)) (HS.out.2.1.up hb)
          simpa [ral.elems_build] using h
        clear HS HI
        go_wp2_with fail
        go_loopw [16, 17] (fun av kv wr => ∃ (j : Nat) (ov : Value), ov = av ∧ kv = .int .i64 j ∧ j ≤ n1 ∧ Hid (FT w w1.heap.size b i j ov wr)) (fun _ kv _ => n1 - (intOf kv).toNat)
        case atStart => exact ⟨0, _, rfl, rfl, Nat.zero_le _, HX⟩
        case round =>
          obtain ⟨j, ov, rfl, rfl, hj, HS⟩ := hrel
          have j0 : (0 : Int) ≤ (j : Int) := by omega
          obtain ⟨vs, hVR, hv0, hvj⟩ := HS.out
          obtain ⟨nv, hnv⟩ : ∃ n, vs.length = n := ⟨_, rfl⟩
          obtain ⟨aA, cA, hov⟩ := hVR.form
          rw [hnv] at hov hv0 hvj
          subst hov
          have HT := Lib.hid hVR
          have HNV := Lib.hid hnv
          clear hVR hnv HS HX
          by_cases h1 : j < n1
          · by_cases h2 : j < n2
            · by_cases h3 : j < n3
              · obtain ⟨q1, o1, e1, z1⟩ := reads_at HR.out.1 (k := j) (by rw [HL.out.1]; exact h1)
                obtain ⟨q2, o2, e2, z2⟩ := reads_at HR.out.2.1 (k := j) (by rw [HL.out.2.1]; exact h2)
                obtain ⟨q3, o3, e3, z3⟩ := reads_at HR.out.2.2 (k := j) (by rw [HL.out.2.2]; exact h3)
                subst e1 e2 e3
                obtain ⟨x1, hx1⟩ : ∃ x, x = l1.getD j 0 := ⟨_, rfl⟩
                obtain ⟨x2, hx2⟩ : ∃ x, x = l2.getD j 0 := ⟨_, rfl⟩
                obtain ⟨x3, hx3⟩ : ∃ x, x = l3.getD j 0 := ⟨_, rfl⟩
                rw [← hx1] at z1
                rw [← hx2] at z2
                rw [← hx3] at z3
                have K1 := Lib.hid z1
                have K2 := Lib.hid z2
                have K3 := Lib.hid z3
                clear hx1 hx2 hx3 z1 z2 z3
                have i1 : (j : Int) < (n1 : Int) := by omega
                have i2 : (j : Int) < (n2 : Int) := by omega
                have i3 : (j : Int) < (n3 : Int) := by omega
                have k1 := upc HT.out.b K1.out
                have k2 := upc HT.out.b K2.out
                have k3 := upc HT.out.b K3.out
                skip
                by_cases hva : x1 < 0
                · as_aux_lemma =>
                    have HEg := Lib.hid (fun W (hW : Below w.heap.size w W) => er.errIs_any (.iface 29 (.int .i64 2)) 2 2 W (HG.out.up hW) rfl true rfl)
                    have HEh := Lib.hid (fun W (hW : Below w.heap.size w W) => er.errIs_any (.iface 29 (.int .i64 2)) 2 2 W (HG.out.up hW) rfl true rfl)
                    have HF := Lib.hid (fun W (hW : Below wr.heap.size wr W) => Find_out w1.heap.size W b i vs (HT.out.s.up hW) x1 x2 (.inl hva))
                    have HSm := Lib.hid (fun W (hS : FS w1.heap.size W b i vs) => Same_none W b x1 x2 x3 2 (out_two w1.heap.size W b i vs hS x1 x2 x3 (.inl hva)))
                    have HJ := Lib.hid (fun W (hS : FS w1.heap.size W b i vs) => Join_none W b x1 x2 x3 2 (out_two w1.heap.size W b i vs hS x1 x2 x3 (.inl hva)))
                    go_wp2_with fail
                    go_region_held3 (fun w' => w'.cell? ⟨q1, o1 + j, none⟩ = some (.int .i64 x1) ∧ w'.cell? ⟨q2, o2 + j, none⟩ = some (.int .i64 x2)) (first | exact ⟨k1d, k2d⟩ | go_keep)
                      (first | (go_at_call 17; refine (HF.out _ (belowDrew _)).mono ?_; rintro e w21 ⟨rfl, hbY⟩; have hbZ := belowTrans (belowDrew wr) hbY; have HTn := Lib.hid (HT.out.up hbZ); have HBd := Lib.hid HTn.out.b; have k1d := upc HBd.out K1.out; have k2d := upc HBd.out K2.out))
                    clear k1d k1 k2d k2
                    clear hbZ hbY HBd HF k3
                    clear HT
                    have HT := HTn
                    clear HTn
                    go_wp2_with fail
                    refine (HEg.out _ HT.out.b).mono ?_
                    rintro e w22 ⟨rfl, hbE⟩
                    have HTn := Lib.hid (HT.out.up hbE)
                    clear hbE
                    clear HT
                    have HT := HTn
                    clear HTn
                    have k1 := upc HT.out.b K1.out
                    have k2 := upc HT.out.b K2.out
                    have k3 := upc HT.out.b K3.out
                    go_wp2_with fail
                    go_region_held3 (fun w' => w'.cell? ⟨q1, o1 + j, none⟩ = some (.int .i64 x1) ∧ w'.cell? ⟨q2, o2 + j, none⟩ = some (.int .i64 x2) ∧ w'.cell? ⟨q3, o3 + j, none⟩ = some (.int .i64 x3)) (first | exact ⟨k1d, k2d, k3d⟩ | go_keep)
                      (first | (go_at_call 18; refine (HSm.out _ (HT.out.s.up (belowDrew _))).mono ?_; rintro e w23 ⟨rfl, hbY⟩; have hbZ := belowTrans (belowDrew w22) hbY; have HTn := Lib.hid (HT.out.up hbZ); have HBd := Lib.hid HTn.out.b; have k1d := upc HBd.out K1.out; have k2d := upc HBd.out K2.out; have k3d := upc HBd.out K3.out))
                    clear k1d k1 k2d k2 k3d k3
                    clear hbZ hbY HBd HSm
                    clear HT
                    have HT := HTn
                    clear HTn
                    go_wp2_with fail
                    refine (HEh.out _ HT.out.b).mono ?_
                    rintro e w24 ⟨rfl, hbE⟩
                    have HTn := Lib.hid (HT.out.up hbE)
                    clear hbE
                    clear HT
                    have HT := HTn
                    clear HTn
                    have k1 := upc HT.out.b K1.out
                    have k2 := upc HT.out.b K2.out
                    have k3 := upc HT.out.b K3.out
                    go_wp2_with fail
                    go_region_held3 (fun w' => w'.cell? ⟨q1, o1 + j, none⟩ = some (.int .i64 x1) ∧ w'.cell? ⟨q2, o2 + j, none⟩ = some (.int .i64 x2) ∧ w'.cell? ⟨q3, o3 + j, none⟩ = some (.int .i64 x3)) (first | exact ⟨k1d, k2d, k3d⟩ | go_keep)
                      (first | (go_at_call 19; refine (HJ.out _ (HT.out.s.up (belowDrew _))).mono ?_; rintro e w25 ⟨rfl, hbY⟩; have hbZ := belowTrans (belowDrew w24) hbY; have HTn := Lib.hid (HT.out.up hbZ); have HBd := Lib.hid HTn.out.b; have k1d := upc HBd.out K1.out; have k2d := upc HBd.out K2.out; have k3d := upc HBd.out K3.out))
                    clear k1d k1 k2d k2 k3d k3
                    clear hbZ hbY HBd HJ
                    clear HT
                    have HT := HTn
                    clear HTn
                    go_wp2_with fail
                    refine (HEh.out _ HT.out.b).mono ?_
                    rintro e w26 ⟨rfl, hbE⟩
                    have HTn := Lib.hid (HT.out.up hbE)
                    clear hbE
                    clear HT
                    have HT := HTn
                    clear HTn
                    have HLn := Lib.hid (Len_fs w1.heap.size w26 b i vs HT.out.s)
                    rw [HNV.out] at HLn
                    go_wp2_with fail
                    refine HLn.out.mono ?_
                    rintro e wz ⟨rfl, rfl⟩
                    clear HLn
                    go_wp2_with fail
                    go_roundw
                    case rel => exact ⟨j + 1, _, rfl, by go_num, h1, Lib.hid ⟨vs, HT.out, by rw [HNV.out]; exact hv0, by rw [HNV.out]; omega⟩⟩
                    case measure => simp [intOf]; omega
                by_cases hvb : (nv : Int) ≤ x1
                · as_aux_lemma =>
                    have HEg := Lib.hid (fun W (hW : Below w.heap.size w W) => er.errIs_any (.iface 29 (.int .i64 2)) 2 2 W (HG.out.up hW) rfl true rfl)
                    have HEh := Lib.hid (fun W (hW : Below w.heap.size w W) => er.errIs_any (.iface 29 (.int .i64 2)) 2 2 W (HG.out.up hW) rfl true rfl)
                    have HF := Lib.hid (fun W (hW : Below wr.heap.size wr W) => Find_out w1.heap.size W b i vs (HT.out.s.up hW) x1 x2 (.inr (by rw [HNV.out]; exact hvb)))
                    have HSm := Lib.hid (fun W (hS : FS w1.heap.size W b i vs) => Same_none W b x1 x2 x3 2 (out_two w1.heap.size W b i vs hS x1 x2 x3 (.inr (by rw [HNV.out]; exact hvb))))
                    have HJ := Lib.hid (fun W (hS : FS w1.heap.size W b i vs) => Join_none W b x1 x2 x3 2 (out_two w1.heap.size W b i vs hS x1 x2 x3 (.inr (by rw [HNV.out]; exact hvb))))
                    go_wp2_with fail
                    go_region_held3 (fun w' => w'.cell? ⟨q1, o1 + j, none⟩ = some (.int .i64 x1) ∧ w'.cell? ⟨q2, o2 + j, none⟩ = some (.int .i64 x2)) (first | exact ⟨k1d, k2d⟩ | go_keep)
                      (first | (go_at_call 17; refine (HF.out _ (belowDrew _)).mono ?_; rintro e w27 ⟨rfl, hbY⟩; have hbZ := belowTrans (belowDrew wr) hbY; have HTn := Lib.hid (HT.out.up hbZ); have HBd := Lib.hid HTn.out.b; have k1d := upc HBd.out K1.out; have k2d := upc HBd.out K2.out))
                    clear k1d k1 k2d k2
                    clear hbZ hbY HBd HF k3
                    clear HT
                    have HT := HTn
                    clear HTn
                    go_wp2_with fail
                    refine (HEg.out _ HT.out.b).mono ?_
                    rintro e w28 ⟨rfl, hbE⟩
                    have HTn := Lib.hid (HT.out.up hbE)
                    clear hbE
                    clear HT
                    have HT := HTn
                    clear HTn
                    have k1 := upc HT.out.b K1.out
                    have k2 := upc HT.out.b K2.out
                    have k3 := upc HT.out.b K3.out
                    go_wp2_with fail
                    go_region_held3 (fun w' => w'.cell? ⟨q1, o1 + j, none⟩ = some (.int .i64 x1) ∧ w'.cell? ⟨q2, o2 + j, none⟩ = some (.int .i64 x2) ∧ w'.cell? ⟨q3, o3 + j, none⟩ = some (.int .i64 x3)) (first | exact ⟨k1d, k2d, k3d⟩ | go_keep)
                      (first | (go_at_call 18; refine (HSm.out _ (HT.out.s.up (belowDrew _))).mono ?_; rintro e w29 ⟨rfl, hbY⟩; have hbZ := belowTrans (belowDrew w28) hbY; have HTn := Lib.hid (HT.out.up hbZ); have HBd := Lib.hid HTn.out.b; have k1d := upc HBd.out K1.out; have k2d := upc HBd.out K2.out; have k3d := upc HBd.out K3.out))
                    clear k1d k1 k2d k2 k3d k3
                    clear hbZ hbY HBd HSm
                    clear HT
                    have HT := HTn
                    clear HTn
                    go_wp2_with fail
                    refine (HEh.out _ HT.out.b).mono ?_
                    rintro e w30 ⟨rfl, hbE⟩
                    have HTn := Lib.hid (HT.out.up hbE)
                    clear hbE
                    clear HT
                    have HT := HTn
                    clear HTn
                    have k1 := upc HT.out.b K1.out
                    have k2 := upc HT.out.b K2.out
                    have k3 := upc HT.out.b K3.out
                    go_wp2_with fail
                    go_region_held3 (fun w' => w'.cell? ⟨q1, o1 + j, none⟩ = some (.int .i64 x1) ∧ w'.cell? ⟨q2, o2 + j, none⟩ = some (.int .i64 x2) ∧ w'.cell? ⟨q3, o3 + j, none⟩ = some (.int .i64 x3)) (first | exact ⟨k1d, k2d, k3d⟩ | go_keep)
                      (first | (go_at_call 19; refine (HJ.out _ (HT.out.s.up (belowDrew _))).mono ?_; rintro e w31 ⟨rfl, hbY⟩; have hbZ := belowTrans (belowDrew w30) hbY; have HTn := Lib.hid (HT.out.up hbZ); have HBd := Lib.hid HTn.out.b; have k1d := upc HBd.out K1.out; have k2d := upc HBd.out K2.out; have k3d := upc HBd.out K3.out))
                    clear k1d k1 k2d k2 k3d k3
                    clear hbZ hbY HBd HJ
                    clear HT
                    have HT := HTn
                    clear HTn
                    go_wp2_with fail
                    refine (HEh.out _ HT.out.b).mono ?_
                    rintro e w32 ⟨rfl, hbE⟩
                    have HTn := Lib.hid (HT.out.up hbE)
                    clear hbE
                    clear HT
                    have HT := HTn
                    clear HTn
                    have HLn := Lib.hid (Len_fs w1.heap.size w32 b i vs HT.out.s)
                    rw [HNV.out] at HLn
                    go_wp2_with fail
                    refine HLn.out.mono ?_
                    rintro e wz ⟨rfl, rfl⟩
                    clear HLn
                    go_wp2_with fail
                    go_roundw
                    case rel => exact ⟨j + 1, _, rfl, by go_num, h1, Lib.hid ⟨vs, HT.out, by rw [HNV.out]; exact hv0, by rw [HNV.out]; omega⟩⟩
                    case measure => simp [intOf]; omega
                obtain ⟨y1, rfl⟩ : ∃ y : Nat, x1 = (y : Nat) := ⟨x1.toNat, by omega⟩
                have g1v : (0 : Int) ≤ (y1 : Int) := by omega
                have g2 : (y1 : Int) < (nv : Int) := by omega
                have g3 : y1 < vs.length := by rw [HNV.out]; omega
                clear hva hvb
                by_cases hia : x2 < 0
                · as_aux_lemma =>
                    have HEg := Lib.hid (fun W (hW : Below w.heap.size w W) => er.errIs_any (.iface 29 (.int .i64 1)) 1 1 W (HG.out.up hW) rfl true rfl)
                    have HEh := Lib.hid (fun W (hW : Below w.heap.size w W) => er.errIs_any (.iface 29 (.int .i64 1)) 1 1 W (HG.out.up hW) rfl true rfl)
                    have HF := Lib.hid (fun W (hW : Below wr.heap.size wr W) => Find_bad w1.heap.size W b i vs (HT.out.s.up hW) y1 g3 x2 (.inl hia))
                    have HSm := Lib.hid (fun W (hS : FS w1.heap.size W b i vs) => Same_none W b (y1 : Nat) x2 x3 1 (bad_two w1.heap.size W b i vs hS y1 g3 x2 x3 (.inl (.inl hia))))
                    have HJ := Lib.hid (fun W (hS : FS w1.heap.size W b i vs) => Join_none W b (y1 : Nat) x2 x3 1 (bad_two w1.heap.size W b i vs hS y1 g3 x2 x3 (.inl (.inl hia))))
                    go_wp2_with fail
                    go_region_held3 (fun w' => w'.cell? ⟨q1, o1 + j, none⟩ = some (.int .i64 (y1 : Nat)) ∧ w'.cell? ⟨q2, o2 + j, none⟩ = some (.int .i64 x2)) (first | exact ⟨k1d, k2d⟩ | go_keep)
                      (first | (go_at_call 17; refine (HF.out _ (belowDrew _)).mono ?_; rintro e w33 ⟨rfl, hbY⟩; have hbZ := belowTrans (belowDrew wr) hbY; have HTn := Lib.hid (HT.out.up hbZ); have HBd := Lib.hid HTn.out.b; have k1d := upc HBd.out K1.out; have k2d := upc HBd.out K2.out))
                    clear k1d k1 k2d k2
                    clear hbZ hbY HBd HF k3
                    clear HT
                    have HT := HTn
                    clear HTn
                    go_wp2_with fail
                    refine (HEg.out _ HT.out.b).mono ?_
                    rintro e w34 ⟨rfl, hbE⟩
                    have HTn := Lib.hid (HT.out.up hbE)
                    clear hbE
                    clear HT
                    have HT := HTn
                    clear HTn
                    have k1 := upc HT.out.b K1.out
                    have k2 := upc HT.out.b K2.out
                    have k3 := upc HT.out.b K3.out
                    go_wp2_with fail
                    go_region_held3 (fun w' => w'.cell? ⟨q1, o1 + j, none⟩ = some (.int .i64 (y1 : Nat)) ∧ w'.cell? ⟨q2, o2 + j, none⟩ = some (.int .i64 x2) ∧ w'.cell? ⟨q3, o3 + j, none⟩ = some (.int .i64 x3)) (first | exact ⟨k1d, k2d, k3d⟩ | go_keep)
                      (first | (go_at_call 18; refine (HSm.out _ (HT.out.s.up (belowDrew _))).mono ?_; rintro e w35 ⟨rfl, hbY⟩; have hbZ := belowTrans (belowDrew w34) hbY; have HTn := Lib.hid (HT.out.up hbZ); have HBd := Lib.hid HTn.out.b; have k1d := upc HBd.out K1.out; have k2d := upc HBd.out K2.out; have k3d := upc HBd.out K3.out))
                    clear k1d k1 k2d k2 k3d k3
                    clear hbZ hbY HBd HSm
                    clear HT
                    have HT := HTn
                    clear HTn
                    go_wp2_with fail
                    refine (HEh.out _ HT.out.b).mono ?_
                    rintro e w36 ⟨rfl, hbE⟩
                    have HTn := Lib.hid (HT.out.up hbE)
                    clear hbE
                    clear HT
                    have HT := HTn
                    clear HTn
                    have k1 := upc HT.out.b K1.out
                    have k2 := upc HT.out.b K2.out
                    have k3 := upc HT.out.b K3.out
                    go_wp2_with fail
                    go_region_held3 (fun w' => w'.cell? ⟨q1, o1 + j, none⟩ = some (.int .i64 (y1 : Nat)) ∧ w'.cell? ⟨q2, o2 + j, none⟩ = some (.int .i64 x2) ∧ w'.cell? ⟨q3, o3 + j, none⟩ = some (.int .i64 x3)) (first | exact ⟨k1d, k2d, k3d⟩ | go_keep)
                      (first | (go_at_call 19; refine (HJ.out _ (HT.out.s.up (belowDrew _))).mono ?_; rintro e w37 ⟨rfl, hbY⟩; have hbZ := belowTrans (belowDrew w36) hbY; have HTn := Lib.hid (HT.out.up hbZ); have HBd := Lib.hid HTn.out.b; have k1d := upc HBd.out K1.out; have k2d := upc HBd.out K2.out; have k3d := upc HBd.out K3.out))
                    clear k1d k1 k2d k2 k3d k3
                    clear hbZ hbY HBd HJ
                    clear HT
                    have HT := HTn
                    clear HTn
                    go_wp2_with fail
                    refine (HEh.out _ HT.out.b).mono ?_
                    rintro e w38 ⟨rfl, hbE⟩
                    have HTn := Lib.hid (HT.out.up hbE)
                    clear hbE
                    clear HT
                    have HT := HTn
                    clear HTn
                    have HLn := Lib.hid (Len_fs w1.heap.size w38 b i vs HT.out.s)
                    rw [HNV.out] at HLn
                    go_wp2_with fail
                    refine HLn.out.mono ?_
                    rintro e wz ⟨rfl, rfl⟩
                    clear HLn
                    go_wp2_with fail
                    go_roundw
                    case rel => exact ⟨j + 1, _, rfl, by go_num, h1, Lib.hid ⟨vs, HT.out, by rw [HNV.out]; exact hv0, by rw [HNV.out]; omega⟩⟩
                    case measure => simp [intOf]; omega
                by_cases hib : (i : Int) ≤ x2
                · as_aux_lemma =>
                    have HEg := Lib.hid (fun W (hW : Below w.heap.size w W) => er.errIs_any (.iface 29 (.int .i64 1)) 1 1 W (HG.out.up hW) rfl true rfl)
                    have HEh := Lib.hid (fun W (hW : Below w.heap.size w W) => er.errIs_any (.iface 29 (.int .i64 1)) 1 1 W (HG.out.up hW) rfl true rfl)
                    have HF := Lib.hid (fun W (hW : Below wr.heap.size wr W) => Find_bad w1.heap.size W b i vs (HT.out.s.up hW) y1 g3 x2 (.inr hib))
                    have HSm := Lib.hid (fun W (hS : FS w1.heap.size W b i vs) => Same_none W b (y1 : Nat) x2 x3 1 (bad_two w1.heap.size W b i vs hS y1 g3 x2 x3 (.inl (.inr hib))))
                    have HJ := Lib.hid (fun W (hS : FS w1.heap.size W b i vs) => Join_none W b (y1 : Nat) x2 x3 1 (bad_two w1.heap.size W b i vs hS y1 g3 x2 x3 (.inl (.inr hib))))
                    go_wp2_with fail
                    go_region_held3 (fun w' => w'.cell? ⟨q1, o1 + j, none⟩ = some (.int .i64 (y1 : Nat)) ∧ w'.cell? ⟨q2, o2 + j, none⟩ = some (.int .i64 x2)) (first | exact ⟨k1d, k2d⟩ | go_keep)
                      (first | (go_at_call 17; refine (HF.out _ (belowDrew _)).mono ?_; rintro e w39 ⟨rfl, hbY⟩; have hbZ := belowTrans (belowDrew wr) hbY; have HTn := Lib.hid (HT.out.up hbZ); have HBd := Lib.hid HTn.out.b; have k1d := upc HBd.out K1.out; have k2d := upc HBd.out K2.out))
                    clear k1d k1 k2d k2
                    clear hbZ hbY HBd HF k3
                    clear HT
                    have HT := HTn
                    clear HTn
                    go_wp2_with fail
                    refine (HEg.out _ HT.out.b).mono ?_
                    rintro e w40 ⟨rfl, hbE⟩
                    have HTn := Lib.hid (HT.out.up hbE)
                    clear hbE
                    clear HT
                    have HT := HTn
                    clear HTn
                    have k1 := upc HT.out.b K1.out
                    have k2 := upc HT.out.b K2.out
                    have k3 := upc HT.out.b K3.out
                    go_wp2_with fail
                    go_region_held3 (fun w' => w'.cell? ⟨q1, o1 + j, none⟩ = some (.int .i64 (y1 : Nat)) ∧ w'.cell? ⟨q2, o2 + j, none⟩ = some (.int .i64 x2) ∧ w'.cell? ⟨q3, o3 + j, none⟩ = some (.int .i64 x3)) (first | exact ⟨k1d, k2d, k3d⟩ | go_keep)
                      (first | (go_at_call 18; refine (HSm.out _ (HT.out.s.up (belowDrew _))).mono ?_; rintro e w41 ⟨rfl, hbY⟩; have hbZ := belowTrans (belowDrew w40) hbY; have HTn := Lib.hid (HT.out.up hbZ); have HBd := Lib.hid HTn.out.b; have k1d := upc HBd.out K1.out; have k2d := upc HBd.out K2.out; have k3d := upc HBd.out K3.out))
                    clear k1d k1 k2d k2 k3d k3
                    clear hbZ hbY HBd HSm
                    clear HT
                    have HT := HTn
                    clear HTn
                    go_wp2_with fail
                    refine (HEh.out _ HT.out.b).mono ?_
                    rintro e w42 ⟨rfl, hbE⟩
                    have HTn := Lib.hid (HT.out.up hbE)
                    clear hbE
                    clear HT
                    have HT := HTn
                    clear HTn
                    have k1 := upc HT.out.b K1.out
                    have k2 := upc HT.out.b K2.out
                    have k3 := upc HT.out.b K3.out
                    go_wp2_with fail
                    go_region_held3 (fun w' => w'.cell? ⟨q1, o1 + j, none⟩ = some (.int .i64 (y1 : Nat)) ∧ w'.cell? ⟨q2, o2 + j, none⟩ = some (.int .i64 x2) ∧ w'.cell? ⟨q3, o3 + j, none⟩ = some (.int .i64 x3)) (first | exact ⟨k1d, k2d, k3d⟩ | go_keep)
                      (first | (go_at_call 19; refine (HJ.out _ (HT.out.s.up (belowDrew _))).mono ?_; rintro e w43 ⟨rfl, hbY⟩; have hbZ := belowTrans (belowDrew w42) hbY; have HTn := Lib.hid (HT.out.up hbZ); have HBd := Lib.hid HTn.out.b; have k1d := upc HBd.out K1.out; have k2d := upc HBd.out K2.out; have k3d := upc HBd.out K3.out))
                    clear k1d k1 k2d k2 k3d k3
                    clear hbZ hbY HBd HJ
                    clear HT
                    have HT := HTn
                    clear HTn
                    go_wp2_with fail
                    refine (HEh.out _ HT.out.b).mono ?_
                    rintro e w44 ⟨rfl, hbE⟩
                    have HTn := Lib.hid (HT.out.up hbE)
                    clear hbE
                    clear HT
                    have HT := HTn
                    clear HTn
                    have HLn := Lib.hid (Len_fs w1.heap.size w44 b i vs HT.out.s)
                    rw [HNV.out] at HLn
                    go_wp2_with fail
                    refine HLn.out.mono ?_
                    rintro e wz ⟨rfl, rfl⟩
                    clear HLn
                    go_wp2_with fail
                    go_roundw
                    case rel => exact ⟨j + 1, _, rfl, by go_num, h1, Lib.hid ⟨vs, HT.out, by rw [HNV.out]; exact hv0, by rw [HNV.out]; omega⟩⟩
                    case measure => simp [intOf]; omega
                obtain ⟨y2, rfl⟩ : ∃ y : Nat, x2 = (y : Nat) := ⟨x2.toNat, by omega⟩
                have g4 : (0 : Int) ≤ (y2 : Int) := by omega
                have g5 : (y2 : Int) < (i : Int) := by omega
                have g6 : y2 < i := by omega
                clear hia hib
                by_cases hja : x3 < 0
                · as_aux_lemma =>
                    have HEg := Lib.hid (fun W (hW : Below w.heap.size w W) => er.errIs_any .nilIface 0 0 W (HG.out.up hW) rfl true rfl)
                    have HEh := Lib.hid (fun W (hW : Below w.heap.size w W) => er.errIs_any (.iface 29 (.int .i64 1)) 1 1 W (HG.out.up hW) rfl true rfl)
                    obtain ⟨⟨pv, ts⟩, hkv⟩ : ∃ y, vs[y1]? = some y := ⟨_, List.getElem?_eq_getElem g3⟩
                    have HKV := Lib.hid hkv
                    clear hkv
                    obtain ⟨gA, dA, aB, cB, hA, kA, hoA⟩ := HT.out.at HKV.out
                    rw [HNV.out] at hA
                    simp only [Value.slice.injEq, true_and] at hA
                    obtain ⟨hA1, hA2⟩ := hA
                    subst hA1 hA2
                    have HPAR := Lib.hid (HT.out.par HKV.out)
                    obtain ⟨rx, hrx⟩ : ∃ r, top (elems ts) y2 = r := ⟨_, rfl⟩
                    have HRX := Lib.hid hrx
                    clear hrx
                    have HoA := Lib.hid hoA
                    have KA := Lib.hid kA
                    clear hoA
                    go_wp2_with fail
                    go_region_held3 (fun w' => w'.cell? ⟨q1, o1 + j, none⟩ = some (.int .i64 (y1 : Nat)) ∧ w'.cell? ⟨q2, o2 + j, none⟩ = some (.int .i64 (y2 : Nat)) ∧ w'.cell? ⟨gA, y1, none⟩ = some (.slice aB i cB)) (first | exact ⟨k1d, k2d, kAd⟩ | go_keep)
                      (first | (go_at_call 16; refine (TopOf_any aB cB i y2 rx (elems ts) _ HPAR.out g6 HRX.out ((HoA.out.up (belowDrew _)).reads)).mono ?_; rintro e w45 ⟨rfl, hbY⟩; have hbZ := belowTrans (belowDrew wr) hbY; have HTn := Lib.hid (HT.out.up hbZ); have HoAn := Lib.hid (HoA.out.up hbZ); have KAn := Lib.hid (upc hbZ KA.out); have HBd := Lib.hid HTn.out.b; have k1d := upc HBd.out K1.out; have k2d := upc HBd.out K2.out; have kAd := upc hbZ KA.out))
                    clear k1d k1 k2d k2 kAd kA
                    clear hbZ hbY HT HoA KA
                    have HT := HTn
                    have HoA := HoAn
                    have KA := KAn
                    clear HTn HoAn KAn HBd k3
                    have k1 := upc HT.out.b K1.out
                    have k2 := upc HT.out.b K2.out
                    have k3 := upc HT.out.b K3.out
                    have HF := Lib.hid (fun W (hW : Below w45.heap.size w45 W) => Find_in w1.heap.size W b i vs (HT.out.s.up hW) y1 y2 pv ts HKV.out g6 hN rx HRX.out)
                    have HSm := Lib.hid (fun W (hS : FS w1.heap.size W b i vs) => Same_none W b (y1 : Nat) (y2 : Nat) x3 1 (bad_two w1.heap.size W b i vs hS y1 g3 (y2 : Nat) x3 (.inr (.inl hja))))
                    have HJ := Lib.hid (fun W (hS : FS w1.heap.size W b i vs) => Join_none W b (y1 : Nat) (y2 : Nat) x3 1 (bad_two w1.heap.size W b i vs hS y1 g3 (y2 : Nat) x3 (.inr (.inl hja))))
                    go_wp2_with fail
                    go_region_held3 (fun w' => w'.cell? ⟨q1, o1 + j, none⟩ = some (.int .i64 (y1 : Nat)) ∧ w'.cell? ⟨q2, o2 + j, none⟩ = some (.int .i64 (y2 : Nat))) (first | exact ⟨k1d, k2d⟩ | go_keep)
                      (first | (go_at_call 17; refine (HF.out _ (belowDrew _)).mono ?_; rintro e w46 ⟨rfl, hbY⟩; have hbZ := belowTrans (belowDrew w45) hbY; have HTn := Lib.hid (HT.out.up hbZ); have HBd := Lib.hid HTn.out.b; have k1d := upc HBd.out K1.out; have k2d := upc HBd.out K2.out))
                    clear k1d k1 k2d k2
                    clear hbZ hbY HBd HF k3
                    clear HT
                    have HT := HTn
                    clear HTn
                    go_wp2_with fail
                    refine (HEg.out _ HT.out.b).mono ?_
                    rintro e w47 ⟨rfl, hbE⟩
                    have HTn := Lib.hid (HT.out.up hbE)
                    clear hbE
                    clear HT
                    have HT := HTn
                    clear HTn
                    have k1 := upc HT.out.b K1.out
                    have k2 := upc HT.out.b K2.out
                    have k3 := upc HT.out.b K3.out
                    go_wp2_with fail
                    go_region_held3 (fun w' => w'.cell? ⟨q1, o1 + j, none⟩ = some (.int .i64 (y1 : Nat)) ∧ w'.cell? ⟨q2, o2 + j, none⟩ = some (.int .i64 (y2 : Nat)) ∧ w'.cell? ⟨q3, o3 + j, none⟩ = some (.int .i64 x3)) (first | exact ⟨k1d, k2d, k3d⟩ | go_keep)
                      (first | (go_at_call 18; refine (HSm.out _ (HT.out.s.up (belowDrew _))).mono ?_; rintro e w48 ⟨rfl, hbY⟩; have hbZ := belowTrans (belowDrew w47) hbY; have HTn := Lib.hid (HT.out.up hbZ); have HBd := Lib.hid HTn.out.b; have k1d := upc HBd.out K1.out; have k2d := upc HBd.out K2.out; have k3d := upc HBd.out K3.out))
                    clear k1d k1 k2d k2 k3d k3
                    clear hbZ hbY HBd HSm
                    clear HT
                    have HT := HTn
                    clear HTn
                    go_wp2_with fail
                    refine (HEh.out _ HT.out.b).mono ?_
                    rintro e w49 ⟨rfl, hbE⟩
                    have HTn := Lib.hid (HT.out.up hbE)
                    clear hbE
                    clear HT
                    have HT := HTn
                    clear HTn
                    have k1 := upc HT.out.b K1.out
                    have k2 := upc HT.out.b K2.out
                    have k3 := upc HT.out.b K3.out
                    go_wp2_with fail
                    go_region_held3 (fun w' => w'.cell? ⟨q1, o1 + j, none⟩ = some (.int .i64 (y1 : Nat)) ∧ w'.cell? ⟨q2, o2 + j, none⟩ = some (.int .i64 (y2 : Nat)) ∧ w'.cell? ⟨q3, o3 + j, none⟩ = some (.int .i64 x3)) (first | exact ⟨k1d, k2d, k3d⟩ | go_keep)
                      (first | (go_at_call 19; refine (HJ.out _ (HT.out.s.up (belowDrew _))).mono ?_; rintro e w50 ⟨rfl, hbY⟩; have hbZ := belowTrans (belowDrew w49) hbY; have HTn := Lib.hid (HT.out.up hbZ); have HBd := Lib.hid HTn.out.b; have k1d := upc HBd.out K1.out; have k2d := upc HBd.out K2.out; have k3d := upc HBd.out K3.out))
                    clear k1d k1 k2d k2 k3d k3
                    clear hbZ hbY HBd HJ
                    clear HT
                    have HT := HTn
                    clear HTn
                    go_wp2_with fail
                    refine (HEh.out _ HT.out.b).mono ?_
                    rintro e w51 ⟨rfl, hbE⟩
                    have HTn := Lib.hid (HT.out.up hbE)
                    clear hbE
                    clear HT
                    have HT := HTn
                    clear HTn
                    have HLn := Lib.hid (Len_fs w1.heap.size w51 b i vs HT.out.s)
                    rw [HNV.out] at HLn
                    go_wp2_with fail
                    refine HLn.out.mono ?_
                    rintro e wz ⟨rfl, rfl⟩
                    clear HLn
                    go_wp2_with fail
                    go_roundw
                    case rel => exact ⟨j + 1, _, rfl, by go_num, h1, Lib.hid ⟨vs, HT.out, by rw [HNV.out]; exact hv0, by rw [HNV.out]; omega⟩⟩
                    case measure => simp [intOf]; omega
                by_cases hjb : (i : Int) ≤ x3
                · as_aux_lemma =>
                    have HEg := Lib.hid (fun W (hW : Below w.heap.size w W) => er.errIs_any .nilIface 0 0 W (HG.out.up hW) rfl true rfl)
                    have HEh := Lib.hid (fun W (hW : Below w.heap.size w W) => er.errIs_any (.iface 29 (.int .i64 1)) 1 1 W (HG.out.up hW) rfl true rfl)
                    obtain ⟨⟨pv, ts⟩, hkv⟩ : ∃ y, vs[y1]? = some y := ⟨_, List.getElem?_eq_getElem g3⟩
                    have HKV := Lib.hid hkv
                    clear hkv
                    obtain ⟨gA, dA, aB, cB, hA, kA, hoA⟩ := HT.out.at HKV.out
                    rw [HNV.out] at hA
                    simp only [Value.slice.injEq, true_and] at hA
                    obtain ⟨hA1, hA2⟩ := hA
                    subst hA1 hA2
                    have HPAR := Lib.hid (HT.out.par HKV.out)
                    obtain ⟨rx, hrx⟩ : ∃ r, top (elems ts) y2 = r := ⟨_, rfl⟩
                    have HRX := Lib.hid hrx
                    clear hrx
                    have HoA := Lib.hid hoA
                    have KA := Lib.hid kA
                    clear hoA
                    go_wp2_with fail
                    go_region_held3 (fun w' => w'.cell? ⟨q1, o1 + j, none⟩ = some (.int .i64 (y1 : Nat)) ∧ w'.cell? ⟨q2, o2 + j, none⟩ = some (.int .i64 (y2 : Nat)) ∧ w'.cell? ⟨gA, y1, none⟩ = some (.slice aB i cB)) (first | exact ⟨k1d, k2d, kAd⟩ | go_keep)
                      (first | (go_at_call 16; refine (TopOf_any aB cB i y2 rx (elems ts) _ HPAR.out g6 HRX.out ((HoA.out.up (belowDrew _)).reads)).mono ?_; rintro e w52 ⟨rfl, hbY⟩; have hbZ := belowTrans (belowDrew wr) hbY; have HTn := Lib.hid (HT.out.up hbZ); have HoAn := Lib.hid (HoA.out.up hbZ); have KAn := Lib.hid (upc hbZ KA.out); have HBd := Lib.hid HTn.out.b; have k1d := upc HBd.out K1.out; have k2d := upc HBd.out K2.out; have kAd := upc hbZ KA.out))
                    clear k1d k1 k2d k2 kAd kA
                    clear hbZ hbY HT HoA KA
                    have HT := HTn
                    have HoA := HoAn
                    have KA := KAn
                    clear HTn HoAn KAn HBd k3
                    have k1 := upc HT.out.b K1.out
                    have k2 := upc HT.out.b K2.out
                    have k3 := upc HT.out.b K3.out
                    have HF := Lib.hid (fun W (hW : Below w52.heap.size w52 W) => Find_in w1.heap.size W b i vs (HT.out.s.up hW) y1 y2 pv ts HKV.out g6 hN rx HRX.out)
                    have HSm := Lib.hid (fun W (hS : FS w1.heap.size W b i vs) => Same_none W b (y1 : Nat) (y2 : Nat) x3 1 (bad_two w1.heap.size W b i vs hS y1 g3 (y2 : Nat) x3 (.inr (.inr hjb))))
                    have HJ := Lib.hid (fun W (hS : FS w1.heap.size W b i vs) => Join_none W b (y1 : Nat) (y2 : Nat) x3 1 (bad_two w1.heap.size W b i vs hS y1 g3 (y2 : Nat) x3 (.inr (.inr hjb))))
                    go_wp2_with fail
                    go_region_held3 (fun w' => w'.cell? ⟨q1, o1 + j, none⟩ = some (.int .i64 (y1 : Nat)) ∧ w'.cell? ⟨q2, o2 + j, none⟩ = some (.int .i64 (y2 : Nat))) (first | exact ⟨k1d, k2d⟩ | go_keep)
                      (first | (go_at_call 17; refine (HF.out _ (belowDrew _)).mono ?_; rintro e w53 ⟨rfl, hbY⟩; have hbZ := belowTrans (belowDrew w52) hbY; have HTn := Lib.hid (HT.out.up hbZ); have HBd := Lib.hid HTn.out.b; have k1d := upc HBd.out K1.out; have k2d := upc HBd.out K2.out))
                    clear k1d k1 k2d k2
                    clear hbZ hbY HBd HF k3
                    clear HT
                    have HT := HTn
                    clear HTn
                    go_wp2_with fail
                    refine (HEg.out _ HT.out.b).mono ?_
                    rintro e w54 ⟨rfl, hbE⟩
                    have HTn := Lib.hid (HT.out.up hbE)
                    clear hbE
                    clear HT
                    have HT := HTn
                    clear HTn
                    have k1 := upc HT.out.b K1.out
                    have k2 := upc HT.out.b K2.out
                    have k3 := upc HT.out.b K3.out
                    go_wp2_with fail
                    go_region_held3 (fun w' => w'.cell? ⟨q1, o1 + j, none⟩ = some (.int .i64 (y1 : Nat)) ∧ w'.cell? ⟨q2, o2 + j, none⟩ = some (.int .i64 (y2 : Nat)) ∧ w'.cell? ⟨q3, o3 + j, none⟩ = some (.int .i64 x3)) (first | exact ⟨k1d, k2d, k3d⟩ | go_keep)
                      (first | (go_at_call 18; refine (HSm.out _ (HT.out.s.up (belowDrew _))).mono ?_; rintro e w55 ⟨rfl, hbY⟩; have hbZ := belowTrans (belowDrew w54) hbY; have HTn := Lib.hid (HT.out.up hbZ); have HBd := Lib.hid HTn.out.b; have k1d := upc HBd.out K1.out; have k2d := upc HBd.out K2.out; have k3d := upc HBd.out K3.out))
                    clear k1d k1 k2d k2 k3d k3
                    clear hbZ hbY HBd HSm
                    clear HT
                    have HT := HTn
                    clear HTn
                    go_wp2_with fail
                    refine (HEh.out _ HT.out.b).mono ?_
                    rintro e w56 ⟨rfl, hbE⟩
                    have HTn := Lib.hid (HT.out.up hbE)
                    clear hbE
                    clear HT
                    have HT := HTn
                    clear HTn
                    have k1 := upc HT.out.b K1.out
                    have k2 := upc HT.out.b K2.out
                    have k3 := upc HT.out.b K3.out
                    go_wp2_with fail
                    go_region_held3 (fun w' => w'.cell? ⟨q1, o1 + j, none⟩ = some (.int .i64 (y1 : Nat)) ∧ w'.cell? ⟨q2, o2 + j, none⟩ = some (.int .i64 (y2 : Nat)) ∧ w'.cell? ⟨q3, o3 + j, none⟩ = some (.int .i64 x3)) (first | exact ⟨k1d, k2d, k3d⟩ | go_keep)
                      (first | (go_at_call 19; refine (HJ.out _ (HT.out.s.up (belowDrew _))).mono ?_; rintro e w57 ⟨rfl, hbY⟩; have hbZ := belowTrans (belowDrew w56) hbY; have HTn := Lib.hid (HT.out.up hbZ); have HBd := Lib.hid HTn.out.b; have k1d := upc HBd.out K1.out; have k2d := upc HBd.out K2.out; have k3d := upc HBd.out K3.out))
                    clear k1d k1 k2d k2 k3d k3
                    clear hbZ hbY HBd HJ
                    clear HT
                    have HT := HTn
                    clear HTn
                    go_wp2_with fail
                    refine (HEh.out _ HT.out.b).mono ?_
                    rintro e w58 ⟨rfl, hbE⟩
                    have HTn := Lib.hid (HT.out.up hbE)
                    clear hbE
                    clear HT
                    have HT := HTn
                    clear HTn
                    have HLn := Lib.hid (Len_fs w1.heap.size w58 b i vs HT.out.s)
                    rw [HNV.out] at HLn
                    go_wp2_with fail
                    refine HLn.out.mono ?_
                    rintro e wz ⟨rfl, rfl⟩
                    clear HLn
                    go_wp2_with fail
                    go_roundw
                    case rel => exact ⟨j + 1, _, rfl, by go_num, h1, Lib.hid ⟨vs, HT.out, by rw [HNV.out]; exact hv0, by rw [HNV.out]; omega⟩⟩
                    case measure => simp [intOf]; omega
                obtain ⟨y3, rfl⟩ : ∃ y : Nat, x3 = (y : Nat) := ⟨x3.toNat, by omega⟩
                have g7 : (0 : Int) ≤ (y3 : Int) := by omega
                have g8 : (y3 : Int) < (i : Int) := by omega
                have g9 : y3 < i := by omega
                clear hja hjb
                as_aux_lemma =>
                  have HEg := Lib.hid (fun W (hW : Below w.heap.size w W) => er.errIs_any .nilIface 0 0 W (HG.out.up hW) rfl true rfl)
                  have HEh := Lib.hid (fun W (hW : Below w.heap.size w W) => er.errIs_any .nilIface 0 0 W (HG.out.up hW) rfl true rfl)
                  obtain ⟨⟨pv, ts⟩, hkv⟩ : ∃ y, vs[y1]? = some y := ⟨_, List.getElem?_eq_getElem g3⟩
                  have HKV := Lib.hid hkv
                  clear hkv
                  obtain ⟨gA, dA, aB, cB, hA, kA, hoA⟩ := HT.out.at HKV.out
                  rw [HNV.out] at hA
                  simp only [Value.slice.injEq, true_and] at hA
                  obtain ⟨hA1, hA2⟩ := hA
                  subst hA1 hA2
                  have HPAR := Lib.hid (HT.out.par HKV.out)
                  obtain ⟨rx, hrx⟩ : ∃ r, top (elems ts) y2 = r := ⟨_, rfl⟩
                  have HRX := Lib.hid hrx
                  clear hrx
                  have HoA := Lib.hid hoA
                  have KA := Lib.hid kA
                  clear hoA
                  go_wp2_with fail
                  go_region_held3 (fun w' => w'.cell? ⟨q1, o1 + j, none⟩ = some (.int .i64 (y1 : Nat)) ∧ w'.cell? ⟨q2, o2 + j, none⟩ = some (.int .i64 (y2 : Nat)) ∧ w'.cell? ⟨gA, y1, none⟩ = some (.slice aB i cB)) (first | exact ⟨k1d, k2d, kAd⟩ | go_keep)
                    (first | (go_at_call 16; refine (TopOf_any aB cB i y2 rx (elems ts) _ HPAR.out g6 HRX.out ((HoA.out.up (belowDrew _)).reads)).mono ?_; rintro e w59 ⟨rfl, hbY⟩; have hbZ := belowTrans (belowDrew wr) hbY; have HTn := Lib.hid (HT.out.up hbZ); have HoAn := Lib.hid (HoA.out.up hbZ); have KAn := Lib.hid (upc hbZ KA.out); have HBd := Lib.hid HTn.out.b; have k1d := upc HBd.out K1.out; have k2d := upc HBd.out K2.out; have kAd := upc hbZ KA.out))
                  clear k1d k1 k2d k2 kAd kA
                  clear hbZ hbY HT HoA KA
                  have HT := HTn
                  have HoA := HoAn
                  have KA := KAn
                  clear HTn HoAn KAn HBd k3
                  have k1 := upc HT.out.b K1.out
                  have k2 := upc HT.out.b K2.out
                  have k3 := upc HT.out.b K3.out
                  have kA := KA.out
                  obtain ⟨ry, hry⟩ : ∃ r, top (elems ts) y3 = r := ⟨_, rfl⟩
                  have HRY := Lib.hid hry
                  clear hry
                  go_wp2_with fail
                  go_region_held3 (fun w' => w'.cell? ⟨q1, o1 + j, none⟩ = some (.int .i64 (y1 : Nat)) ∧ w'.cell? ⟨q3, o3 + j, none⟩ = some (.int .i64 (y3 : Nat)) ∧ w'.cell? ⟨gA, y1, none⟩ = some (.slice aB i cB)) (first | exact ⟨k1d, k3d, kAd⟩ | go_keep)
                    (first | (go_at_call 16; refine (TopOf_any aB cB i y3 ry (elems ts) _ HPAR.out g9 HRY.out ((HoA.out.up (belowDrew _)).reads)).mono ?_; rintro e w60 ⟨rfl, hbY⟩; have hbZ := belowTrans (belowDrew w59) hbY; have HTn := Lib.hid (HT.out.up hbZ); have HoAn := Lib.hid (HoA.out.up hbZ); have KAn := Lib.hid (upc hbZ KA.out); have HBd := Lib.hid HTn.out.b; have k1d := upc HBd.out K1.out; have k3d := upc HBd.out K3.out; have kAd := upc hbZ KA.out))
                  clear k1d k1 k3d k3 kAd kA
                  clear hbZ hbY HT HoA KA
                  have HT := HTn
                  have HoA := HoAn
                  have KA := KAn
                  clear HTn HoAn KAn HBd k2
                  have k1 := upc HT.out.b K1.out
                  have k2 := upc HT.out.b K2.out
                  have k3 := upc HT.out.b K3.out
                  obtain ⟨cs, hcs⟩ : ∃ c, ((rx : Int) == (ry : Int)) = c := ⟨_, rfl⟩
                  have HCS := Lib.hid (show decide (top (elems ts) y2 = top (elems ts) y3) = cs by rw [HRX.out, HRY.out, ← hcs, Bool.eq_iff_iff, decide_eq_true_eq, beq_iff_eq]; omega)
                  rw [hcs]
                  clear hcs
                  have HF := Lib.hid (fun W (hW : Below w60.heap.size w60 W) => Find_in w1.heap.size W b i vs (HT.out.s.up hW) y1 y2 pv ts HKV.out g6 hN rx HRX.out)
                  have HSm := Lib.hid (fun W (hS : FS w1.heap.size W b i vs) => Same_in w1.heap.size W b i vs hS y1 y2 y3 pv ts HKV.out g6 g9 hN cs HCS.out)
                  have HJ := Lib.hid (fun W (hS : FS w1.heap.size W b i vs) (hZ : w1.heap.size ≤ W.heap.size) => Join_in w1.heap.size W b i vs hS hZ y1 y2 y3 pv ts HKV.out g6 g9 hN (by rw [HNV.out]; omega))
                  rw [HRX.out, HRY.out] at HJ
                  go_wp2_with fail
                  go_region_held3 (fun w' => w'.cell? ⟨q1, o1 + j, none⟩ = some (.int .i64 (y1 : Nat)) ∧ w'.cell? ⟨q2, o2 + j, none⟩ = some (.int .i64 (y2 : Nat))) (first | exact ⟨k1d, k2d⟩ | go_keep)
                    (first | (go_at_call 17; refine (HF.out _ (belowDrew _)).mono ?_; rintro e w61 ⟨rfl, hbY⟩; have hbZ := belowTrans (belowDrew w60) hbY; have HTn := Lib.hid (HT.out.up hbZ); have HoAn := Lib.hid (HoA.out.up hbZ); have KAn := Lib.hid (upc hbZ KA.out); have HBd := Lib.hid HTn.out.b; have k1d := upc HBd.out K1.out; have k2d := upc HBd.out K2.out))
                  clear k1d k1 k2d k2
                  clear hbZ hbY HBd HF k3
                  clear HT HoA KA
                  have HT := HTn
                  have HoA := HoAn
                  have KA := KAn
                  clear HTn HoAn KAn
                  go_wp2_with fail
                  refine (HEg.out _ HT.out.b).mono ?_
                  rintro e w62 ⟨rfl, hbE⟩
                  have HTn := Lib.hid (HT.out.up hbE)
                  have HoAn := Lib.hid (HoA.out.up hbE)
                  have KAn := Lib.hid (upc hbE KA.out)
                  clear hbE
                  clear HT HoA KA
                  have HT := HTn
                  have HoA := HoAn
                  have KA := KAn
                  clear HTn HoAn KAn
                  have k1 := upc HT.out.b K1.out
                  have k2 := upc HT.out.b K2.out
                  have k3 := upc HT.out.b K3.out
                  go_wp2_with fail
                  go_region_held3 (fun w' => w'.cell? ⟨q1, o1 + j, none⟩ = some (.int .i64 (y1 : Nat)) ∧ w'.cell? ⟨q2, o2 + j, none⟩ = some (.int .i64 (y2 : Nat)) ∧ w'.cell? ⟨q3, o3 + j, none⟩ = some (.int .i64 (y3 : Nat))) (first | exact ⟨k1d, k2d, k3d⟩ | go_keep)
                    (first | (go_at_call 18; refine (HSm.out _ (HT.out.s.up (belowDrew _))).mono ?_; rintro e w63 ⟨rfl, hbY⟩; have hbZ := belowTrans (belowDrew w62) hbY; have HTn := Lib.hid (HT.out.up hbZ); have HoAn := Lib.hid (HoA.out.up hbZ); have KAn := Lib.hid (upc hbZ KA.out); have HBd := Lib.hid HTn.out.b; have k1d := upc HBd.out K1.out; have k2d := upc HBd.out K2.out; have k3d := upc HBd.out K3.out))
                  clear k1d k1 k2d k2 k3d k3
                  clear hbZ hbY HBd HSm
                  clear HT HoA KA
                  have HT := HTn
                  have HoA := HoAn
                  have KA := KAn
                  clear HTn HoAn KAn
                  go_wp2_with fail
                  refine (HEh.out _ HT.out.b).mono ?_
                  rintro e w64 ⟨rfl, hbE⟩
                  have HTn := Lib.hid (HT.out.up hbE)
                  have HoAn := Lib.hid (HoA.out.up hbE)
                  have KAn := Lib.hid (upc hbE KA.out)
                  clear hbE
                  clear HT HoA KA
                  have HT := HTn
                  have HoA := HoAn
                  have KA := KAn
                  clear HTn HoAn KAn
                  have k1 := upc HT.out.b K1.out
                  have k2 := upc HT.out.b K2.out
                  have k3 := upc HT.out.b K3.out
                  go_wp2_with fail
                  as_aux_lemma =>
                    go_region_held3 (fun w' => w'.cell? ⟨q1, o1 + j, none⟩ = some (.int .i64 (y1 : Nat)) ∧ w'.cell? ⟨q2, o2 + j, none⟩ = some (.int .i64 (y2 : Nat)) ∧ w'.cell? ⟨q3, o3 + j, none⟩ = some (.int .i64 (y3 : Nat))) (first | exact ⟨k1d, k2d, k3d⟩ | go_keep)
                      (first | (go_at_call 19; refine (HJ.out _ (HT.out.s.up (belowDrew _)) (Nat.le_trans HT.out.bz (belowDrew _).size)).mono ?_; rintro e w65 ⟨pJ, us, rfl, hus, hsJ, hbJ, hkJ⟩; have hkn := (KeepT.of (T := [64, 49]) (belowDrew w64)).trans hkJ; have hbn : Below w.heap.size w w65 := (HT.out.b.trans ((belowDrew w64).mono HT.out.b.size)).trans (hbJ.mono HT.out.lo); have HS7 := Lib.hid (And.intro hsJ (And.intro (HT.out.r.keep hkn (by decide) (by decide)) (And.intro hbn (And.intro (HoA.out.keep hkn (by decide)) (And.intro HT.out.lo (Nat.le_trans HT.out.bz (Nat.le_trans (belowDrew w64).size hbJ.size))))))); have HUS := Lib.hid hus; have HBd := Lib.hid hbn; clear hsJ hbJ hkJ hbn hkn hus; have k1d := upc HBd.out K1.out; have k2d := upc HBd.out K2.out; have k3d := upc HBd.out K3.out))
                    clear k1d k1 k2d k2 k3d k3
                    clear HBd HT HJ HoA KA
                    rw [HNV.out]
                    go_wp2_with fail
                    refine (HEh.out _ HS7.out.2.2.1).mono ?_
                    rintro e w66 ⟨rfl, hb8⟩
                    have HS8 := Lib.hid (And.intro (HS7.out.1.up hb8) (And.intro (HS7.out.2.1.up hb8) (And.intro (HS7.out.2.2.1.trans (hb8.mono HS7.out.2.2.1.size)) (And.intro (HS7.out.2.2.2.1.up hb8) (And.intro HS7.out.2.2.2.2.1 (Nat.le_trans HS7.out.2.2.2.2.2 hb8.size))))))
                    clear hb8 HS7 HEh HEg
                    have k1 := upc HS8.out.2.2.1 K1.out
                    have k2 := upc HS8.out.2.2.1 K2.out
                    have k3 := upc HS8.out.2.2.1 K3.out
                    obtain ⟨gB, dB, aC, cC, hB1, kA, hoB⟩ := HS8.out.2.1.at (k := y1) (by rw [List.length_map]; exact g3)
                    rw [List.length_map, HNV.out] at hB1
                    simp only [Value.slice.injEq, Option.some.injEq, Addr.mk.injEq, true_and, and_true] at hB1
                    obtain ⟨rfl, rfl⟩ := hB1
                    rw [vers.getD_map vs y1 pv ts HKV.out] at hoB
                    have HoB := Lib.hid hoB
                    have KA := Lib.hid kA
                    clear hoB
                    go_wp2_with fail
                    go_region_held3 (fun w' => w'.cell? ⟨q1, o1 + j, none⟩ = some (.int .i64 (y1 : Nat)) ∧ w'.cell? ⟨q3, o3 + j, none⟩ = some (.int .i64 (y3 : Nat)) ∧ w'.cell? ⟨gA, y1, none⟩ = some (.slice aC i cC)) (first | exact ⟨k1d, k3d, kAd⟩ | go_keep)
                      (first | (go_at_call 16; refine (TopOf_any aC cC i y3 ry (elems ts) _ HPAR.out g9 HRY.out ((HoB.out.up (belowDrew _)).reads)).mono ?_; rintro e w67 ⟨rfl, hbY⟩; have hbZ := belowTrans (belowDrew w66) hbY; have HS9 := Lib.hid (And.intro (HS8.out.1.up hbZ) (And.intro (HS8.out.2.1.up hbZ) (And.intro (HS8.out.2.2.1.trans (hbZ.mono HS8.out.2.2.1.size)) (And.intro (HoB.out.up hbZ) (And.intro HS8.out.2.2.2.2.1 (Nat.le_trans HS8.out.2.2.2.2.2 hbZ.size)))))); have KAn := Lib.hid (upc hbZ KA.out); have HBd := Lib.hid HS9.out.2.2.1; have k1d := upc HBd.out K1.out; have k3d := upc HBd.out K3.out; have kAd := upc hbZ KA.out))
                    clear k1d k1 k3d k3 kAd kA
                    clear hbZ hbY HBd HS8 HoB KA k2
                    have k1 := upc HS9.out.2.2.1 K1.out
                    have kA := KAn.out
                    have g10 : rx < i := by rw [← HRX.out]; exact Nat.lt_of_le_of_lt (top_le HPAR.out g6) g6
                    have g11 : ry < i := by rw [← HRY.out]; exact Nat.lt_of_le_of_lt (top_le HPAR.out g9) g9
                    have HPJ := Lib.hid (Put_join aC cC i rx ry (elems ts) w67 HPAR.out.1 hN g10 g11 HS9.out.2.2.2.1.reads)
                    go_wp2_with fail
                    refine HPJ.out.mono ?_
                    rintro e w68 ⟨aP, cP, rfl, hoP, hbP⟩
                    have hbQ := belowTrans hbP (belowAlloc w68 (.cells #[.slice aP i cP] 22))
                    have hoQ := (ownI_lower hoP HS9.out.2.2.1.size).up (belowAlloc w68 (.cells #[.slice aP i cP] 22))
                    rw [← HUS.out] at hoQ
                    have HSX := Lib.hid (And.intro (HS9.out.1.up hbQ) (And.intro (HS9.out.2.1.up hbQ) (And.intro (HS9.out.2.2.1.trans (hbQ.mono HS9.out.2.2.1.size)) (And.intro HS9.out.2.2.2.2.1 (Nat.le_trans HS9.out.2.2.2.2.2 hbQ.size)))))
                    obtain ⟨cz, hown, happ⟩ := FR.app HSX.out.1 HSX.out.2.1 HSX.out.2.2.1 HSX.out.2.2.2.1 HSX.out.2.2.2.2 hoQ
                    rw [HNV.out] at hown happ
                    have HAP := Lib.hid happ
                    have HOW := Lib.hid hown
                    clear happ hown hoP hbP hbQ hoQ HPJ HS9 k1 kA KAn
                    obtain ⟨i9, hin, hy0, hy1, hy2⟩ := info_parts infoRI
                    have Hi9 := Lib.hid (And.intro hin (And.intro hy0 (And.intro hy1 hy2)))
                    clear hin hy0 hy1 hy2
                    go_wp2_with (at_builtin; obtain ⟨hin, hy0, hy1, hy2⟩ := Hi9.out; refine wpList_append_own _ rfl (.tmp 268) (.tmp 283) 31 rfl w.heap.size 22 i9 (.slice none 0 0) 1 24 Tryd.underlying31 hin hy0 hy1 hy2 rfl (by decide) (.slice (some ⟨gA, 0, none⟩) nv cA) nv cz rfl HOW.out ⟨w68.heap.size, 0, none⟩ 1 1 [.slice aP i cP] rfl rfl ?c1 ?c2 ?c3 ?c4 ?c5 ?_)
                    case c1 => exact World.news_of_block (cs := #[.slice aP i cP]) (t := 22) (fr := (0, 0)) (heap_alloc_new _ _)
                    case c2 => simp [Value.oneCell']
                    case c3 => unfold maxLen; omega
                    case c4 => omega
                    case c5 => exact HSX.out.2.2.1.size
                    intro v5 w5 hown5 hgrow5 _
                    have HT := Lib.hid (HAP.out _ _ hgrow5 hown5)
                    obtain ⟨a5, d5, h5⟩ := HT.out.form
                    have HL9 := Lib.hid (show (vs ++ [(pJ, us)]).length = nv + 1 by rw [List.length_append, HNV.out]; rfl)
                    rw [HL9.out] at h5
                    subst h5
                    clear hown5 hgrow5 HAP HOW HSX
                    have HLn := Lib.hid (Len_fs w1.heap.size w5 b i _ HT.out.s)
                    rw [HL9.out] at HLn
                    go_wp2_with fail
                    refine HLn.out.mono ?_
                    rintro e wz ⟨rfl, rfl⟩
                    clear HLn
                    go_wp2_with fail
                    go_roundw
                    case rel => exact ⟨j + 1, _, rfl, by go_num, h1, Lib.hid ⟨_, HT.out, by rw [HL9.out]; omega, by rw [HL9.out]; omega⟩⟩
                    case measure => simp [intOf]; omega
              · have i1 : (j : Int) < (n1 : Int) := by omega
                have i2 : (j : Int) < (n2 : Int) := by omega
                have i3 : ¬ ((j : Int) < (n3 : Int)) := by omega
                go_wp2_with fail
                go_ret
                exact ⟨rfl, HT.out.b⟩
            · have i1 : (j : Int) < (n1 : Int) := by omega
              have i2 : ¬ ((j : Int) < (n2 : Int)) := by omega
              go_wp2_with fail
              go_ret
              exact ⟨rfl, HT.out.b⟩
          · have i1 : ¬ ((j : Int) < (n1 : Int)) := by omega
            go_wp2_with fail
            go_ret
            exact ⟨rfl, HT.out.b⟩
theorem tells_any (n : Int) (a1 : Option Addr) (c1 : Nat) (l1 : List Int) (a2 : Option Addr) (c2 : Nat) (l2 : List Int) (a3 : Option Addr) (c3 : Nat) (l3 : List Int) (w : World) (_ : l1.length * 8 ≤ 140737488351232) (r1 : Reads w a1 l1) (_ : a1 = none → c1 = 0)
    (_ : l2.length * 8 ≤ 140737488351232) (r2 : Reads w a2 l2) (_ : a2 = none → c2 = 0) (_ : l3.length * 8 ≤ 140737488351232) (r3 : Reads w a3 l3) (_ : a3 = none → c3 = 0) (hg : er.Handle w) :
    Calls Tryd.prog 4 #[.int .i64 n, .slice a1 l1.length c1, .slice a2 l2.length c2, .slice a3 l3.length c3] w (Yes w) := tells n a1 a2 a3 c1 _ c2 _ c3 _ l1 l2 l3 w rfl rfl rfl r1 r2 r3 hg
end Go.Proofs.YthlcjhkelcfnoaaDoor.find
