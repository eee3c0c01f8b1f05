/- What versions tell. -/
import Derived.Test.YthlcjhkelcfnoaaDoorVersT
namespace Go.Proofs.YthlcjhkelcfnoaaDoor.vers
open Go.RowKit
open ral (elems setS total WF)

def VT (w : World) (B b N j : Nat) (av : Value) (W : World) : Prop := ∃ vs : List Ver, VR w B b N vs av W ∧ 0 < vs.length ∧ vs.length ≤ j + 1
set_option maxRecDepth 100000 in
set_option maxHeartbeats 8000000 in
theorem tells (n : Int) (a1 a2 a3 : Option Addr) (c1 n1 c2 n2 c3 n3 : Nat) (l1 l2 l3 : List Int) (w : World) (hl1 : l1.length = n1) (hl2 : l2.length = n2) (hl3 : l3.length = n3) (hr1 : Reads w a1 l1) (hr2 : Reads w a2 l2) (hr3 : Reads w a3 l3) (hg : er.Handle w) :
    Calls Tryd.prog 3 #[.int .i64 n, .slice a1 n1 c1, .slice a2 n2 c2, .slice a3 n3 c3] w (Yes w) := by
  have HG := Lib.hid hg
  have HR := Lib.hid (And.intro hr1 (And.intro hr2 hr3))
  have HL := Lib.hid (And.intro hl1 (And.intro hl2 hl3))
  clear hg hr1 hr2 hr3 hl1 hl2 hl3
  go_enter Tryd.func3, Tryd.ntmps3
  go_wp2_with fail
  refine (versed_any w).mono ?_
  rintro e w1 ⟨rfl, hb1⟩
  have HB := Lib.hid hb1
  clear hb1
  by_cases hn : n < 0 ∨ 5000 < n
  · go_wp2_with fail
    refine (New_out w1 n hn).mono ?_
    rintro e w2 ⟨rfl, rfl⟩
    have HE := Lib.hid (er.errIs_any (.iface 29 (.int .i64 1)) 1 1 w1 (HG.out.up HB.out) rfl true rfl)
    by_cases hn0 : n < 0
    · clear hn
      go_wp2_with fail
      refine HE.out.mono ?_
      rintro e w3 ⟨rfl, hb3⟩
      have HF := Lib.hid (HB.out.trans (hb3.mono HB.out.size))
      clear hb3 HE
      go_wp2_with fail
      go_ret
      exact ⟨rfl, HF.out⟩
    · have hn1 : 5000 < n := by omega
      clear hn
      go_wp2_with fail
      refine HE.out.mono ?_
      rintro e w3 ⟨rfl, hb3⟩
      have HF := Lib.hid (HB.out.trans (hb3.mono HB.out.size))
      clear hb3 HE
      go_wp2_with fail
      go_ret
      exact ⟨rfl, HF.out⟩
  · obtain ⟨N, rfl⟩ : ∃ N : Nat, n = (N : Nat) := ⟨n.toNat, by omega⟩
    have hN : N ≤ 5000 := by omega
    have g0 : (0 : Int) ≤ (N : Int) := by omega
    have g1 : (N : Int) ≤ 5000 := by omega
    clear hn
    go_wp2_with fail
    refine (New_in w1 N hN).mono ?_
    rintro e w2 ⟨b, p, rfl, hVS, hb2⟩
    have HV := Lib.hid hVS
    have HBn := Lib.hid (HB.out.trans (hb2.mono HB.out.size))
    have HB1 := Lib.hid HB.out.size
    have HS2 := Lib.hid hb2.size
    clear hVS hb2
    have HE := Lib.hid (er.errIs_any .nilIface 0 0 w2 (HG.out.up HBn.out) rfl true rfl)
    go_wp2_with fail
    refine HE.out.mono ?_
    rintro e w3 ⟨rfl, hb3⟩
    have HBZ := Lib.hid (Nat.le_trans HS2.out hb3.size)
    have HVn := Lib.hid (HV.out.up hb3)
    have HBm := Lib.hid (HBn.out.trans (hb3.mono HBn.out.size))
    clear hb3 HE HV HB HBn
    have HV := HVn
    have HB := HBm
    clear HVn HBm
    by_cases h100 : 100 < N
    · have h100i : (100 : Int) < (N : Int) := by omega
      go_wp2_with fail
      go_ret
      exact ⟨rfl, HB.out⟩
    have h100i : (N : Int) ≤ 100 := by omega
    by_cases h30 : 30 < n1
    · have h30i : (30 : Int) < (n1 : Int) := by omega
      go_wp2_with fail
      go_ret
      exact ⟨rfl, HB.out⟩
    have h30i : (n1 : Int) ≤ 30 := by omega
    have hmk := fun W : World => run_make_row' (P := Tryd.prog) 22 3 (.int .i64 0) 8 Tryd.underlying22 infoInt rfl .i64 .i64 N (by omega) (by omega) W
    have h2 := belowTrans (belowAlloc w3 (.cells (madeCells #[.int .i64 0] N) 3)) (belowAlloc _ (.cells #[.slice (some ⟨w3.heap.size, 0, none⟩) N N] 22))
    have hwB : w.heap.size ≤ w3.heap.size := HB.out.size
    have HI : Hid (VT w w1.heap.size b N 0 (.slice (some ⟨w3.heap.size + 1, 0, none⟩) 1 1) ((w3.alloc (.cells (madeCells #[.int .i64 0] N) 3)).alloc (.cells #[.slice (some ⟨w3.heap.size, 0, none⟩) N N] 22))) := by
      refine Lib.hid ⟨[(p, ral.build (List.replicate N 0))], ⟨HV.out.up h2, ?_, HB.out.trans (h2.mono hwB), HB1.out, Nat.le_trans HBZ.out h2.size⟩, by simp, by simp⟩
      have h := allR_start (B := w.heap.size) hwB (Nat.le_succ_of_le hwB) (heapNew1 w3 _ _) (heapNew2 w3 _ _) hN
      simpa [ral.elems_build] using h
    clear h2 hwB HV HB
    go_wp2_with fail
    go_loopw [14, 15] (fun av kv wr => ∃ (j : Nat) (ov : Value), ov = av ∧ kv = .int .i64 j ∧ j ≤ n1 ∧ Hid (VT w w1.heap.size b N j ov wr)) (fun _ kv _ => n1 - (intOf kv).toNat)
    case atStart => exact ⟨0, _, rfl, rfl, Nat.zero_le _, HI⟩
    case round =>
      obtain ⟨j, ov, rfl, rfl, hj, HS⟩ := hrel
      have j0 : (0 : Int) ≤ (j : Int) := by omega
      obtain ⟨vs, hVR, hv0, hvj⟩ := HS.out
      obtain ⟨nv, hnv⟩ : ∃ n, vs.length = n := ⟨_, rfl⟩
      obtain ⟨aA, cA, hov⟩ := hVR.form
      rw [hnv] at hov hv0 hvj
      subst hov
      have HT := Lib.hid hVR
      have HNV := Lib.hid hnv
      clear hVR hnv HS
      by_cases h1 : j < n1
      · by_cases h2 : j < n2
        · by_cases h3 : j < n3
          · obtain ⟨q1, o1, e1, z1⟩ := reads_at HR.out.1 (k := j) (by rw [HL.out.1]; exact h1)
            obtain ⟨q2, o2, e2, z2⟩ := reads_at HR.out.2.1 (k := j) (by rw [HL.out.2.1]; exact h2)
            obtain ⟨q3, o3, e3, z3⟩ := reads_at HR.out.2.2 (k := j) (by rw [HL.out.2.2]; exact h3)
            subst e1 e2 e3
            obtain ⟨x1, hx1⟩ : ∃ x, x = l1.getD j 0 := ⟨_, rfl⟩
            obtain ⟨x2, hx2⟩ : ∃ x, x = l2.getD j 0 := ⟨_, rfl⟩
            obtain ⟨x3, hx3⟩ : ∃ x, x = l3.getD j 0 := ⟨_, rfl⟩
            rw [← hx1] at z1
            rw [← hx2] at z2
            rw [← hx3] at z3
            have K1 := Lib.hid z1
            have K2 := Lib.hid z2
            have K3 := Lib.hid z3
            clear hx1 hx2 hx3 z1 z2 z3
            have i1 : (j : Int) < (n1 : Int) := by omega
            have i2 : (j : Int) < (n2 : Int) := by omega
            have i3 : (j : Int) < (n3 : Int) := by omega
            have k1 := upc HT.out.b K1.out
            have k2 := upc HT.out.b K2.out
            have k3 := upc HT.out.b K3.out
            by_cases hva : x1 < 0
            · skip
              have HGt := Lib.hid (fun W (hW : Below wr.heap.size wr W) => Get_none w1.heap.size W b N vs (HT.out.s.up hW) x1 x2 (.inl hva))
              have HSt := Lib.hid (fun W0 (hT0 : VR w w1.heap.size b N vs (.slice aA nv cA) W0) W (hW : Below W0.heap.size W0 W) => Set_none w1.heap.size W b N vs (hT0.s.up hW) x1 x2 x3 (.inl hva))
              have HE := Lib.hid (fun W (hW : Below w.heap.size w W) => er.errIs_any (.iface 29 (.int .i64 2)) 2 2 W (HG.out.up hW) rfl true rfl)
              go_wp2_with fail
              go_region_held3 (fun w' => w'.cell? ⟨q1, o1 + j, none⟩ = some (.int .i64 x1) ∧ w'.cell? ⟨q2, o2 + j, none⟩ = some (.int .i64 x2)) (first | exact ⟨k1d, k2d⟩ | go_keep)
                (first | (go_at_call 8; refine (HGt.out _ (belowDrew _)).mono ?_; rintro e w4 ⟨rfl, hb4⟩; have HT4 := Lib.hid (HT.out.up (belowTrans (belowDrew _) hb4)); have HBd := Lib.hid HT4.out.b; clear hb4; have k1d := upc HBd.out K1.out; have k2d := upc HBd.out K2.out))
              clear k1d k1 k2d k2
              clear HBd HT HGt k3
              go_wp2_with fail
              refine (HE.out _ HT4.out.b).mono ?_
              rintro e w5 ⟨rfl, hb5⟩
              have HT5 := Lib.hid (HT4.out.up hb5)
              clear hb5 HT4
              have k1 := upc HT5.out.b K1.out
              have k2 := upc HT5.out.b K2.out
              have k3 := upc HT5.out.b K3.out
              have HST2 := Lib.hid (HSt.out _ (HT5.out))
              clear HSt
              go_wp2_with fail
              go_region_held3 (fun w' => w'.cell? ⟨q1, o1 + j, none⟩ = some (.int .i64 x1) ∧ w'.cell? ⟨q2, o2 + j, none⟩ = some (.int .i64 x2) ∧ w'.cell? ⟨q3, o3 + j, none⟩ = some (.int .i64 x3)) (first | exact ⟨k1d, k2d, k3d⟩ | go_keep)
                (first | (go_at_call 9; refine (HST2.out _ (belowDrew _)).mono ?_; rintro e w6 ⟨rfl, hb6⟩; have HT6 := Lib.hid (HT5.out.up (belowTrans (belowDrew _) hb6)); have HBd := Lib.hid HT6.out.b; clear hb6; have k1d := upc HBd.out K1.out; have k2d := upc HBd.out K2.out; have k3d := upc HBd.out K3.out))
              clear k1d k1 k2d k2 k3d k3
              clear HBd HT5 HST2
              go_wp2_with fail
              refine (HE.out _ HT6.out.b).mono ?_
              rintro e w7 ⟨rfl, hb7⟩
              have HT7 := Lib.hid (HT6.out.up hb7)
              clear hb7 HT6 HE
              have HLn := Lib.hid (Len_vs w1.heap.size w7 b N vs HT7.out.s)
              rw [HNV.out] at HLn
              go_wp2_with fail
              refine HLn.out.mono ?_
              rintro e w12 ⟨rfl, rfl⟩
              clear HLn
              go_wp2_with fail
              go_roundw
              case rel => exact ⟨j + 1, _, rfl, by go_num, h1, Lib.hid ⟨vs, HT7.out, by rw [HNV.out]; exact hv0, by rw [HNV.out]; omega⟩⟩
              case measure => simp [intOf]; omega
            by_cases hvb : (nv : Int) ≤ x1
            · skip
              have HGt := Lib.hid (fun W (hW : Below wr.heap.size wr W) => Get_none w1.heap.size W b N vs (HT.out.s.up hW) x1 x2 (.inr (by rw [HNV.out]; exact hvb)))
              have HSt := Lib.hid (fun W0 (hT0 : VR w w1.heap.size b N vs (.slice aA nv cA) W0) W (hW : Below W0.heap.size W0 W) => Set_none w1.heap.size W b N vs (hT0.s.up hW) x1 x2 x3 (.inr (by rw [HNV.out]; exact hvb)))
              have HE := Lib.hid (fun W (hW : Below w.heap.size w W) => er.errIs_any (.iface 29 (.int .i64 2)) 2 2 W (HG.out.up hW) rfl true rfl)
              go_wp2_with fail
              go_region_held3 (fun w' => w'.cell? ⟨q1, o1 + j, none⟩ = some (.int .i64 x1) ∧ w'.cell? ⟨q2, o2 + j, none⟩ = some (.int .i64 x2)) (first | exact ⟨k1d, k2d⟩ | go_keep)
                (first | (go_at_call 8; refine (HGt.out _ (belowDrew _)).mono ?_; rintro e w4 ⟨rfl, hb4⟩; have HT4 := Lib.hid (HT.out.up (belowTrans (belowDrew _) hb4)); have HBd := Lib.hid HT4.out.b; clear hb4; have k1d := upc HBd.out K1.out; have k2d := upc HBd.out K2.out))
              clear k1d k1 k2d k2
              clear HBd HT HGt k3
              go_wp2_with fail
              refine (HE.out _ HT4.out.b).mono ?_
              rintro e w5 ⟨rfl, hb5⟩
              have HT5 := Lib.hid (HT4.out.up hb5)
              clear hb5 HT4
              have k1 := upc HT5.out.b K1.out
              have k2 := upc HT5.out.b K2.out
              have k3 := upc HT5.out.b K3.out
              have HST2 := Lib.hid (HSt.out _ (HT5.out))
              clear HSt
              go_wp2_with fail
              go_region_held3 (fun w' => w'.cell? ⟨q1, o1 + j, none⟩ = some (.int .i64 x1) ∧ w'.cell? ⟨q2, o2 + j, none⟩ = some (.int .i64 x2) ∧ w'.cell? ⟨q3, o3 + j, none⟩ = some (.int .i64 x3)) (first | exact ⟨k1d, k2d, k3d⟩ | go_keep)
                (first | (go_at_call 9; refine (HST2.out _ (belowDrew _)).mono ?_; rintro e w6 ⟨rfl, hb6⟩; have HT6 := Lib.hid (HT5.out.up (belowTrans (belowDrew _) hb6)); have HBd := Lib.hid HT6.out.b; clear hb6; have k1d := upc HBd.out K1.out; have k2d := upc HBd.out K2.out; have k3d := upc HBd.out K3.out))
              clear k1d k1 k2d k2 k3d k3
              clear HBd HT5 HST2
              go_wp2_with fail
              refine (HE.out _ HT6.out.b).mono ?_
              rintro e w7 ⟨rfl, hb7⟩
              have HT7 := Lib.hid (HT6.out.up hb7)
              clear hb7 HT6 HE
              have HLn := Lib.hid (Len_vs w1.heap.size w7 b N vs HT7.out.s)
              rw [HNV.out] at HLn
              go_wp2_with fail
              refine HLn.out.mono ?_
              rintro e w12 ⟨rfl, rfl⟩
              clear HLn
              go_wp2_with fail
              go_roundw
              case rel => exact ⟨j + 1, _, rfl, by go_num, h1, Lib.hid ⟨vs, HT7.out, by rw [HNV.out]; exact hv0, by rw [HNV.out]; omega⟩⟩
              case measure => simp [intOf]; omega
            obtain ⟨y1, rfl⟩ : ∃ y : Nat, x1 = (y : Nat) := ⟨x1.toNat, by omega⟩
            have g1 : (0 : Int) ≤ (y1 : Int) := by omega
            have g2 : (y1 : Int) < (nv : Int) := by omega
            have g3 : y1 < vs.length := by rw [HNV.out]; omega
            clear hva hvb
            by_cases hia : x2 < 0
            · skip
              have HGt := Lib.hid (fun W (hW : Below wr.heap.size wr W) => Get_range w1.heap.size W b N vs (HT.out.s.up hW) y1 x2 g3 (.inl hia))
              have HSt := Lib.hid (fun W0 (hT0 : VR w w1.heap.size b N vs (.slice aA nv cA) W0) W (hW : Below W0.heap.size W0 W) => Set_range w1.heap.size W b N vs (hT0.s.up hW) y1 x2 x3 g3 (.inl hia))
              have HE := Lib.hid (fun W (hW : Below w.heap.size w W) => er.errIs_any (.iface 29 (.int .i64 1)) 1 1 W (HG.out.up hW) rfl true rfl)
              go_wp2_with fail
              go_region_held3 (fun w' => w'.cell? ⟨q1, o1 + j, none⟩ = some (.int .i64 (y1 : Nat)) ∧ w'.cell? ⟨q2, o2 + j, none⟩ = some (.int .i64 x2)) (first | exact ⟨k1d, k2d⟩ | go_keep)
                (first | (go_at_call 8; refine (HGt.out _ (belowDrew _)).mono ?_; rintro e w4 ⟨rfl, hb4⟩; have HT4 := Lib.hid (HT.out.up (belowTrans (belowDrew _) hb4)); have HBd := Lib.hid HT4.out.b; clear hb4; have k1d := upc HBd.out K1.out; have k2d := upc HBd.out K2.out))
              clear k1d k1 k2d k2
              clear HBd HT HGt k3
              go_wp2_with fail
              refine (HE.out _ HT4.out.b).mono ?_
              rintro e w5 ⟨rfl, hb5⟩
              have HT5 := Lib.hid (HT4.out.up hb5)
              clear hb5 HT4
              have k1 := upc HT5.out.b K1.out
              have k2 := upc HT5.out.b K2.out
              have k3 := upc HT5.out.b K3.out
              have HST2 := Lib.hid (HSt.out _ (HT5.out))
              clear HSt
              go_wp2_with fail
              go_region_held3 (fun w' => w'.cell? ⟨q1, o1 + j, none⟩ = some (.int .i64 (y1 : Nat)) ∧ w'.cell? ⟨q2, o2 + j, none⟩ = some (.int .i64 x2) ∧ w'.cell? ⟨q3, o3 + j, none⟩ = some (.int .i64 x3)) (first | exact ⟨k1d, k2d, k3d⟩ | go_keep)
                (first | (go_at_call 9; refine (HST2.out _ (belowDrew _)).mono ?_; rintro e w6 ⟨rfl, hb6⟩; have HT6 := Lib.hid (HT5.out.up (belowTrans (belowDrew _) hb6)); have HBd := Lib.hid HT6.out.b; clear hb6; have k1d := upc HBd.out K1.out; have k2d := upc HBd.out K2.out; have k3d := upc HBd.out K3.out))
              clear k1d k1 k2d k2 k3d k3
              clear HBd HT5 HST2
              go_wp2_with fail
              refine (HE.out _ HT6.out.b).mono ?_
              rintro e w7 ⟨rfl, hb7⟩
              have HT7 := Lib.hid (HT6.out.up hb7)
              clear hb7 HT6 HE
              have HLn := Lib.hid (Len_vs w1.heap.size w7 b N vs HT7.out.s)
              rw [HNV.out] at HLn
              go_wp2_with fail
              refine HLn.out.mono ?_
              rintro e w12 ⟨rfl, rfl⟩
              clear HLn
              go_wp2_with fail
              go_roundw
              case rel => exact ⟨j + 1, _, rfl, by go_num, h1, Lib.hid ⟨vs, HT7.out, by rw [HNV.out]; exact hv0, by rw [HNV.out]; omega⟩⟩
              case measure => simp [intOf]; omega
            by_cases hib : (N : Int) ≤ x2
            · skip
              have HGt := Lib.hid (fun W (hW : Below wr.heap.size wr W) => Get_range w1.heap.size W b N vs (HT.out.s.up hW) y1 x2 g3 (.inr hib))
              have HSt := Lib.hid (fun W0 (hT0 : VR w w1.heap.size b N vs (.slice aA nv cA) W0) W (hW : Below W0.heap.size W0 W) => Set_range w1.heap.size W b N vs (hT0.s.up hW) y1 x2 x3 g3 (.inr hib))
              have HE := Lib.hid (fun W (hW : Below w.heap.size w W) => er.errIs_any (.iface 29 (.int .i64 1)) 1 1 W (HG.out.up hW) rfl true rfl)
              go_wp2_with fail
              go_region_held3 (fun w' => w'.cell? ⟨q1, o1 + j, none⟩ = some (.int .i64 (y1 : Nat)) ∧ w'.cell? ⟨q2, o2 + j, none⟩ = some (.int .i64 x2)) (first | exact ⟨k1d, k2d⟩ | go_keep)
                (first | (go_at_call 8; refine (HGt.out _ (belowDrew _)).mono ?_; rintro e w4 ⟨rfl, hb4⟩; have HT4 := Lib.hid (HT.out.up (belowTrans (belowDrew _) hb4)); have HBd := Lib.hid HT4.out.b; clear hb4; have k1d := upc HBd.out K1.out; have k2d := upc HBd.out K2.out))
              clear k1d k1 k2d k2
              clear HBd HT HGt k3
              go_wp2_with fail
              refine (HE.out _ HT4.out.b).mono ?_
              rintro e w5 ⟨rfl, hb5⟩
              have HT5 := Lib.hid (HT4.out.up hb5)
              clear hb5 HT4
              have k1 := upc HT5.out.b K1.out
              have k2 := upc HT5.out.b K2.out
              have k3 := upc HT5.out.b K3.out
              have HST2 := Lib.hid (HSt.out _ (HT5.out))
              clear HSt
              go_wp2_with fail
              go_region_held3 (fun w' => w'.cell? ⟨q1, o1 + j, none⟩ = some (.int .i64 (y1 : Nat)) ∧ w'.cell? ⟨q2, o2 + j, none⟩ = some (.int .i64 x2) ∧ w'.cell? ⟨q3, o3 + j, none⟩ = some (.int .i64 x3)) (first | exact ⟨k1d, k2d, k3d⟩ | go_keep)
                (first | (go_at_call 9; refine (HST2.out _ (belowDrew _)).mono ?_; rintro e w6 ⟨rfl, hb6⟩; have HT6 := Lib.hid (HT5.out.up (belowTrans (belowDrew _) hb6)); have HBd := Lib.hid HT6.out.b; clear hb6; have k1d := upc HBd.out K1.out; have k2d := upc HBd.out K2.out; have k3d := upc HBd.out K3.out))
              clear k1d k1 k2d k2 k3d k3
              clear HBd HT5 HST2
              go_wp2_with fail
              refine (HE.out _ HT6.out.b).mono ?_
              rintro e w7 ⟨rfl, hb7⟩
              have HT7 := Lib.hid (HT6.out.up hb7)
              clear hb7 HT6 HE
              have HLn := Lib.hid (Len_vs w1.heap.size w7 b N vs HT7.out.s)
              rw [HNV.out] at HLn
              go_wp2_with fail
              refine HLn.out.mono ?_
              rintro e w12 ⟨rfl, rfl⟩
              clear HLn
              go_wp2_with fail
              go_roundw
              case rel => exact ⟨j + 1, _, rfl, by go_num, h1, Lib.hid ⟨vs, HT7.out, by rw [HNV.out]; exact hv0, by rw [HNV.out]; omega⟩⟩
              case measure => simp [intOf]; omega
            obtain ⟨y2, rfl⟩ : ∃ y : Nat, x2 = (y : Nat) := ⟨x2.toNat, by omega⟩
            have g4 : (0 : Int) ≤ (y2 : Int) := by omega
            have g5 : (y2 : Int) < (N : Int) := by omega
            have g6 : y2 < N := by omega
            clear hia hib
            obtain ⟨⟨pv, ts⟩, hkv⟩ : ∃ y, vs[y1]? = some y := ⟨_, List.getElem?_eq_getElem g3⟩
            have HKV := Lib.hid hkv
            clear hkv
            obtain ⟨gA, dA, av, cv, hA, kA, hoA⟩ := HT.out.at HKV.out
            rw [HNV.out] at hA
            simp only [Value.slice.injEq, true_and] at hA
            obtain ⟨hA1, hA2⟩ := hA
            subst hA1 hA2
            have hlen := HT.out.len HKV.out
            obtain ⟨qv, ov2, hav, kv⟩ := reads_at hoA.reads (k := y2) (by rw [hlen]; exact g6)
            subst hav
            obtain ⟨X, hX⟩ : ∃ x, x = (elems ts).getD y2 0 := ⟨_, rfl⟩
            rw [← hX] at kv
            have HX := Lib.hid hX
            have HoA := Lib.hid hoA
            clear hX hoA hlen
            go_wp2_with fail
            go_quiet (fail)
            obtain ⟨w4, hw4⟩ : ∃ V, V = wr.drewN nq := ⟨_, rfl⟩
            rw [← hw4]
            have hb4 : Below wr.heap.size wr w4 := by rw [hw4]; exact belowDrewN _ _
            have HT4 := Lib.hid (HT.out.up hb4)
            have HoA4 := Lib.hid (HoA.out.up hb4)
            have KA := Lib.hid (upc hb4 kA)
            clear hw4 hb4 HT HoA k1 k2 k3 kA kv
            have k1 := upc HT4.out.b K1.out
            have k2 := upc HT4.out.b K2.out
            have k3 := upc HT4.out.b K3.out
            have HGt := Lib.hid (fun W (hW : Below w4.heap.size w4 W) => Get_in w1.heap.size W b N vs (HT4.out.s.up hW) y1 y2 pv ts HKV.out g6 hN)
            rw [← HX.out] at HGt
            have HE := Lib.hid (fun W (hW : Below w.heap.size w W) => er.errIs_any .nilIface 0 0 W (HG.out.up hW) rfl true rfl)
            go_wp2_with fail
            go_region_held3 (fun w' => w'.cell? ⟨q1, o1 + j, none⟩ = some (.int .i64 (y1 : Nat)) ∧ w'.cell? ⟨q2, o2 + j, none⟩ = some (.int .i64 (y2 : Nat))) (first | exact ⟨k1d, k2d⟩ | go_keep)
              (first | (go_at_call 8; refine (HGt.out _ (belowDrew _)).mono ?_; rintro e w5 ⟨rfl, hb5⟩; have hb5n := belowTrans (belowDrew _) hb5; have HT5 := Lib.hid (HT4.out.up hb5n); have HoA5 := Lib.hid (HoA4.out.up hb5n); have KA5 := Lib.hid (upc hb5n KA.out); have HBd := Lib.hid HT5.out.b; clear hb5 hb5n; have k1d := upc HBd.out K1.out; have k2d := upc HBd.out K2.out))
            clear k1d k1 k2d k2
            clear HBd HT4 HGt k3 HoA4 KA
            go_wp2_with fail
            refine (HE.out _ HT5.out.b).mono ?_
            rintro e w6 ⟨rfl, hb6⟩
            have HT6 := Lib.hid (HT5.out.up hb6)
            have HoA6 := Lib.hid (HoA5.out.up hb6)
            have KA6 := Lib.hid (upc hb6 KA5.out)
            clear hb6 HT5 HoA5 KA5
            have k1 := upc HT6.out.b K1.out
            have k2 := upc HT6.out.b K2.out
            have k3 := upc HT6.out.b K3.out
            have HSt := Lib.hid (fun W (hW : Below w6.heap.size w6 W) => Set_in w1.heap.size W b N vs (HT6.out.s.up hW) (szle hW HT6.out.bz) y1 y2 x3 pv ts HKV.out g6 hN (by rw [HNV.out]; omega))
            skip
            go_wp2_with fail
            go_region_held3 (fun w' => w'.cell? ⟨q1, o1 + j, none⟩ = some (.int .i64 (y1 : Nat)) ∧ w'.cell? ⟨q2, o2 + j, none⟩ = some (.int .i64 (y2 : Nat)) ∧ w'.cell? ⟨q3, o3 + j, none⟩ = some (.int .i64 x3)) (first | exact ⟨k1d, k2d, k3d⟩ | go_keep)
              (first | (go_at_call 9; refine (HSt.out _ (belowDrew _)).mono ?_; rintro e w7 ⟨p7, rfl, hs7, hb7, hk7⟩; have hk7n := (KeepT.of (T := [53, 49]) (belowDrew w6)).trans hk7; have hb7n : Below w.heap.size w w7 := (HT6.out.b.trans ((belowDrew w6).mono HT6.out.b.size)).trans (hb7.mono HT6.out.lo); have HS7 := Lib.hid (And.intro hs7 (And.intro (HT6.out.r.keep hk7n (by decide) (by decide)) (And.intro hb7n (And.intro (HoA6.out.keep hk7n (by decide)) (And.intro HT6.out.lo (Nat.le_trans HT6.out.bz (Nat.le_trans (belowDrew w6).size hb7.size))))))); skip; have HBd := Lib.hid hb7n; clear hs7 hb7 hk7 hb7n hk7n; have k1d := upc HBd.out K1.out; have k2d := upc HBd.out K2.out; have k3d := upc HBd.out K3.out))
            clear k1d k1 k2d k2 k3d k3
            clear HBd HT6 HSt HoA6 KA6
            rw [HNV.out]
            go_wp2_with fail
            refine (HE.out _ HS7.out.2.2.1).mono ?_
            rintro e w8 ⟨rfl, hb8⟩
            have HS8 := Lib.hid (And.intro (HS7.out.1.up hb8) (And.intro (HS7.out.2.1.up hb8) (And.intro (HS7.out.2.2.1.trans (hb8.mono HS7.out.2.2.1.size)) (And.intro (HS7.out.2.2.2.1.up hb8) (And.intro HS7.out.2.2.2.2.1 (Nat.le_trans HS7.out.2.2.2.2.2 hb8.size))))))
            clear hb8 HS7 HE
            have k1 := upc HS8.out.2.2.1 K1.out
            have k2 := upc HS8.out.2.2.1 K2.out
            have k3 := upc HS8.out.2.2.1 K3.out
            obtain ⟨gB, dB, aB, cB, hB1, kA, hoB⟩ := HS8.out.2.1.at (k := y1) (by rw [List.length_map]; exact g3)
            rw [List.length_map, HNV.out] at hB1
            simp only [Value.slice.injEq, Option.some.injEq, Addr.mk.injEq, true_and, and_true] at hB1
            obtain ⟨rfl, rfl⟩ := hB1
            rw [getD_map vs y1 pv ts HKV.out] at hoB
            have HoB := Lib.hid hoB
            clear hoB
            go_wp2_with fail
            have HLN := Lib.hid (show (elems ts).length = N by rw [ral.length_elems]; exact (HS8.out.1.sp _ (List.mem_append_left _ (List.mem_of_getElem? HKV.out))).2.2)
            refine grow.wp_grow_last2 18 _ _ [grow.kEq (.slice (some ⟨gA, 0, none⟩) nv cA), grow.kEq (.slice (some ⟨gA, 0, none⟩) nv cA), grow.kEq (.slice (some ⟨q1, o1, none⟩) n1 c1), grow.kEq (.int .i64 (j : Nat)), grow.kEq (.pointer (some ⟨q1, o1 + j, none⟩)), grow.kEq (.int .i64 (y1 : Nat)), grow.kEq (.pointer (some ⟨gA, y1, none⟩)), grow.kEq (.slice aB N cB), grow.kEq (.slice (some ⟨q2, o2, none⟩) n2 c2), grow.kEq (.int .i64 (j : Nat)), grow.kEq (.pointer (some ⟨q2, o2 + j, none⟩)), grow.kEq (.int .i64 (y2 : Nat)), grow.kEq (.slice (some ⟨q3, o3, none⟩) n3 c3), grow.kEq (.int .i64 (j : Nat)), grow.kEq (.pointer (some ⟨q3, o3 + j, none⟩)), grow.kEq (.int .i64 x3), kPut w.heap.size N ((elems ts).set y2 x3), kOne w8.heap.size w.heap.size N ((elems ts).set y2 x3)] rfl rfl rfl rfl rfl (by decide) (by kernel_rfl) (by kernel_rfl) (by kernel_rfl) (by kernel_rfl) (by kernel_rfl) ?step ?fin
            case step =>
              refine grow.EachL2.cons ?_ ?_
              · intro A W hB hs hJ K hK
                have s0 := hs 14 (by kernel_rfl)
                simp at s0
                rw [if_pos (by rfl)]
                clear hs hJ
                go_simp
                exact hK _ _ (Below.refl _ _) rfl
              refine grow.EachL2.cons ?_ ?_
              · intro A W hB hs hJ K hK
                have s0 := hs 14 (by kernel_rfl)
                simp at s0
                rw [if_pos (by rfl)]
                clear hs hJ
                go_simp
                exact hK _ _ (Below.refl _ _) rfl
              refine grow.EachL2.cons ?_ ?_
              · intro A W hB hs hJ K hK
                have s0 := hs 1 (by kernel_rfl)
                simp at s0
                rw [if_pos (by rfl)]
                clear hs hJ
                go_simp
                exact hK _ _ (Below.refl _ _) rfl
              refine grow.EachL2.cons ?_ ?_
              · intro A W hB hs hJ K hK
                have s0 := hs 15 (by kernel_rfl)
                simp at s0
                rw [if_pos (by rfl)]
                clear hs hJ
                go_simp
                exact hK _ _ (Below.refl _ _) rfl
              refine grow.EachL2.cons ?_ ?_
              · intro A W hB hs hJ K hK
                have s0 : A.tmps.getD 183 undef = .slice (some ⟨q1, o1, none⟩) n1 c1 := hJ 2 183 (by kernel_rfl) (by kernel_rfl)
                simp at s0
                have s1 : A.tmps.getD 184 undef = .int .i64 (j : Nat) := hJ 3 184 (by kernel_rfl) (by kernel_rfl)
                simp at s1
                rw [if_pos (by rfl)]
                clear hs hJ
                go_simp
                exact hK _ _ (Below.refl _ _) rfl
              refine grow.EachL2.cons ?_ ?_
              · intro A W hB hs hJ K hK
                have s0 : A.tmps.getD 185 undef = .pointer (some ⟨q1, o1 + j, none⟩) := hJ 4 185 (by kernel_rfl) (by kernel_rfl)
                simp at s0
                have kk := upc hB k1
                rw [if_pos (by rfl)]
                clear hs hJ
                go_simp
                exact hK _ _ (Below.refl _ _) rfl
              refine grow.EachL2.cons ?_ ?_
              · intro A W hB hs hJ K hK
                have s0 : A.tmps.getD 182 undef = .slice (some ⟨gA, 0, none⟩) nv cA := hJ 1 182 (by kernel_rfl) (by kernel_rfl)
                simp at s0
                have s1 : A.tmps.getD 186 undef = .int .i64 (y1 : Nat) := hJ 5 186 (by kernel_rfl) (by kernel_rfl)
                simp at s1
                rw [if_pos (by rfl)]
                clear hs hJ
                go_simp
                exact hK _ _ (Below.refl _ _) rfl
              refine grow.EachL2.cons ?_ ?_
              · intro A W hB hs hJ K hK
                have s0 : A.tmps.getD 187 undef = .pointer (some ⟨gA, y1, none⟩) := hJ 6 187 (by kernel_rfl) (by kernel_rfl)
                simp at s0
                have kk := upc hB kA
                rw [if_pos (by rfl)]
                clear hs hJ
                go_simp
                exact hK _ _ (Below.refl _ _) rfl
              refine grow.EachL2.cons ?_ ?_
              · intro A W hB hs hJ K hK
                have s0 := hs 2 (by kernel_rfl)
                simp at s0
                rw [if_pos (by rfl)]
                clear hs hJ
                go_simp
                exact hK _ _ (Below.refl _ _) rfl
              refine grow.EachL2.cons ?_ ?_
              · intro A W hB hs hJ K hK
                have s0 := hs 15 (by kernel_rfl)
                simp at s0
                rw [if_pos (by rfl)]
                clear hs hJ
                go_simp
                exact hK _ _ (Below.refl _ _) rfl
              refine grow.EachL2.cons ?_ ?_
              · intro A W hB hs hJ K hK
                have s0 : A.tmps.getD 189 undef = .slice (some ⟨q2, o2, none⟩) n2 c2 := hJ 8 189 (by kernel_rfl) (by kernel_rfl)
                simp at s0
                have s1 : A.tmps.getD 190 undef = .int .i64 (j : Nat) := hJ 9 190 (by kernel_rfl) (by kernel_rfl)
                simp at s1
                rw [if_pos (by rfl)]
                clear hs hJ
                go_simp
                exact hK _ _ (Below.refl _ _) rfl
              refine grow.EachL2.cons ?_ ?_
              · intro A W hB hs hJ K hK
                have s0 : A.tmps.getD 191 undef = .pointer (some ⟨q2, o2 + j, none⟩) := hJ 10 191 (by kernel_rfl) (by kernel_rfl)
                simp at s0
                have kk := upc hB k2
                rw [if_pos (by rfl)]
                clear hs hJ
                go_simp
                exact hK _ _ (Below.refl _ _) rfl
              refine grow.EachL2.cons ?_ ?_
              · intro A W hB hs hJ K hK
                have s0 := hs 3 (by kernel_rfl)
                simp at s0
                rw [if_pos (by rfl)]
                clear hs hJ
                go_simp
                exact hK _ _ (Below.refl _ _) rfl
              refine grow.EachL2.cons ?_ ?_
              · intro A W hB hs hJ K hK
                have s0 := hs 15 (by kernel_rfl)
                simp at s0
                rw [if_pos (by rfl)]
                clear hs hJ
                go_simp
                exact hK _ _ (Below.refl _ _) rfl
              refine grow.EachL2.cons ?_ ?_
              · intro A W hB hs hJ K hK
                have s0 : A.tmps.getD 193 undef = .slice (some ⟨q3, o3, none⟩) n3 c3 := hJ 12 193 (by kernel_rfl) (by kernel_rfl)
                simp at s0
                have s1 : A.tmps.getD 194 undef = .int .i64 (j : Nat) := hJ 13 194 (by kernel_rfl) (by kernel_rfl)
                simp at s1
                rw [if_pos (by rfl)]
                clear hs hJ
                go_simp
                exact hK _ _ (Below.refl _ _) rfl
              refine grow.EachL2.cons ?_ ?_
              · intro A W hB hs hJ K hK
                have s0 : A.tmps.getD 195 undef = .pointer (some ⟨q3, o3 + j, none⟩) := hJ 14 195 (by kernel_rfl) (by kernel_rfl)
                simp at s0
                have kk := upc hB k3
                rw [if_pos (by rfl)]
                clear hs hJ
                go_simp
                exact hK _ _ (Below.refl _ _) rfl
              refine grow.EachL2.cons ?_ ?_
              · intro A W hB hs hJ K hK
                have s0 : A.tmps.getD 188 undef = .slice aB N cB := hJ 7 188 (by kernel_rfl) (by kernel_rfl)
                simp at s0
                have s1 : A.tmps.getD 192 undef = .int .i64 (y2 : Nat) := hJ 11 192 (by kernel_rfl) (by kernel_rfl)
                simp at s1
                have s2 : A.tmps.getD 196 undef = .int .i64 x3 := hJ 15 196 (by kernel_rfl) (by kernel_rfl)
                simp at s2
                rw [if_pos (by rfl)]
                clear hs hJ
                go_simp
                go_at_call 10
                refine (put_any aB cB N y2 (elems ts) x3 W HLN.out (by omega) g6 (HoB.out.up hB).reads).mono ?_
                rintro e W2 ⟨aP, cP, rfl, hoP, hbP⟩
                exact hK _ _ hbP ⟨aP, cP, rfl, ownI_lower hoP (szle hB HS8.out.2.2.1.size)⟩
              refine grow.EachL2.cons ?_ ?_
              · intro A W hB hs hJ K hK
                obtain ⟨aP, cP, s0, hP⟩ := hJ 16 197 (by kernel_rfl) (by kernel_rfl)
                simp at s0
                rw [if_pos (by rfl)]
                clear hs hJ
                go_simp
                exact hK _ _ (belowAlloc _ _) ⟨aP, cP, _, rfl, hB.size, heap_alloc_new _ _, hP.up (belowAlloc _ _)⟩
              exact grow.EachL2.nil
            case fin =>
              intro f W hB hF
              have f0 : f 0 = .slice (some ⟨gA, 0, none⟩) nv cA := hF 0 (by decide)
              have f1 : f 1 = .slice (some ⟨gA, 0, none⟩) nv cA := hF 1 (by decide)
              have f2 : f 2 = .slice (some ⟨q1, o1, none⟩) n1 c1 := hF 2 (by decide)
              have f3 : f 3 = .int .i64 (j : Nat) := hF 3 (by decide)
              have f4 : f 4 = .pointer (some ⟨q1, o1 + j, none⟩) := hF 4 (by decide)
              have f5 : f 5 = .int .i64 (y1 : Nat) := hF 5 (by decide)
              have f6 : f 6 = .pointer (some ⟨gA, y1, none⟩) := hF 6 (by decide)
              have f7 : f 7 = .slice aB N cB := hF 7 (by decide)
              have f8 : f 8 = .slice (some ⟨q2, o2, none⟩) n2 c2 := hF 8 (by decide)
              have f9 : f 9 = .int .i64 (j : Nat) := hF 9 (by decide)
              have f10 : f 10 = .pointer (some ⟨q2, o2 + j, none⟩) := hF 10 (by decide)
              have f11 : f 11 = .int .i64 (y2 : Nat) := hF 11 (by decide)
              have f12 : f 12 = .slice (some ⟨q3, o3, none⟩) n3 c3 := hF 12 (by decide)
              have f13 : f 13 = .int .i64 (j : Nat) := hF 13 (by decide)
              have f14 : f 14 = .pointer (some ⟨q3, o3 + j, none⟩) := hF 14 (by decide)
              have f15 : f 15 = .int .i64 x3 := hF 15 (by decide)
              obtain ⟨aP_16, cP_16, f16, hP_16⟩ := hF 16 (by decide)
              obtain ⟨aO_17, cO_17, G_17, f17, hG_17, hO1_17, hO2_17⟩ := hF 17 (by decide)
              clear hF
              intro A hA
              simp only [grow.puts, Act.put, List.getElem?_toArray, List.getElem?_cons_zero, List.getElem?_cons_succ, Option.bind_some, List.setIfInBounds_toArray, List.set_cons_zero, List.set_cons_succ, f0, f1, f2, f3, f4, f5, f6, f7, f8, f9, f10, f11, f12, f13, f14, f15, f16, f17] at hA
              subst hA
              have HS9 := Lib.hid (And.intro (HS8.out.1.up hB) (And.intro (HS8.out.2.1.up hB) (And.intro (HS8.out.2.2.1.trans (hB.mono HS8.out.2.2.1.size)) (And.intro HS8.out.2.2.2.2.1 (Nat.le_trans HS8.out.2.2.2.2.2 hB.size)))))
              obtain ⟨cs, hown, happ⟩ := VR.app HS9.out.1 HS9.out.2.1 HS9.out.2.2.1 HS9.out.2.2.2.1 HS9.out.2.2.2.2 (by rw [ral.elems_setS]; exact hO2_17)
              rw [HNV.out] at hown happ
              have HAP := Lib.hid happ
              have HOW := Lib.hid hown
              have HGG := Lib.hid hG_17
              clear happ hown HGG HS8
              obtain ⟨i0, hin, hz0, hz1, hz2⟩ := info_parts infoRI
              refine wp_append_lies W (.tmp 181) (.tmp 198) 31 rfl w.heap.size 22 i0 (.slice none 0 0) 1 24 Tryd.underlying31 hin hz0 hz1 hz2 rfl (by decide) _ nv cs rfl HOW.out ⟨G_17, 0, none⟩ 1 1 [.slice aO_17 N cO_17] rfl rfl (World.news_of_block hO1_17) (by simp [Value.oneCell']) (by omega) (by unfold maxLen; omega) (by omega) HS9.out.2.2.1.size _ rfl ?_
              intro g5 cap5 w9 hown5 hgrow5 _ _
              have HT9 := Lib.hid (HAP.out _ _ hgrow5 hown5)
              clear hown5 hgrow5 HAP HOW HS9 hO1_17 hO2_17 hG_17 hP_16 hB hin hz0 hz1 hz2 k1 k2 k3 kA HoB HLN
              have hl9 : (vs ++ [(p7, setS ts y2 x3)]).length = nv + 1 := by rw [List.length_append, HNV.out]; rfl
              have HL9 := Lib.hid hl9
              clear hl9
              go_simp
              have HLn := Lib.hid (Len_vs w1.heap.size w9 b N _ HT9.out.s)
              rw [HL9.out] at HLn
              go_wp2_with fail
              refine HLn.out.mono ?_
              rintro e w12 ⟨rfl, rfl⟩
              clear HLn
              go_wp2_with fail
              go_roundw
              case rel => exact ⟨j + 1, _, rfl, by go_num, h1, Lib.hid ⟨_, HT9.out, by rw [HL9.out]; omega, by rw [HL9.out]; omega⟩⟩
              case measure => simp [intOf]; omega
          · have hn3 : ¬ ((j : Int) < (n3 : Int)) := by omega
            have i1 : (j : Int) < (n1 : Int) := by omega
            have i2 : (j : Int) < (n2 : Int) := by omega
            skip
            go_wp2_with fail
            go_loopw [22] (fun iv wr' => ∃ i : Nat, iv = .int .i64 i ∧ i ≤ nv ∧ Hid (VR w w1.heap.size b N vs (.slice aA nv cA) wr')) (fun iv _ => nv - (intOf iv).toNat)
            case atStart => exact ⟨0, rfl, Nat.zero_le _, HT⟩
            case round =>
              obtain ⟨i, rfl, hi, HU⟩ := hrel
              clear HT
              have i0 : (0 : Int) ≤ (i : Int) := by omega
              by_cases hlt : i < nv
              · have i1 : (i : Int) < (nv : Int) := by omega
                obtain ⟨⟨pv, ts⟩, hkv⟩ : ∃ y, vs[i]? = some y := ⟨_, List.getElem?_eq_getElem (by rw [HNV.out]; exact hlt)⟩
                have HKV := Lib.hid hkv
                clear hkv
                have HL := Lib.hid (List_in w1.heap.size _ b N vs HU.out.s i pv ts HKV.out (by omega))
                go_wp2_with fail
                refine HL.out.mono ?_
                rintro e w9 ⟨a9, c9, rfl, ho9, hb9⟩
                have HUn := Lib.hid (HU.out.up hb9)
                clear HL HU hb9
                have HU := HUn
                clear HUn
                obtain ⟨gA, dA, av, cv, hA, kA, hoA⟩ := HU.out.at HKV.out
                simp only [Value.slice.injEq] at hA
                obtain ⟨hA1, -, -⟩ := hA
                subst hA1
                have hlen := HU.out.len HKV.out
                rw [hlen]
                have HM := Lib.hid (sameInts_self a9 av c9 cv N (elems ts) w9 hlen (OwnI.reads (by have h := ho9; rw [hlen] at h; exact h)) (OwnI.reads hoA) (by unfold maxLen; omega))
                clear hlen ho9 hoA
                go_wp2_with fail
                refine HM.out.mono ?_
                rintro e w10 ⟨rfl, q10, hq10⟩
                have HUn := Lib.hid (HU.out.up (show Below w9.heap.size w9 w10 by rw [hq10]; exact belowDrewN _ _))
                clear HM HU hq10 kA
                go_wp2_with fail
                go_roundw
                case rel => exact ⟨i + 1, by go_num, hlt, HUn⟩
                case measure => simp [intOf]; omega
              · obtain rfl : i = nv := by omega
                have HL := Lib.hid (List_out w1.heap.size _ b N vs HU.out.s (i : Nat) (.inr (by rw [HNV.out]; omega)))
                have HG2 := Lib.hid (fun W (hW : Below w.heap.size w W) => er.errIs_any (.iface 29 (.int .i64 2)) 2 2 W (HG.out.up hW) rfl true rfl)
                have HUb := Lib.hid HU.out.b
                clear HU
                go_wp2_with fail
                refine HL.out.mono ?_
                rintro e w9 ⟨rfl, hb9⟩
                have HF := Lib.hid (HUb.out.trans (hb9.mono HUb.out.size))
                clear hb9 HUb HL
                go_wp2_with fail
                refine (HG2.out _ HF.out).mono ?_
                rintro e w10 ⟨rfl, hb10⟩
                have HF2 := Lib.hid (HF.out.trans (hb10.mono HF.out.size))
                clear hb10 HF
                go_wp2_with fail
                go_ret
                exact ⟨rfl, HF2.out⟩
        · have hn2 : ¬ ((j : Int) < (n2 : Int)) := by omega
          have i1 : (j : Int) < (n1 : Int) := by omega
          skip
          go_wp2_with fail
          go_loopw [22] (fun iv wr' => ∃ i : Nat, iv = .int .i64 i ∧ i ≤ nv ∧ Hid (VR w w1.heap.size b N vs (.slice aA nv cA) wr')) (fun iv _ => nv - (intOf iv).toNat)
          case atStart => exact ⟨0, rfl, Nat.zero_le _, HT⟩
          case round =>
            obtain ⟨i, rfl, hi, HU⟩ := hrel
            clear HT
            have i0 : (0 : Int) ≤ (i : Int) := by omega
            by_cases hlt : i < nv
            · have i1 : (i : Int) < (nv : Int) := by omega
              obtain ⟨⟨pv, ts⟩, hkv⟩ : ∃ y, vs[i]? = some y := ⟨_, List.getElem?_eq_getElem (by rw [HNV.out]; exact hlt)⟩
              have HKV := Lib.hid hkv
              clear hkv
              have HL := Lib.hid (List_in w1.heap.size _ b N vs HU.out.s i pv ts HKV.out (by omega))
              go_wp2_with fail
              refine HL.out.mono ?_
              rintro e w9 ⟨a9, c9, rfl, ho9, hb9⟩
              have HUn := Lib.hid (HU.out.up hb9)
              clear HL HU hb9
              have HU := HUn
              clear HUn
              obtain ⟨gA, dA, av, cv, hA, kA, hoA⟩ := HU.out.at HKV.out
              simp only [Value.slice.injEq] at hA
              obtain ⟨hA1, -, -⟩ := hA
              subst hA1
              have hlen := HU.out.len HKV.out
              rw [hlen]
              have HM := Lib.hid (sameInts_self a9 av c9 cv N (elems ts) w9 hlen (OwnI.reads (by have h := ho9; rw [hlen] at h; exact h)) (OwnI.reads hoA) (by unfold maxLen; omega))
              clear hlen ho9 hoA
              go_wp2_with fail
              refine HM.out.mono ?_
              rintro e w10 ⟨rfl, q10, hq10⟩
              have HUn := Lib.hid (HU.out.up (show Below w9.heap.size w9 w10 by rw [hq10]; exact belowDrewN _ _))
              clear HM HU hq10 kA
              go_wp2_with fail
              go_roundw
              case rel => exact ⟨i + 1, by go_num, hlt, HUn⟩
              case measure => simp [intOf]; omega
            · obtain rfl : i = nv := by omega
              have HL := Lib.hid (List_out w1.heap.size _ b N vs HU.out.s (i : Nat) (.inr (by rw [HNV.out]; omega)))
              have HG2 := Lib.hid (fun W (hW : Below w.heap.size w W) => er.errIs_any (.iface 29 (.int .i64 2)) 2 2 W (HG.out.up hW) rfl true rfl)
              have HUb := Lib.hid HU.out.b
              clear HU
              go_wp2_with fail
              refine HL.out.mono ?_
              rintro e w9 ⟨rfl, hb9⟩
              have HF := Lib.hid (HUb.out.trans (hb9.mono HUb.out.size))
              clear hb9 HUb HL
              go_wp2_with fail
              refine (HG2.out _ HF.out).mono ?_
              rintro e w10 ⟨rfl, hb10⟩
              have HF2 := Lib.hid (HF.out.trans (hb10.mono HF.out.size))
              clear hb10 HF
              go_wp2_with fail
              go_ret
              exact ⟨rfl, HF2.out⟩
      · have hn1 : ¬ ((j : Int) < (n1 : Int)) := by omega
        skip
        go_wp2_with fail
        go_loopw [22] (fun iv wr' => ∃ i : Nat, iv = .int .i64 i ∧ i ≤ nv ∧ Hid (VR w w1.heap.size b N vs (.slice aA nv cA) wr')) (fun iv _ => nv - (intOf iv).toNat)
        case atStart => exact ⟨0, rfl, Nat.zero_le _, HT⟩
        case round =>
          obtain ⟨i, rfl, hi, HU⟩ := hrel
          clear HT
          have i0 : (0 : Int) ≤ (i : Int) := by omega
          by_cases hlt : i < nv
          · have i1 : (i : Int) < (nv : Int) := by omega
            obtain ⟨⟨pv, ts⟩, hkv⟩ : ∃ y, vs[i]? = some y := ⟨_, List.getElem?_eq_getElem (by rw [HNV.out]; exact hlt)⟩
            have HKV := Lib.hid hkv
            clear hkv
            have HL := Lib.hid (List_in w1.heap.size _ b N vs HU.out.s i pv ts HKV.out (by omega))
            go_wp2_with fail
            refine HL.out.mono ?_
            rintro e w9 ⟨a9, c9, rfl, ho9, hb9⟩
            have HUn := Lib.hid (HU.out.up hb9)
            clear HL HU hb9
            have HU := HUn
            clear HUn
            obtain ⟨gA, dA, av, cv, hA, kA, hoA⟩ := HU.out.at HKV.out
            simp only [Value.slice.injEq] at hA
            obtain ⟨hA1, -, -⟩ := hA
            subst hA1
            have hlen := HU.out.len HKV.out
            rw [hlen]
            have HM := Lib.hid (sameInts_self a9 av c9 cv N (elems ts) w9 hlen (OwnI.reads (by have h := ho9; rw [hlen] at h; exact h)) (OwnI.reads hoA) (by unfold maxLen; omega))
            clear hlen ho9 hoA
            go_wp2_with fail
            refine HM.out.mono ?_
            rintro e w10 ⟨rfl, q10, hq10⟩
            have HUn := Lib.hid (HU.out.up (show Below w9.heap.size w9 w10 by rw [hq10]; exact belowDrewN _ _))
            clear HM HU hq10 kA
            go_wp2_with fail
            go_roundw
            case rel => exact ⟨i + 1, by go_num, hlt, HUn⟩
            case measure => simp [intOf]; omega
          · obtain rfl : i = nv := by omega
            have HL := Lib.hid (List_out w1.heap.size _ b N vs HU.out.s (i : Nat) (.inr (by rw [HNV.out]; omega)))
            have HG2 := Lib.hid (fun W (hW : Below w.heap.size w W) => er.errIs_any (.iface 29 (.int .i64 2)) 2 2 W (HG.out.up hW) rfl true rfl)
            have HUb := Lib.hid HU.out.b
            clear HU
            go_wp2_with fail
            refine HL.out.mono ?_
            rintro e w9 ⟨rfl, hb9⟩
            have HF := Lib.hid (HUb.out.trans (hb9.mono HUb.out.size))
            clear hb9 HUb HL
            go_wp2_with fail
            refine (HG2.out _ HF.out).mono ?_
            rintro e w10 ⟨rfl, hb10⟩
            have HF2 := Lib.hid (HF.out.trans (hb10.mono HF.out.size))
            clear hb10 HF
            go_wp2_with fail
            go_ret
            exact ⟨rfl, HF2.out⟩
theorem tells_any (n : Int) (a1 : Option Addr) (c1 : Nat) (l1 : List Int) (a2 : Option Addr) (c2 : Nat) (l2 : List Int) (a3 : Option Addr) (c3 : Nat) (l3 : List Int) (w : World) (_ : l1.length * 8 ≤ 140737488351232) (r1 : Reads w a1 l1) (_ : a1 = none → c1 = 0)
    (_ : l2.length * 8 ≤ 140737488351232) (r2 : Reads w a2 l2) (_ : a2 = none → c2 = 0) (_ : l3.length * 8 ≤ 140737488351232) (r3 : Reads w a3 l3) (_ : a3 = none → c3 = 0) (hg : er.Handle w) :
    Calls Tryd.prog 3 #[.int .i64 n, .slice a1 l1.length c1, .slice a2 l2.length c2, .slice a3 l3.length c3] w (Yes w) := tells n a1 a2 a3 c1 _ c2 _ c3 _ l1 l2 l3 w rfl rfl rfl r1 r2 r3 hg
end Go.Proofs.YthlcjhkelcfnoaaDoor.vers
