/- All heaps are one, and an order: the law's walk. (Printed by tps.py.) -/
import Derived.Test.YtnigadnjppeckaaTopZ
import Derived.BigQuiet
namespace Go.Proofs.Ytnigadnjppeckaa.tops
open Go.RowKit

theorem reads_two {W : World} {g : Nat} {x y : Int} (h : W.heap[g]? = some (.cells #[.int .i64 x, .int .i64 y] 3 (0, 0))) : Reads W (some ⟨g, 0, none⟩) [x, y] :=
  .inr ⟨g, 0, rfl, fun i hi => by
    match i, hi with
    | 0, _ => simp [World.cell?, h]
    | 1, _ => simp [World.cell?, h]⟩
theorem Reads.cell {W : World} {a : Option Addr} {xs : List Int} (h : Reads W a xs) (h0 : 0 < xs.length) : ∃ b o, a = some ⟨b, o, none⟩ ∧ ∀ i, i < xs.length → W.cell? ⟨b, o + i, none⟩ = some (.int .i64 (xs.getD i 0)) := by
  rcases h with rfl | ⟨b, o, e, hc⟩
  · simp at h0
  · exact ⟨b, o, e, hc⟩

set_option maxRecDepth 100000 in
set_option maxHeartbeats 8000000 in
theorem law1 (a : Option Addr) (c : Nat) (l : List Int) (b : Option Addr) (d : Nat) (m : List Int) (w : World) (p q : Nat) (hl : Lst w a c p l) (hm : Lst w b d q m) :
    Calls Try.prog 8 #[.slice a p c, .slice b q d] w fun e w' => e = .returned (.bool true) ∧ Below w.heap.size w w' := by
  obtain ⟨n, hn⟩ : ∃ n, n = p + q := ⟨_, rfl⟩
  have hlen : l.length + m.length = n := by rw [hl.1, hm.1, hn]
  have hn2 : n ≤ 2097152 := by have := hl.2.2.2; have := hm.2.2.2; omega
  have hp2 : p ≤ 1048576 := hl.2.2.2
  have hq2 : q ≤ 1048576 := hm.2.2.2
  have HL := Lib.hid (And.intro hl hm)
  have HN := Lib.hid (And.intro hlen hn)
  have HF := Lib.hid (fact_any (w.alloc (.cells #[.int .i64 5, .int .i64 3] 3)) w.heap.size (heap_alloc_new _ _))
  have Hb0 := Lib.hid (belowAlloc w (.cells #[.int .i64 5, .int .i64 3] 3))
  clear hl hm hlen hn
  go_enter Try.func8, Try.ntmps8
  go_wp2_with fail
  refine HF.out.mono ?_
  rintro e w1 ⟨r1, rfl, hb1, h1⟩
  have H1 := Lib.hid h1
  have Hb1 := Lib.hid (belowTrans Hb0.out hb1)
  clear h1 hb1 HF Hb0
  go_wp2_with fail
  refine H1.out.mono ?_
  rintro e w2 ⟨a2, c2, rfl, ho2, hb2⟩
  have Hb2 := Lib.hid (belowTrans Hb1.out hb2)
  have hr2 := ho2.reads.up (belowAlloc w2 (.cells #[.int .i64 3, .int .i64 5] 3))
  have hS := sameInts_any a2 (some ⟨w2.heap.size, 0, none⟩) c2 2 [3, 5] [3, 5] _ hr2 (reads_two (heap_alloc_new w2 (.cells #[.int .i64 3, .int .i64 5] 3))) (by decide)
  have HS := Lib.hid hS
  have Hb3 := Lib.hid (belowTrans Hb2.out (belowAlloc w2 (.cells #[.int .i64 3, .int .i64 5] 3)))
  clear ho2 hb2 hr2 hS H1 Hb1 Hb2
  go_wp2_with fail
  refine HS.out.mono ?_
  rintro e w3 ⟨rfl, q3, rfl⟩
  obtain ⟨W0, hW⟩ : ∃ W, W = ((w2.alloc (.cells #[.int .i64 3, .int .i64 5] 3)).drewN q3) := ⟨_, rfl⟩
  have HW0 : Hid (Below w.heap.size w W0) := Lib.hid (by rw [hW]; exact belowTrans Hb3.out (belowDrewN _ _))
  rw [← hW]
  clear hW HS Hb3
  simp only [decide_true]
  go_wp2_with fail
  refine (bino_of (HL.out.1.up HW0.out)).mono ?_
  rintro e x1 ⟨f1, h1, a1, n1, d1, rfl, i1, b1⟩
  have HX := Lib.hid (And.intro h1 (And.intro i1 (And.intro (belowTrans HW0.out b1) b1)))
  clear h1 i1 b1
  go_wp2_with fail
  refine (bino_of (HL.out.2.up HX.out.2.2.1)).mono ?_
  rintro e x2 ⟨f2, h1, a2, n2, d2, rfl, i1, b1⟩
  have HA := Lib.hid (bino_all HN.out.1 hn2 HX.out.1 h1 (HeapR.lower (Nat.zero_le _) (HX.out.2.1.up b1)) (HeapR.lower (Nat.zero_le _) i1))
  have HW := Lib.hid (belowTrans HX.out.2.2.1 b1)
  have HV := Lib.hid (belowTrans HX.out.2.2.2 b1)
  clear h1 i1 b1 HX
  go_wp2_with fail
  refine HA.out.mono ?_
  rintro e x3 ⟨r1, z1, y1, rfl, b1, h1⟩
  have HB := Lib.hid h1
  have HWt := Lib.hid (belowTrans HW.out b1)
  have HVt := Lib.hid (belowTrans HV.out b1)
  clear h1 b1 HA HW HV
  go_wp2_with fail
  refine HB.out.mono ?_
  rintro e W1 ⟨v1, c1, ys, rfl, hy, hs, ho, hb⟩
  have HW1 := Lib.hid (belowTrans HWt.out hb)
  have HV3 := Lib.hid (belowTrans HVt.out hb)
  obtain ⟨s, hsy⟩ : ∃ s, s = ys := ⟨_, rfl⟩
  rw [← hsy] at hy hs ho
  have HS := Lib.hid (And.intro hs hy)
  have HR1 := Lib.hid ho.reads
  clear hsy hy hs ho hb HB HWt HVt HV3 HW0
  go_wp2_with fail
  refine (left_of (HL.out.1.up HW1.out)).mono ?_
  rintro e x1 ⟨p1, t1, rfl, h1, i1, b1⟩
  have HX := Lib.hid (And.intro h1 (And.intro i1 (And.intro (belowTrans HW1.out b1) b1)))
  clear h1 i1 b1
  go_wp2_with fail
  refine (left_of (HL.out.2.up HX.out.2.2.1)).mono ?_
  rintro e x2 ⟨p2, t2, rfl, h1, i1, b1⟩
  have HA := Lib.hid (left_all HN.out.1 hn2 HX.out.1 h1 (Holds.lower (Nat.zero_le _) (HX.out.2.1.up b1)) (Holds.lower (Nat.zero_le _) i1))
  have HW := Lib.hid (belowTrans HX.out.2.2.1 b1)
  have HV := Lib.hid (belowTrans HX.out.2.2.2 b1)
  clear h1 i1 b1 HX
  go_wp2_with fail
  refine HA.out.mono ?_
  rintro e x3 ⟨r1, rfl, b1, h1⟩
  have HB := Lib.hid h1
  have HWt := Lib.hid (belowTrans HW.out b1)
  have HVt := Lib.hid (belowTrans HV.out b1)
  clear h1 b1 HA HW HV
  go_wp2_with fail
  refine HB.out.mono ?_
  rintro e W2 ⟨v2, c2, ys, rfl, hy, hs, ho, hb⟩
  have HW2 := Lib.hid (belowTrans HWt.out hb)
  have HV3 := Lib.hid (belowTrans HVt.out hb)
  obtain rfl : s = ys := HS.out.1.eq hs
  replace HR1 := Lib.hid (HR1.out.up HV3.out)
  have HR2 := Lib.hid ho.reads
  clear hy hs ho hb HB HWt HVt HV3 HW1
  go_wp2_with fail
  refine (pair_of (HL.out.1.up HW2.out)).mono ?_
  rintro e x1 ⟨p1, n1, t1, rfl, h1, i1, b1⟩
  have HX := Lib.hid (And.intro h1 (And.intro i1 (And.intro (belowTrans HW2.out b1) b1)))
  clear h1 i1 b1
  go_wp2_with fail
  refine (pair_of (HL.out.2.up HX.out.2.2.1)).mono ?_
  rintro e x2 ⟨p2, n2, t2, rfl, h1, i1, b1⟩
  have HA := Lib.hid (pair_all HN.out.1 hn2 HX.out.1 h1 (Holds.lower (Nat.zero_le _) (HX.out.2.1.up b1)) (Holds.lower (Nat.zero_le _) i1))
  have HW := Lib.hid (belowTrans HX.out.2.2.1 b1)
  have HV := Lib.hid (belowTrans HX.out.2.2.2 b1)
  clear h1 i1 b1 HX
  go_wp2_with fail
  refine HA.out.mono ?_
  rintro e x3 ⟨r1, z1, rfl, b1, h1⟩
  have HB := Lib.hid h1
  have HWt := Lib.hid (belowTrans HW.out b1)
  have HVt := Lib.hid (belowTrans HV.out b1)
  clear h1 b1 HA HW HV
  go_wp2_with fail
  refine HB.out.mono ?_
  rintro e W3 ⟨v3, c3, ys, rfl, hy, hs, ho, hb⟩
  have HW3 := Lib.hid (belowTrans HWt.out hb)
  have HV3 := Lib.hid (belowTrans HVt.out hb)
  obtain rfl : s = ys := HS.out.1.eq hs
  replace HR1 := Lib.hid (HR1.out.up HV3.out)
  replace HR2 := Lib.hid (HR2.out.up HV3.out)
  have HR3 := Lib.hid ho.reads
  clear hy hs ho hb HB HWt HVt HV3 HW2
  go_wp2_with fail
  refine (ord_of (HL.out.1.up HW3.out)).mono ?_
  rintro e x1 ⟨p1, t1, rfl, h1, i1, b1⟩
  have HX := Lib.hid (And.intro h1 (And.intro i1 (And.intro (belowTrans HW3.out b1) b1)))
  clear h1 i1 b1
  go_wp2_with fail
  refine (ord_of (HL.out.2.up HX.out.2.2.1)).mono ?_
  rintro e x2 ⟨p2, t2, rfl, h1, i1, b1⟩
  have HA := Lib.hid (ord_all HN.out.1 hn2 HX.out.1 h1 (Holds.lower (Nat.zero_le _) (HX.out.2.1.up b1)) (Holds.lower (Nat.zero_le _) i1))
  have HW := Lib.hid (belowTrans HX.out.2.2.1 b1)
  have HV := Lib.hid (belowTrans HX.out.2.2.2 b1)
  clear h1 i1 b1 HX
  go_wp2_with fail
  refine HA.out.mono ?_
  rintro e x3 ⟨r1, rfl, b1, h1⟩
  have HB := Lib.hid h1
  have HWt := Lib.hid (belowTrans HW.out b1)
  have HVt := Lib.hid (belowTrans HV.out b1)
  clear h1 b1 HA HW HV
  go_wp2_with fail
  refine HB.out.mono ?_
  rintro e W4 ⟨v4, c4, ys, rfl, hy, hs, ho, hb⟩
  have HW4 := Lib.hid (belowTrans HWt.out hb)
  have HV3 := Lib.hid (belowTrans HVt.out hb)
  obtain rfl : s = ys := HS.out.1.eq hs
  replace HR1 := Lib.hid (HR1.out.up HV3.out)
  replace HR2 := Lib.hid (HR2.out.up HV3.out)
  replace HR3 := Lib.hid (HR3.out.up HV3.out)
  have HR4 := Lib.hid ho.reads
  have HC4 := Lib.hid (And.intro (own_cap ho) ho.none)
  clear hy hs ho hb HB HWt HVt HV3 HW3
  go_wp2_with fail
  have hsn := HS.out.2
  have HE := Lib.hid (sameInts_any v1 v2 c1 c2 s s W4 HR1.out HR2.out (by unfold maxLen; omega))
  rw [hsn, show decide (s = s) = true from decide_eq_true rfl] at HE
  go_wp2_with fail
  refine HE.out.mono ?_
  rintro e wz ⟨rfl, qz, rfl⟩
  obtain ⟨X0, hX⟩ : ∃ X, X = W4.drewN qz := ⟨_, rfl⟩
  have HV : Hid (Below W4.heap.size W4 X0) := Lib.hid (by rw [hX]; exact belowDrewN _ _)
  rw [← hX]
  have HW5 := Lib.hid (belowTrans HW4.out HV.out)
  replace HR1 := Lib.hid (HR1.out.up HV.out)
  replace HR2 := Lib.hid (HR2.out.up HV.out)
  replace HR3 := Lib.hid (HR3.out.up HV.out)
  replace HR4 := Lib.hid (HR4.out.up HV.out)
  clear hX HE HV HW4
  have HE := Lib.hid (sameInts_any v2 v3 c2 c3 s s X0 HR2.out HR3.out (by unfold maxLen; omega))
  rw [hsn, show decide (s = s) = true from decide_eq_true rfl] at HE
  go_wp2_with fail
  refine HE.out.mono ?_
  rintro e wz ⟨rfl, qz, rfl⟩
  obtain ⟨X1, hX⟩ : ∃ X, X = X0.drewN qz := ⟨_, rfl⟩
  have HV : Hid (Below X0.heap.size X0 X1) := Lib.hid (by rw [hX]; exact belowDrewN _ _)
  rw [← hX]
  have HW6 := Lib.hid (belowTrans HW5.out HV.out)
  replace HR1 := Lib.hid (HR1.out.up HV.out)
  replace HR2 := Lib.hid (HR2.out.up HV.out)
  replace HR3 := Lib.hid (HR3.out.up HV.out)
  replace HR4 := Lib.hid (HR4.out.up HV.out)
  clear hX HE HV HW5
  have HE := Lib.hid (sameInts_any v3 v4 c3 c4 s s X1 HR3.out HR4.out (by unfold maxLen; omega))
  rw [hsn, show decide (s = s) = true from decide_eq_true rfl] at HE
  go_wp2_with fail
  refine HE.out.mono ?_
  rintro e wz ⟨rfl, qz, rfl⟩
  obtain ⟨X2, hX⟩ : ∃ X, X = X1.drewN qz := ⟨_, rfl⟩
  have HV : Hid (Below X1.heap.size X1 X2) := Lib.hid (by rw [hX]; exact belowDrewN _ _)
  rw [← hX]
  have HW7 := Lib.hid (belowTrans HW6.out HV.out)
  replace HR1 := Lib.hid (HR1.out.up HV.out)
  replace HR2 := Lib.hid (HR2.out.up HV.out)
  replace HR3 := Lib.hid (HR3.out.up HV.out)
  replace HR4 := Lib.hid (HR4.out.up HV.out)
  clear hX HE HV HW6
  clear HR1 HR2 HR3
  go_wp2_with fail
  go_loopw [14] (fun iv wr => ∃ k : Nat, iv = .int .i64 ((k : Int) + 1) ∧ (k < n ∨ k = 0) ∧ Hid (Below X2.heap.size X2 wr)) (fun iv _ => n + 1 - (intOf iv).toNat)
  case atStart => exact ⟨0, rfl, .inr rfl, Lib.hid (Below.refl _ _)⟩
  case round =>
    obtain ⟨k, rfl, hk, HX⟩ := hrel
    by_cases hlt : k + 1 < n
    · obtain ⟨vb, vo, rfl, hcell⟩ := Reads.cell HR4.out (by omega)
      have q0 := upc HX.out (hcell k (by omega))
      have q1 := upc HX.out (hcell (k + 1) (by omega))
      have hst := HS.out.1.step (i := k + 1) (by omega) (by omega)
      rw [Nat.add_sub_cancel] at hst
      obtain ⟨x, hx⟩ : ∃ x, x = s.getD k 0 := ⟨_, rfl⟩
      obtain ⟨y, hy⟩ : ∃ y, y = s.getD (k + 1) 0 := ⟨_, rfl⟩
      rw [← hx] at q0 hst
      rw [← hy] at q1 hst
      have hd : decide (y < x) = false := by simpa using hst
      have j0 : (0 : Int) ≤ (k : Int) := by omega
      have j1 : (k : Int) + 1 < (n : Int) := by omega
      have j2 : (k : Int) < (n : Int) := by omega
      have hw1 : IntKind.i64.wrap ((k : Int) + 1 - 1) = (k : Int) := by rw [show (k : Int) + 1 - 1 = (k : Int) by omega]; exact IntWalk.i64_in _ (by omega)
      have hw2 : IntKind.i64.wrap ((k : Int) + 1 + 1) = (k : Int) + 1 + 1 := IntWalk.i64_in _ (by omega)
      clear hx hy hst hcell
      go_wp2_with fail
      go_quiet (fail)
      have HN2 := Lib.hid (belowTrans HX.out (belowDrewN wr nq))
      go_wp2_with fail
      go_roundw
      case rel => exact ⟨k + 1, by go_num, .inl hlt, HN2⟩
      case measure => simp [intOf]; omega
    · have j1 : ¬ ((k : Int) + 1 < (n : Int)) := by omega
      have hwn : IntKind.i64.wrap ((p : Int) + (q : Int)) = (n : Int) := by rw [show (p : Int) + (q : Int) = (n : Int) by have := HN.out.2; omega]; exact IntWalk.i64_in _ (by omega)
      have HC := Lib.hid (inv.Count_any 21 s v4 c4 wr (HR4.out.up HX.out) HC4.out.2 HC4.out.1 (by show s.length ≤ 2097152; omega) (by omega))
      rw [inv.srtF_rise 21 s HS.out.1.1, hsn] at HC
      have HB := Lib.hid (belowTrans HW7.out HX.out)
      clear HX HR4 HC4
      go_wp2_with fail
      refine HC.out.mono ?_
      rintro e wz ⟨rfl, hbz⟩
      have HB2 := Lib.hid (belowTrans HB.out hbz)
      clear hbz HC HB
      go_wp2_with fail
      go_ret
      exact ⟨rfl, HB2.out⟩

theorem law (a : Option Addr) (c : Nat) (l : List Int) (b : Option Addr) (d : Nat) (m : List Int) (w : World) (hb0 : l.length ≤ 1048576) (hr0 : Reads w a l) (hn0 : a = none → c = 0) (hb1 : m.length ≤ 1048576) (hr1 : Reads w b m) (hn1 : b = none → d = 0) :
    Calls Try.prog 8 #[.slice a l.length c, .slice b m.length d] w fun e w' => e = .returned (.bool true) ∧ Below w.heap.size w w' :=
  law1 a c l b d m w l.length m.length ⟨rfl, hr0, hn0, hb0⟩ ⟨rfl, hr1, hn1, hb1⟩
end Go.Proofs.Ytnigadnjppeckaa.tops
