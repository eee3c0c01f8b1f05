/- slices.order2Ordered, medianOrdered, medianAdjacentOrdered, choosePivotOrdered over bytes: which place is chosen lies in range. -/
import Derived.Test.YteglhcpochcopaaSrtK
namespace Go.Proofs.Yteglhcpochcopaa.srt
open Go.RowKit

/-- the count of swaps, in a box of its own -/
def Cnt (w : World) (S : Nat) : Prop := ∃ s : Int, w.heap[S]? = some (.cells #[.int .i64 s] 3 (0, 0))
set_option maxRecDepth 100000 in
set_option maxHeartbeats 4000000 in
theorem order2_any (w : World) (b n c S i j : Nat) (d : Array Nat) (h : Rw w b d) (hn : d.size = n) (hi : i < n) (hj : j < n) (hS : Cnt w S) :
    Calls Try.prog 55 #[.slice (some ⟨b, 0, none⟩) n c, .int .i64 (i : Nat), .int .i64 (j : Nat), .pointer (some ⟨S, 0, none⟩)] w fun e w' =>
      ∃ p q : Nat, e = .returned (.tuple #[.int .i64 (p : Nat), .int .i64 (q : Nat)]) ∧ ((p = i ∧ q = j) ∨ (p = j ∧ q = i)) ∧ On S w w' ∧ Cnt w' S := by
  obtain ⟨s, hs⟩ := hS
  have k1 := h.c i (by omega)
  have k2 := h.c j (by omega)
  obtain ⟨x, hx⟩ : ∃ x, x = d[i]! := ⟨_, rfl⟩
  obtain ⟨y, hy⟩ : ∃ x, x = d[j]! := ⟨_, rfl⟩
  rw [← hx] at k1
  rw [← hy] at k2
  have i0 : (0 : Int) ≤ (i : Int) := by omega
  have i1 : (i : Int) < (n : Int) := by omega
  have j0 : (0 : Int) ≤ (j : Int) := by omega
  have j1 : (j : Int) < (n : Int) := by omega
  have HL := Lib.hid (fun W => Less_any y x W)
  have HS := Lib.hid hs
  clear hx hy h hn hs
  cases hc : lt y x with
  | false =>
    rw [hc] at HL
    clear hc
    go_enter Try.func55, Try.ntmps55
    go_wp2_with fail
    go_quiet ((go_at_call 44; exact quietOf (HL.out _)))
    go_wp2_with fail
    go_ret2
    exact ⟨i, j, rfl, .inl ⟨rfl, rfl⟩, .below (belowDrewN _ _), _, HS.out⟩
  | true =>
    rw [hc] at HL
    clear hc
    go_enter Try.func55, Try.ntmps55
    go_wp2_with fail
    go_quiet ((go_at_call 44; exact quietOf (HL.out _)))
    obtain ⟨V, hV⟩ : ∃ V, V = w.drewN nq := ⟨_, rfl⟩
    have hsV : V.heap[S]? = some (.cells #[.int .i64 s] 3 (0, 0)) := by rw [hV]; exact HS.out
    have hO : On S w V := by rw [hV]; exact .below (belowDrewN _ _)
    rw [← hV]
    have c0 := cell_of_one hsV
    have f0 := free_of_one hsV
    have HV := Lib.hid (And.intro hsV hO)
    clear hV hsV hO
    go_wp2_with fail
    go_ret2
    exact ⟨j, i, rfl, .inr ⟨rfl, rfl⟩, HV.out.2.trans (On.set S 0 _ _), _, one_setCell HV.out.1⟩

set_option maxRecDepth 100000 in
set_option maxHeartbeats 4000000 in
theorem median_any (w : World) (b n c S i j k : Nat) (d : Array Nat) (h : Rw w b d) (hn : d.size = n) (hi : i < n) (hj : j < n) (hk : k < n) (hS : Cnt w S) (hbS : b ≠ S) :
    Calls Try.prog 53 #[.slice (some ⟨b, 0, none⟩) n c, .int .i64 (i : Nat), .int .i64 (j : Nat), .int .i64 (k : Nat), .pointer (some ⟨S, 0, none⟩)] w fun e w' =>
      ∃ p : Nat, e = .returned (.int .i64 (p : Nat)) ∧ (p = i ∨ p = j ∨ p = k) ∧ On S w w' ∧ Cnt w' S := by
  have HO := Lib.hid (fun W p q (hW : Rw W b d) (hp : p < n) (hq : q < n) (hc : Cnt W S) => order2_any W b n c S p q d hW hn hp hq hc)
  have H0 := Lib.hid (And.intro h (And.intro hS (On.refl S w)))
  have HJ := Lib.hid (And.intro hi (And.intro hj (And.intro hk hbS)))
  clear h hn hi hj hk hS hbS
  go_enter Try.func53, Try.ntmps53
  go_wp2_with fail
  refine (HO.out w i j H0.out.1 HJ.out.1 HJ.out.2.1 H0.out.2.1).mono ?_
  rintro e w1 ⟨p1, q1, rfl, h1, on1, c1⟩
  have H1 := Lib.hid (And.intro (H0.out.1.on HJ.out.2.2.2 on1) (And.intro c1 (H0.out.2.2.trans on1)))
  have P1 := Lib.hid h1
  clear on1 c1 H0 h1
  go_wp2_with fail
  refine (HO.out w1 q1 k H1.out.1 (by have := HJ.out; have := P1.out; omega) HJ.out.2.2.1 H1.out.2.1).mono ?_
  rintro e w2 ⟨p2, q2, rfl, h2, on2, c2⟩
  have H2 := Lib.hid (And.intro (H1.out.1.on HJ.out.2.2.2 on2) (And.intro c2 (H1.out.2.2.trans on2)))
  have P2 := Lib.hid h2
  clear on2 c2 H1 h2
  go_wp2_with fail
  refine (HO.out w2 p1 p2 H2.out.1 (by have := HJ.out; have := P1.out; omega) (by have := HJ.out; have := P1.out; have := P2.out; omega) H2.out.2.1).mono ?_
  rintro e w3 ⟨p3, q3, rfl, h3, on3, c3⟩
  have H3 := Lib.hid (And.intro c3 (H2.out.2.2.trans on3))
  have P3 := Lib.hid h3
  clear on3 c3 H2 h3
  go_wp2_with fail
  go_ret
  exact ⟨q3, rfl, by have := P1.out; have := P2.out; have := P3.out; omega, H3.out.2, H3.out.1⟩

set_option maxRecDepth 100000 in
set_option maxHeartbeats 4000000 in
theorem adjacent_any (w : World) (b n c S i : Nat) (d : Array Nat) (h : Rw w b d) (hn : d.size = n) (hi : 1 ≤ i) (hi1 : i + 1 < n) (hb : n ≤ 1099511627776) (hS : Cnt w S) (hbS : b ≠ S) :
    Calls Try.prog 52 #[.slice (some ⟨b, 0, none⟩) n c, .int .i64 (i : Nat), .pointer (some ⟨S, 0, none⟩)] w fun e w' =>
      ∃ p : Nat, e = .returned (.int .i64 (p : Nat)) ∧ i ≤ p + 1 ∧ p ≤ i + 1 ∧ On S w w' ∧ Cnt w' S := by
  obtain ⟨i0, h0⟩ : ∃ i0, i0 = i - 1 := ⟨_, rfl⟩
  obtain ⟨i2, h2⟩ : ∃ i2, i2 = i + 1 := ⟨_, rfl⟩
  have w1 : IntKind.i64.wrap ((i : Int) - 1) = (i0 : Int) := wi (by omega) (by omega)
  have w2 : IntKind.i64.wrap ((i : Int) + 1) = (i2 : Int) := wi (by omega) (by omega)
  have HM := Lib.hid (median_any w b n c S i0 i i2 d h hn (by omega) (by omega) (by omega) hS hbS)
  have HX := Lib.hid (And.intro h0 (And.intro h2 hi))
  clear h hn hi hi1 hb hS hbS h0 h2
  go_enter Try.func52, Try.ntmps52
  go_wp2_with fail
  refine HM.out.mono ?_
  rintro e w1 ⟨p, rfl, hp, on1, c1⟩
  have H1 := Lib.hid (And.intro hp (And.intro on1 c1))
  clear hp on1 c1
  go_wp2_with fail
  go_ret
  exact ⟨p, rfl, by have := HX.out; have := H1.out.1; omega, by have := HX.out; have := H1.out.1; omega, H1.out.2.1, H1.out.2.2⟩
set_option maxRecDepth 100000 in
set_option maxHeartbeats 8000000 in
theorem choose_any (w : World) (b n c a e : Nat) (d : Array Nat) (h : Rw w b d) (hn : d.size = n) (hb : n ≤ 1099511627776) (hae : a + 8 ≤ e) (he : e ≤ n) :
    Calls Try.prog 41 #[.slice (some ⟨b, 0, none⟩) n c, .int .i64 (a : Nat), .int .i64 (e : Nat)] w fun en w' =>
      ∃ (p : Nat) (z : Int), en = .returned (.tuple #[.int .i64 (p : Nat), .int .i64 z]) ∧ a ≤ p ∧ p < e ∧ Below w.heap.size w w' := by
  obtain ⟨l, hl⟩ : ∃ l, l = e - a := ⟨_, rfl⟩
  obtain ⟨q, hq⟩ : ∃ q, q = l / 4 := ⟨_, rfl⟩
  obtain ⟨q2, hq2⟩ : ∃ q2, q2 = q * 2 := ⟨_, rfl⟩
  obtain ⟨q3, hq3⟩ : ∃ q3, q3 = q * 3 := ⟨_, rfl⟩
  obtain ⟨I, hI⟩ : ∃ I, I = a + q := ⟨_, rfl⟩
  obtain ⟨J, hJ⟩ : ∃ J, J = a + q2 := ⟨_, rfl⟩
  obtain ⟨K, hK⟩ : ∃ K, K = a + q3 := ⟨_, rfl⟩
  have Hw1 : Hid (IntKind.i64.wrap ((e : Int) - (a : Int)) = (l : Int)) := Lib.hid (wi (by omega) (by omega))
  have Hw2 : Hid (wrap64 ((l : Int) / 4) = (q : Int)) := Lib.hid (wi64 (by omega) (by omega))
  have Hw3 : Hid (IntKind.i64.wrap (q : Int) = (q : Int)) := Lib.hid (wi rfl (by omega))
  have Hw4 : Hid (IntKind.i64.wrap ((q : Int) * 2) = (q2 : Int)) := Lib.hid (wi (by omega) (by omega))
  have Hw5 : Hid (IntKind.i64.wrap ((q : Int) * 3) = (q3 : Int)) := Lib.hid (wi (by omega) (by omega))
  have Hw6 : Hid (IntKind.i64.wrap ((a : Int) + (q : Int)) = (I : Int)) := Lib.hid (wi (by omega) (by omega))
  have Hw7 : Hid (IntKind.i64.wrap ((a : Int) + (q2 : Int)) = (J : Int)) := Lib.hid (wi (by omega) (by omega))
  have Hw8 : Hid (IntKind.i64.wrap ((a : Int) + (q3 : Int)) = (K : Int)) := Lib.hid (wi (by omega) (by omega))
  have l8 : (8 : Int) ≤ (l : Int) := by omega
  obtain ⟨W, hW⟩ : ∃ W, W = w.alloc (.cells #[.int .i64 0] 3) := ⟨_, rfl⟩
  obtain ⟨S, hS⟩ : ∃ S, S = w.heap.size := ⟨_, rfl⟩
  have hBW : Below w.heap.size w W := by rw [hW]; exact belowAlloc w _
  have hCW : Cnt W S := ⟨0, by rw [hW, hS]; exact heap_alloc_new w _⟩
  have hRW := h.up hBW
  have hbS : b ≠ S := by have := h.lt; omega
  have HO : Hid (∀ W', On S W W' → Below w.heap.size w W') := Lib.hid fun W' o => ⟨o.os.trans hBW.os, o.tape.trans hBW.tape, o.output.trans hBW.output, Nat.le_trans hBW.size o.size, fun k hk => (o.block k (Nat.lt_of_lt_of_le hk hBW.size) (by omega)).trans (hBW.block k hk)⟩
  have H0 := Lib.hid (And.intro hRW (And.intro hCW (On.refl S W)))
  have HMd := Lib.hid (fun V i j k (hV : Rw V b d) (hi : i < n) (hj : j < n) (hk : k < n) (hc : Cnt V S) => median_any V b n c S i j k d hV hn hi hj hk hc hbS)
  have HAd := Lib.hid (fun V i (hV : Rw V b d) (hi : 1 ≤ i) (hi1 : i + 1 < n) (hc : Cnt V S) => adjacent_any V b n c S i d hV hn hi hi1 hb hc hbS)
  have HB : Hid (a + 1 ≤ I ∧ I + 1 < e ∧ a + 1 ≤ J ∧ J + 1 < e ∧ a + 1 ≤ K ∧ K + 1 < e ∧ e ≤ n) := Lib.hid (by refine ⟨?_, ?_, ?_, ?_, ?_, ?_, he⟩ <;> omega)
  have HX := Lib.hid (And.intro hl (And.intro hq (And.intro hq2 (And.intro hq3 (And.intro hI (And.intro hJ (And.intro hK (And.intro hae (And.intro he hbS)))))))))
  have HWS := Lib.hid (And.intro hW hS)
  clear h hn hl hq hq2 hq3 hI hJ hK hae he hbS hW hS hBW hCW hRW hb
  by_cases h50 : 50 ≤ l
  · have l50 : (50 : Int) ≤ (l : Int) := by omega
    obtain ⟨w1, w2, w3, w4, w5, w6, w7, w8⟩ : _ ∧ _ ∧ _ ∧ _ ∧ _ ∧ _ ∧ _ ∧ _ := ⟨Hw1.out, Hw2.out, Hw3.out, Hw4.out, Hw5.out, Hw6.out, Hw7.out, Hw8.out⟩
    go_enter Try.func41, Try.ntmps41
    go_wp2_with fail
    rw [← HWS.out.1, ← HWS.out.2]
    clear w1 w2 w3 w4 w5 w6 w7 w8
    refine (HAd.out W I H0.out.1 (by have hX := HB.out; omega) (by have hX := HB.out; omega) H0.out.2.1).mono ?_
    rintro en V0 ⟨pI, rfl, lo0, hi0, on0, c0⟩
    have S0 := Lib.hid (And.intro (H0.out.1.on (by have hX := HX.out; exact hX.2.2.2.2.2.2.2.2.2) on0) (And.intro c0 (H0.out.2.2.trans on0)))
    have L0 := Lib.hid (And.intro lo0 hi0)
    clear on0 c0 lo0 hi0
    go_wp2_with fail
    refine (HAd.out V0 J S0.out.1 (by have hX := HB.out; omega) (by have hX := HB.out; omega) S0.out.2.1).mono ?_
    rintro en V1 ⟨pJ, rfl, lo1, hi1, on1, c1⟩
    have S1 := Lib.hid (And.intro (S0.out.1.on (by have hX := HX.out; exact hX.2.2.2.2.2.2.2.2.2) on1) (And.intro c1 (S0.out.2.2.trans on1)))
    have L1 := Lib.hid (And.intro lo1 hi1)
    clear on1 c1 lo1 hi1
    go_wp2_with fail
    refine (HAd.out V1 K S1.out.1 (by have hX := HB.out; omega) (by have hX := HB.out; omega) S1.out.2.1).mono ?_
    rintro en V2 ⟨pK, rfl, lo2, hi2, on2, c2⟩
    have S2 := Lib.hid (And.intro (S1.out.1.on (by have hX := HX.out; exact hX.2.2.2.2.2.2.2.2.2) on2) (And.intro c2 (S1.out.2.2.trans on2)))
    have L2 := Lib.hid (And.intro lo2 hi2)
    clear on2 c2 lo2 hi2
    go_wp2_with fail
    refine (HMd.out V2 pI pJ pK S2.out.1 (by have hX := HB.out; have l0 := L0.out; have l1 := L1.out; have l2 := L2.out; omega) (by have hX := HB.out; have l0 := L0.out; have l1 := L1.out; have l2 := L2.out; omega) (by have hX := HB.out; have l0 := L0.out; have l1 := L1.out; have l2 := L2.out; omega) S2.out.2.1).mono ?_
    rintro en w9 ⟨p, rfl, hp, on9, ⟨s9, c9⟩⟩
    have hp1 : a ≤ p := by
      have hX := HB.out; have l0 := L0.out; have l1 := L1.out; have l2 := L2.out; rcases hp with rfl | rfl | rfl <;> omega
    have hp2 : p < e := by
      have hX := HB.out; have l0 := L0.out; have l1 := L1.out; have l2 := L2.out; rcases hp with rfl | rfl | rfl <;> omega
    have HF := Lib.hid (And.intro hp1 (And.intro hp2 (HO.out _ (S2.out.2.2.trans on9))))
    have k9 := cell_of_one c9
    clear hp hp1 hp2 on9 c9
    go_wp2_with fail
    all_goals go_ret2
    all_goals exact ⟨p, _, rfl, HF.out.1, HF.out.2.1, HF.out.2.2⟩
  · have l50 : decide ((50 : Int) ≤ (l : Int)) = false := decide_eq_false (by omega)
    have l50n : decide (50 ≤ l) = false := decide_eq_false h50
    clear h50
    obtain ⟨w1, w2, w3, w4, w5, w6, w7, w8⟩ : _ ∧ _ ∧ _ ∧ _ ∧ _ ∧ _ ∧ _ ∧ _ := ⟨Hw1.out, Hw2.out, Hw3.out, Hw4.out, Hw5.out, Hw6.out, Hw7.out, Hw8.out⟩
    go_enter Try.func41, Try.ntmps41
    go_wp2_with fail
    rw [← HWS.out.1, ← HWS.out.2]
    clear w1 w2 w3 w4 w5 w6 w7 w8
    refine (HMd.out W I J K H0.out.1 (by have hX := HB.out; omega) (by have hX := HB.out; omega) (by have hX := HB.out; omega) H0.out.2.1).mono ?_
    rintro en w9 ⟨p, rfl, hp, on9, ⟨s9, c9⟩⟩
    have hp1 : a ≤ p := by
      have hX := HB.out; rcases hp with rfl | rfl | rfl <;> omega
    have hp2 : p < e := by
      have hX := HB.out; rcases hp with rfl | rfl | rfl <;> omega
    have HF := Lib.hid (And.intro hp1 (And.intro hp2 (HO.out _ (H0.out.2.2.trans on9))))
    have k9 := cell_of_one c9
    clear hp hp1 hp2 on9 c9
    go_wp2_with fail
    all_goals go_ret2
    all_goals exact ⟨p, _, rfl, HF.out.1, HF.out.2.1, HF.out.2.2⟩
end Go.Proofs.Yteglhcpochcopaa.srt
