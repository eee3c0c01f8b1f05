/- The walks of package ral: a number at a place. -/
import Derived.Test.YthlcjhkelcfnoaaDoorRalP
namespace Go.Proofs.YthlcjhkelcfnoaaDoor.ral
open Go.RowKit

set_option maxHeartbeats 2000000 in
theorem tree_at (B : Nat) (w : World) (t : BT Int) (p : Option Addr) (n i : Nat) (v : Int) (h : In B w p t) (hp : Perf t) (hn : t.size = n) (hv : (pre t).getD i 0 = v) (hi : i < n) (hn2 : n ≤ 1152921504606844000) :
    Calls Tryd.prog 33 #[.pointer p, .int .i64 (n : Nat), .int .i64 (i : Nat)] w fun e w' => e = .returned (.int .i64 v) ∧ w = w' := by
  have HS := Lib.hid (And.intro h (And.intro hp (And.intro hn hv)))
  clear h hp hn hv
  go_enter Tryd.func33, Tryd.ntmps33
  go_wp2_with fail
  go_loop [0, 1, 2] (fun pv nv iv => ∃ (u : BT Int) (q : Option Addr) (m j : Nat), pv = .pointer q ∧ nv = .int .i64 m ∧ iv = .int .i64 j ∧ j < m ∧ m ≤ 1152921504606844000 ∧ Hid (In B w q u ∧ Perf u ∧ u.size = m ∧ (pre u).getD j 0 = v)) (fun _ _ iv => (intOf iv).toNat)
  case atStart => exact ⟨t, p, n, i, rfl, rfl, rfl, hi, hn2, HS⟩
  case round =>
    obtain ⟨u, q, m, j, rfl, rfl, rfl, hj, hm, HU⟩ := hrel
    cases u with
    | nil => exact absurd HU.out.2.2.1 (by simp only [BT.size]; omega)
    | node a l r =>
      obtain ⟨⟨b, pl, pr, rfl, hB, hb, hl, hr⟩, ⟨hlr, hpl, hpr⟩, hsz, hget⟩ := HU.out
      have k0 := t0 hb
      have k1 := t1 hb
      have k2 := t2 hb
      have hm2 : m / 2 = l.size := by simp only [BT.size] at hsz; omega
      have hmr : m / 2 = r.size := by omega
      have Hb := Lib.hid (And.intro hl (And.intro hr (And.intro hpl (And.intro hpr (And.intro hm2 (And.intro hmr hget))))))
      clear hb hl hr hpl hpr hm2 hmr hget hsz hlr HU HS
      have hm0 : (0 : Int) ≤ (m : Int) := by omega
      by_cases h0 : j = 0
      · subst h0
        have hv : a = v := Hb.out.2.2.2.2.2.2
        clear Hb
        subst hv
        go_wp2_with fail
        go_ret
        exact ⟨rfl, rfl⟩
      · have h1 : 0 < (j : Int) := by omega
        by_cases hlt : j - 1 < m / 2
        · have hi1 : (j : Int) - 1 < (m : Int) / 2 := by omega
          go_wp2_with fail
          go_round
          case rel => exact ⟨l, pl, m / 2, j - 1, rfl, by simp, by rw [Int.natCast_sub (by omega)]; rfl, hlt, by omega, Lib.hid ⟨Hb.out.1, Hb.out.2.2.1, Hb.out.2.2.2.2.1.symm, by
            have h := Hb.out.2.2.2.2.2.2
            obtain ⟨k, rfl⟩ : ∃ k, j = k + 1 := ⟨j - 1, by omega⟩
            rw [get_left _ _ _ _ (by rw [← Hb.out.2.2.2.2.1]; simpa using hlt)] at h
            simpa using h⟩⟩
          case measure => simp [intOf]; omega
        · have hi1 : ¬ ((j : Int) - 1 < (m : Int) / 2) := by omega
          go_wp2_with fail
          go_round
          case rel => exact ⟨r, pr, m / 2, j - 1 - m / 2, rfl, by simp, congrArg (Value.int .i64) (by omega), by omega, by omega, Lib.hid ⟨Hb.out.2.1, Hb.out.2.2.2.1, Hb.out.2.2.2.2.2.1.symm, by
            have h := Hb.out.2.2.2.2.2.2
            obtain ⟨k, rfl⟩ : ∃ k, j = k + 1 := ⟨j - 1, by omega⟩
            rw [get_right _ _ _ _ (by rw [← Hb.out.2.2.2.2.1]; simp at hlt; omega)] at h
            rw [Hb.out.2.2.2.2.1]
            simpa using h⟩⟩
          case measure => simp [intOf]; omega

def RetAt (w : World) (v : Int) (has : Bool) (e : Ending) (w' : World) : Prop := e = .returned (.tuple #[.int .i64 v, .bool has]) ∧ Below w.heap.size w w'

set_option maxHeartbeats 2000000 in
theorem At_out (w : World) (p : Option Addr) (N : Nat) (i : Int) (hi : i < 0 ∨ (N : Int) ≤ i) :
    Calls Tryd.prog 24 #[.agg #[.pointer p, .int .i64 (N : Nat)], .int .i64 i] w (RetAt w 0 false) := by
  by_cases h0 : i < 0
  · clear hi
    go_enter Tryd.func24, Tryd.ntmps24
    go_wp2_with fail
    go_ret2
    exact ⟨rfl, belowAlloc _ _⟩
  · have h1 : (N : Int) ≤ i := by omega
    have h2 : 0 ≤ i := by omega
    clear hi
    go_enter Tryd.func24, Tryd.ntmps24
    go_wp2_with fail
    go_ret2
    exact ⟨rfl, belowAlloc _ _⟩

set_option maxHeartbeats 2000000 in
theorem At_in (B : Nat) (w : World) (p : Option Addr) (ts : List (BT Int)) (N i : Nat) (v : Int) (h : Sp B w p ts) (hw : WF ts) (hN : total ts = N) (hi : i < N) (hn : N ≤ 1152921504606844000) (hv : (elems ts).getD i 0 = v) :
    Calls Tryd.prog 24 #[.agg #[.pointer p, .int .i64 (N : Nat)], .int .i64 (i : Nat)] w (RetAt w v true) := by
  have HS := Lib.hid (And.intro h (And.intro hw (And.intro hN hv)))
  have h0 : (0 : Int) ≤ (i : Int) := by omega
  have h1 : (i : Int) < (N : Int) := by omega
  clear h hw hN hv
  go_enter Tryd.func24, Tryd.ntmps24
  go_wp2_with fail
  obtain ⟨W, hW⟩ : ∃ W, W = w.alloc (.cells #[.pointer p, .int .i64 (N : Nat)] 49) := ⟨_, rfl⟩
  have HbW := Lib.hid (show Below w.heap.size w W by rw [hW]; exact belowAlloc _ _)
  rw [← hW]
  clear hW
  go_loopg [6, 1] ts.length (fun k sv iv wr => ∃ (us : List (BT Int)) (q : Option Addr) (j : Nat), sv = .pointer q ∧ iv = .int .i64 j ∧ wr = W ∧ Hid (Sp B w q us ∧ WF us ∧ j < total us ∧ total us ≤ N ∧ (elems us).getD j 0 = v ∧ k = us.length))
  case atStart => exact ⟨ts, p, i, rfl, rfl, rfl, Lib.hid ⟨HS.out.1, HS.out.2.1, by rw [HS.out.2.2.1]; exact hi, by rw [HS.out.2.2.1]; exact Nat.le_refl _, HS.out.2.2.2, rfl⟩⟩
  case round =>
    obtain ⟨us, q, j, rfl, rfl, rfl, HR⟩ := hrel
    cases us with
    | nil => exact absurd HR.out.2.2.1 (by simp [total])
    | cons t us =>
      obtain ⟨⟨b, q1, r1, rfl, hB, hb, hq1, hr1⟩, hwf, hj, hT, hg, hk⟩ := HR.out
      have hbW := upb HbW.out hb
      obtain ⟨m, hm⟩ : ∃ m, m = t.size := ⟨_, rfl⟩
      rw [← hm] at hbW
      have k0 := s0 hbW
      have k1 := s1 hbW
      have k2 := s2 hbW
      have hmN : m ≤ N := by simp only [total] at hT; omega
      have hk1 : us.length < gk := by rw [hk]; simp
      have Hq1 := Lib.hid (hq1.up HbW.out)
      have HX := Lib.hid (And.intro hr1 (And.intro hwf (And.intro hj (And.intro hT (And.intro hg hm)))))
      clear hb hbW hq1 hr1 hwf hj hT hg hk hm HR HS
      have g0 : (0 : Int) ≤ (j : Int) := by omega
      have g1 : (0 : Int) ≤ (m : Int) := by omega
      by_cases hlt : j < m
      · have g2 : (j : Int) < (m : Int) := by omega
        have hv : (pre t).getD j 0 = v := by
          have h := HX.out.2.2.2.2.1
          rw [elems_here _ _ _ (by rw [← HX.out.2.2.2.2.2]; exact hlt)] at h
          exact h
        have Hv := Lib.hid hv
        clear hv
        go_wp2_with fail
        go_quiet ((go_at_call 33; exact quietOf (tree_at B _ t _ m j v (by exact Hq1.out.up (belowDrewN _ _)) (by exact HX.out.2.1 t (by simp)) (by exact HX.out.2.2.2.2.2.symm) (by exact Hv.out) (by exact hlt) (by omega))))
        go_wp2_with fail
        go_ret2
        exact ⟨rfl, belowTrans HbW.out (belowDrewN _ _)⟩
      · have g2 : (m : Int) ≤ (j : Int) := by omega
        have g3 : (0 : Int) ≤ (j : Int) - m := by omega
        have g4 : (j : Int) ≤ 1152921504606844000 := by have h := HX.out.2.2.1; have h2 := HX.out.2.2.2.1; omega
        go_wp2_with fail
        go_roundg us.length
        case measure => exact hk1
        case rel => exact ⟨us, r1, j - m, rfl, congrArg (Value.int .i64) (by omega), rfl, Lib.hid ⟨HX.out.1, fun t ht => HX.out.2.1 t (by simp [ht]), by
          have h := HX.out.2.2.1
          have h2 := HX.out.2.2.2.2.2
          simp only [total] at h
          omega, by have h := HX.out.2.2.2.1; simp only [total] at h; omega, by
          have h := HX.out.2.2.2.2.1
          have h2 := HX.out.2.2.2.2.2
          rw [elems_there _ _ _ (by omega), ← h2] at h
          exact h, rfl⟩⟩
end Go.Proofs.YthlcjhkelcfnoaaDoor.ral
