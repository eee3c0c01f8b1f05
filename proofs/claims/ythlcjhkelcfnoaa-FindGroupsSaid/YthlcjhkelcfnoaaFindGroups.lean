/- The law that groups are groups. Whatever is joined: true; what was there stays. -/
import Derived.Test.YthlcjhkelcfnoaaFindStays
namespace Go.Proofs.Ythlcjhkelcfnoaa.find
open Go.RowKit
open ral (Sp WF total elems build setS)
open vers (Ver)

set_option maxRecDepth 100000 in
set_option maxHeartbeats 4000000 in
theorem groups_out (n a b c : Int) (av bv : Value) (w : World) (hn : n < 0 ∨ 5000 < n) :
    Calls Try.prog 6 #[.int .i64 n, av, bv, .int .i64 a, .int .i64 b, .int .i64 c] w (Yes w) := by
  have HO := Lib.hid (fun w => New_out w n hn)
  clear hn
  go_enter Try.func6, Try.ntmps6
  go_wp2_with fail
  refine (grouped_any w).mono ?_
  rintro e w0 ⟨rfl, hb0⟩
  have Hb0 := Lib.hid hb0
  clear hb0
  go_wp2_with fail
  refine (HO.out w0).mono ?_
  rintro e w1 ⟨rfl, rfl⟩
  go_wp2_with fail
  go_ret
  exact ⟨rfl, Hb0.out⟩

/-- the guard lets none by -/
def Guard (n : Nat) (m : Nat) (a b c : Int) : Prop := 60 < n ∨ 40 < m ∨ a < 0 ∨ (n : Int) ≤ a ∨ b < 0 ∨ (n : Int) ≤ b ∨ c < 0 ∨ (n : Int) ≤ c

set_option maxRecDepth 100000 in
set_option maxHeartbeats 4000000 in
theorem groups_g0 (n : Nat) (aa : Option Addr) (m cc : Nat) (bv : Value) (a b c : Int) (w : World) (hn : n ≤ 5000) (g0 : (60 : Int) < (n : Int)) :
    Calls Try.prog 6 #[.int .i64 (n : Nat), .slice aa m cc, bv, .int .i64 a, .int .i64 b, .int .i64 c] w (Yes w) := by
  have HO := Lib.hid (fun w => New_in w n hn)
  clear hn
  go_enter Try.func6, Try.ntmps6
  go_wp2_with fail
  refine (grouped_any w).mono ?_
  rintro e w0 ⟨rfl, hb0⟩
  have Hb0 := Lib.hid hb0
  clear hb0
  go_wp2_with fail
  refine (HO.out w0).mono ?_
  rintro e w1 ⟨b1, p1, rfl, hv1, hb1⟩
  have Hb1 := Lib.hid (belowTrans Hb0.out hb1)
  clear hv1 hb1
  go_wp2_with fail
  go_ret
  exact ⟨rfl, Hb1.out⟩

set_option maxRecDepth 100000 in
set_option maxHeartbeats 4000000 in
theorem groups_g1 (n : Nat) (aa : Option Addr) (m cc : Nat) (bv : Value) (a b c : Int) (w : World) (hn : n ≤ 5000) (g0 : (n : Int) ≤ 60) (g1 : (40 : Int) < (m : Int)) :
    Calls Try.prog 6 #[.int .i64 (n : Nat), .slice aa m cc, bv, .int .i64 a, .int .i64 b, .int .i64 c] w (Yes w) := by
  have HO := Lib.hid (fun w => New_in w n hn)
  clear hn
  go_enter Try.func6, Try.ntmps6
  go_wp2_with fail
  refine (grouped_any w).mono ?_
  rintro e w0 ⟨rfl, hb0⟩
  have Hb0 := Lib.hid hb0
  clear hb0
  go_wp2_with fail
  refine (HO.out w0).mono ?_
  rintro e w1 ⟨b1, p1, rfl, hv1, hb1⟩
  have Hb1 := Lib.hid (belowTrans Hb0.out hb1)
  clear hv1 hb1
  go_wp2_with fail
  go_ret
  exact ⟨rfl, Hb1.out⟩

set_option maxRecDepth 100000 in
set_option maxHeartbeats 4000000 in
theorem groups_g2 (n : Nat) (aa : Option Addr) (m cc : Nat) (bv : Value) (a b c : Int) (w : World) (hn : n ≤ 5000) (g0 : (n : Int) ≤ 60) (g1 : (m : Int) ≤ 40) (g2 : a < 0) :
    Calls Try.prog 6 #[.int .i64 (n : Nat), .slice aa m cc, bv, .int .i64 a, .int .i64 b, .int .i64 c] w (Yes w) := by
  have HO := Lib.hid (fun w => New_in w n hn)
  clear hn
  go_enter Try.func6, Try.ntmps6
  go_wp2_with fail
  refine (grouped_any w).mono ?_
  rintro e w0 ⟨rfl, hb0⟩
  have Hb0 := Lib.hid hb0
  clear hb0
  go_wp2_with fail
  refine (HO.out w0).mono ?_
  rintro e w1 ⟨b1, p1, rfl, hv1, hb1⟩
  have Hb1 := Lib.hid (belowTrans Hb0.out hb1)
  clear hv1 hb1
  go_wp2_with fail
  go_ret
  exact ⟨rfl, Hb1.out⟩

set_option maxRecDepth 100000 in
set_option maxHeartbeats 4000000 in
theorem groups_g3 (n : Nat) (aa : Option Addr) (m cc : Nat) (bv : Value) (a b c : Int) (w : World) (hn : n ≤ 5000) (g0 : (n : Int) ≤ 60) (g1 : (m : Int) ≤ 40) (g2 : 0 ≤ a) (g3 : (n : Int) ≤ a) :
    Calls Try.prog 6 #[.int .i64 (n : Nat), .slice aa m cc, bv, .int .i64 a, .int .i64 b, .int .i64 c] w (Yes w) := by
  have HO := Lib.hid (fun w => New_in w n hn)
  clear hn
  go_enter Try.func6, Try.ntmps6
  go_wp2_with fail
  refine (grouped_any w).mono ?_
  rintro e w0 ⟨rfl, hb0⟩
  have Hb0 := Lib.hid hb0
  clear hb0
  go_wp2_with fail
  refine (HO.out w0).mono ?_
  rintro e w1 ⟨b1, p1, rfl, hv1, hb1⟩
  have Hb1 := Lib.hid (belowTrans Hb0.out hb1)
  clear hv1 hb1
  go_wp2_with fail
  go_ret
  exact ⟨rfl, Hb1.out⟩

set_option maxRecDepth 100000 in
set_option maxHeartbeats 4000000 in
theorem groups_g4 (n : Nat) (aa : Option Addr) (m cc : Nat) (bv : Value) (a b c : Int) (w : World) (hn : n ≤ 5000) (g0 : (n : Int) ≤ 60) (g1 : (m : Int) ≤ 40) (g2 : 0 ≤ a) (g3 : a < (n : Int)) (g4 : b < 0) :
    Calls Try.prog 6 #[.int .i64 (n : Nat), .slice aa m cc, bv, .int .i64 a, .int .i64 b, .int .i64 c] w (Yes w) := by
  have HO := Lib.hid (fun w => New_in w n hn)
  clear hn
  go_enter Try.func6, Try.ntmps6
  go_wp2_with fail
  refine (grouped_any w).mono ?_
  rintro e w0 ⟨rfl, hb0⟩
  have Hb0 := Lib.hid hb0
  clear hb0
  go_wp2_with fail
  refine (HO.out w0).mono ?_
  rintro e w1 ⟨b1, p1, rfl, hv1, hb1⟩
  have Hb1 := Lib.hid (belowTrans Hb0.out hb1)
  clear hv1 hb1
  go_wp2_with fail
  go_ret
  exact ⟨rfl, Hb1.out⟩

set_option maxRecDepth 100000 in
set_option maxHeartbeats 4000000 in
theorem groups_g5 (n : Nat) (aa : Option Addr) (m cc : Nat) (bv : Value) (a b c : Int) (w : World) (hn : n ≤ 5000) (g0 : (n : Int) ≤ 60) (g1 : (m : Int) ≤ 40) (g2 : 0 ≤ a) (g3 : a < (n : Int)) (g4 : 0 ≤ b) (g5 : (n : Int) ≤ b) :
    Calls Try.prog 6 #[.int .i64 (n : Nat), .slice aa m cc, bv, .int .i64 a, .int .i64 b, .int .i64 c] w (Yes w) := by
  have HO := Lib.hid (fun w => New_in w n hn)
  clear hn
  go_enter Try.func6, Try.ntmps6
  go_wp2_with fail
  refine (grouped_any w).mono ?_
  rintro e w0 ⟨rfl, hb0⟩
  have Hb0 := Lib.hid hb0
  clear hb0
  go_wp2_with fail
  refine (HO.out w0).mono ?_
  rintro e w1 ⟨b1, p1, rfl, hv1, hb1⟩
  have Hb1 := Lib.hid (belowTrans Hb0.out hb1)
  clear hv1 hb1
  go_wp2_with fail
  go_ret
  exact ⟨rfl, Hb1.out⟩

set_option maxRecDepth 100000 in
set_option maxHeartbeats 4000000 in
theorem groups_g6 (n : Nat) (aa : Option Addr) (m cc : Nat) (bv : Value) (a b c : Int) (w : World) (hn : n ≤ 5000) (g0 : (n : Int) ≤ 60) (g1 : (m : Int) ≤ 40) (g2 : 0 ≤ a) (g3 : a < (n : Int)) (g4 : 0 ≤ b) (g5 : b < (n : Int)) (g6 : c < 0) :
    Calls Try.prog 6 #[.int .i64 (n : Nat), .slice aa m cc, bv, .int .i64 a, .int .i64 b, .int .i64 c] w (Yes w) := by
  have HO := Lib.hid (fun w => New_in w n hn)
  clear hn
  go_enter Try.func6, Try.ntmps6
  go_wp2_with fail
  refine (grouped_any w).mono ?_
  rintro e w0 ⟨rfl, hb0⟩
  have Hb0 := Lib.hid hb0
  clear hb0
  go_wp2_with fail
  refine (HO.out w0).mono ?_
  rintro e w1 ⟨b1, p1, rfl, hv1, hb1⟩
  have Hb1 := Lib.hid (belowTrans Hb0.out hb1)
  clear hv1 hb1
  go_wp2_with fail
  go_ret
  exact ⟨rfl, Hb1.out⟩

set_option maxRecDepth 100000 in
set_option maxHeartbeats 4000000 in
theorem groups_g7 (n : Nat) (aa : Option Addr) (m cc : Nat) (bv : Value) (a b c : Int) (w : World) (hn : n ≤ 5000) (g0 : (n : Int) ≤ 60) (g1 : (m : Int) ≤ 40) (g2 : 0 ≤ a) (g3 : a < (n : Int)) (g4 : 0 ≤ b) (g5 : b < (n : Int)) (g6 : 0 ≤ c) (g7 : (n : Int) ≤ c) :
    Calls Try.prog 6 #[.int .i64 (n : Nat), .slice aa m cc, bv, .int .i64 a, .int .i64 b, .int .i64 c] w (Yes w) := by
  have HO := Lib.hid (fun w => New_in w n hn)
  clear hn
  go_enter Try.func6, Try.ntmps6
  go_wp2_with fail
  refine (grouped_any w).mono ?_
  rintro e w0 ⟨rfl, hb0⟩
  have Hb0 := Lib.hid hb0
  clear hb0
  go_wp2_with fail
  refine (HO.out w0).mono ?_
  rintro e w1 ⟨b1, p1, rfl, hv1, hb1⟩
  have Hb1 := Lib.hid (belowTrans Hb0.out hb1)
  clear hv1 hb1
  go_wp2_with fail
  go_ret
  exact ⟨rfl, Hb1.out⟩

theorem groups_guard (n : Nat) (aa : Option Addr) (m cc : Nat) (bv : Value) (a b c : Int) (w : World) (hn : n ≤ 5000) (hg : Guard n m a b c) :
    Calls Try.prog 6 #[.int .i64 (n : Nat), .slice aa m cc, bv, .int .i64 a, .int .i64 b, .int .i64 c] w (Yes w) := by
  unfold Guard at hg
  by_cases h0 : (60 : Int) < (n : Int)
  · exact groups_g0 n aa m cc bv a b c w hn (by omega)
  · skip
    by_cases h1 : (40 : Int) < (m : Int)
    · exact groups_g1 n aa m cc bv a b c w hn (by omega) (by omega)
    · skip
      by_cases h2 : a < 0
      · exact groups_g2 n aa m cc bv a b c w hn (by omega) (by omega) (by omega)
      · skip
        by_cases h3 : (n : Int) ≤ a
        · exact groups_g3 n aa m cc bv a b c w hn (by omega) (by omega) (by omega) (by omega)
        · skip
          by_cases h4 : b < 0
          · exact groups_g4 n aa m cc bv a b c w hn (by omega) (by omega) (by omega) (by omega) (by omega)
          · skip
            by_cases h5 : (n : Int) ≤ b
            · exact groups_g5 n aa m cc bv a b c w hn (by omega) (by omega) (by omega) (by omega) (by omega) (by omega)
            · skip
              by_cases h6 : c < 0
              · exact groups_g6 n aa m cc bv a b c w hn (by omega) (by omega) (by omega) (by omega) (by omega) (by omega) (by omega)
              · skip
                exact groups_g7 n aa m cc bv a b c w hn (by omega) (by omega) (by omega) (by omega) (by omega) (by omega) (by omega) (by omega)

/-- what holds at a round's head -/
def At (w : World) (g n : Nat) (k : Nat) (v : Int) (wr : World) : Prop := ∃ (vs : List Ver) (kk : Nat), v = (kk : Nat) ∧ kk < vs.length ∧ FS w.heap.size wr g n vs ∧ vs.length ≤ k + 1 ∧ Below w.heap.size w wr

theorem find_at (B : Nat) (w : World) (g N : Nat) (vs : List Ver) (h : FS B w g N vs) (k x : Nat) (v : Int) (hv : v = (k : Nat)) (p : Option Addr) (ts : List (BT Int)) (hkv : vs[k]? = some (p, ts)) (hx : x < N) (hN : N ≤ 5000) (r : Nat) (hr : top (elems ts) x = r) :
    Calls Try.prog 18 #[.pointer (some ⟨g, 0, none⟩), .int .i64 v, .int .i64 (x : Nat)] w (RetFind w r) := by
  subst hv
  exact Find_in B w g N vs h k x p ts hkv hx hN r hr

set_option maxRecDepth 100000 in
set_option maxHeartbeats 16000000 in
theorem groups_in (n a b c : Nat) (a1 a2 : Option Addr) (c1 c2 : Nat) (l1 l2 : List Int) (m1 m2 : Nat) (w : World) (hn : n ≤ 60) (e1 : l1.length = m1) (e2 : l2.length = m2) (hm : m1 ≤ 40) (ha : a < n) (hb : b < n) (hc : c < n)
    (r1 : Reads w a1 l1) (r2 : Reads w a2 l2) :
    Calls Try.prog 6 #[.int .i64 (n : Nat), .slice a1 m1 c1, .slice a2 m2 c2, .int .i64 (a : Nat), .int .i64 (b : Nat), .int .i64 (c : Nat)] w (Yes w) := by
  have HO := Lib.hid (fun w => New_in w n (by omega))
  have HR := Lib.hid (And.intro r1 (And.intro r2 (And.intro e1 e2)))
  have g0 : (n : Int) ≤ 60 := by omega
  have g1 : (m1 : Int) ≤ 40 := by omega
  have g2 : (0 : Int) ≤ (a : Int) := by omega
  have g3 : (0 : Int) ≤ (b : Int) := by omega
  have g4 : (0 : Int) ≤ (c : Int) := by omega
  have g5 : (a : Int) < (n : Int) := by omega
  have g6 : (b : Int) < (n : Int) := by omega
  have g7 : (c : Int) < (n : Int) := by omega
  have s1 : decide (n ≤ a) = false := by simp; omega
  have s2 : decide (n ≤ b) = false := by simp; omega
  have s3 : decide (n ≤ c) = false := by simp; omega
  clear e1 e2 r1 r2
  go_enter Try.func6, Try.ntmps6
  go_wp2_with fail
  refine (grouped_any w).mono ?_
  rintro e w0 ⟨rfl, hb0⟩
  have Hb0 := Lib.hid hb0
  clear hb0
  go_wp2_with fail
  refine (HO.out w0).mono ?_
  rintro e w1 ⟨g, p1, rfl, hv1, hb1⟩
  have hI : At w g n 0 0 w1 := ⟨_, 0, rfl, by simp, ⟨Nat.le_trans Hb0.out.size hv1.hB, by
    obtain ⟨u, hu, ho⟩ := hv1.box
    exact ⟨u, hu, ownsRow_lower ho Hb0.out.size⟩, fun x hx => ⟨ral.Sp.lower Hb0.out.size (hv1.sp x hx).1, (hv1.sp x hx).2⟩, hv1.par⟩, by simp, belowTrans Hb0.out hb1⟩
  have HI := Lib.hid hI
  clear hI hv1 hb1
  go_wp2_with fail
  go_loopw [16, 17] (fun vv kv wr => ∃ (k : Nat) (v : Int), vv = .int .i64 v ∧ kv = .int .i64 k ∧ k ≤ m1 ∧ Hid (At w g n k v wr)) (fun _ kv _ => 41 - (intOf kv).toNat)
  case atStart => exact ⟨0, 0, rfl, rfl, Nat.zero_le _, HI⟩
  case round =>
    obtain ⟨k, v, rfl, rfl, hk, HV⟩ := hrel
    have hk0 : (0 : Int) ≤ (k : Int) := by omega
    by_cases hr : k < m1 ∧ k < m2
    · obtain ⟨h1, h2⟩ := hr
      obtain ⟨vs, kk, hv, hkk, hvs, hlen, hbr⟩ := HV.out
      obtain ⟨q1, o1, rfl, k1⟩ := reads_at HR.out.1 (by rw [HR.out.2.2.1]; exact h1)
      obtain ⟨q2, o2, rfl, k2⟩ := reads_at HR.out.2.1 (by rw [HR.out.2.2.2]; exact h2)
      obtain ⟨x1, hx1⟩ : ∃ x, x = l1.getD k 0 := ⟨_, rfl⟩
      obtain ⟨x2, hx2⟩ : ∃ x, x = l2.getD k 0 := ⟨_, rfl⟩
      rw [← hx1] at k1
      rw [← hx2] at k2
      have K1 := Lib.hid k1
      have K2 := Lib.hid k2
      replace k1 := upc hbr k1
      replace k2 := upc hbr k2
      have i1 : (k : Int) < (m1 : Int) := by omega
      have i2 : (k : Int) < (m2 : Int) := by omega
      have HX := Lib.hid (And.intro hv (And.intro hkk (And.intro hvs (And.intro hlen hbr))))
      clear hx1 hx2 hv hkk hvs hlen hbr HV
      by_cases hg : Good n vs v x1 x2
      · have HJ : Hid (∀ W, Below wr.heap.size wr W → Calls Try.prog 16 #[.pointer (some ⟨g, 0, none⟩), .int .i64 v, .int .i64 x1, .int .i64 x2] W (fun e w' => ∃ p us, e = .returned (.tuple #[.int .i64 (vs.length : Nat), .nilIface]) ∧ FS w.heap.size w' g n (vs ++ [(p, us)]) ∧ Below w.heap.size W w')) := Lib.hid (by
          intro W hW
          obtain ⟨k', x, y, p, ts, rfl, rfl, rfl, hkv, hx, hy⟩ := hg.get
          refine (Join_in w.heap.size W g n vs (HX.out.2.2.1.up hW) (szle hW HX.out.2.2.2.2.size) k' x y p ts hkv hx hy (by omega) (by have h := HX.out.2.2.2.1; omega)).mono ?_
          rintro e w' ⟨p', us, rfl, _, hf, hb, _⟩
          exact ⟨p', us, rfl, hf, hb⟩)
        clear hg
        go_wp2_with fail
        go_region_held3 (fun w' => w'.cell? ⟨q1, o1 + k, none⟩ = some (.int .i64 x1) ∧ w'.cell? ⟨q2, o2 + k, none⟩ = some (.int .i64 x2)) (first | exact ⟨d1, d2⟩ | go_keep)
          (first | (go_at_call 16; refine (HJ.out _ (belowDrew _)).mono ?_; rintro e w3 ⟨p3, us3, rfl, hv3, hb3⟩; have hb3' : Below w.heap.size w w3 := HX.out.2.2.2.2.trans (((belowDrew wr).mono HX.out.2.2.2.2.size).trans hb3); have d1 := upc hb3' K1.out; have d2 := upc hb3' K2.out; have Hv3 := Lib.hid hv3; have Hb3 := Lib.hid hb3'; clear hv3 hb3 hb3'))
        clear d1 d2 k1 k2
        have hI : At w g n (k + 1) (vs.length : Nat) w3 := ⟨_, vs.length, rfl, by simp, Hv3.out, by have h := HX.out.2.2.2.1; simp; omega, Hb3.out⟩
        have HI2 := Lib.hid hI
        clear hI
        go_wp2_with fail
        go_roundw
        case rel => exact ⟨k + 1, _, rfl, by go_num, h1, HI2⟩
        case measure => simp [intOf]; omega
      · have HJ := Lib.hid (fun W (hW : Below wr.heap.size wr W) => Join_bad w.heap.size W g n vs (HX.out.2.2.1.up hW) v x1 x2 hg)
        clear hg
        go_wp2_with fail
        go_region_held3 (fun w' => w'.cell? ⟨q1, o1 + k, none⟩ = some (.int .i64 x1) ∧ w'.cell? ⟨q2, o2 + k, none⟩ = some (.int .i64 x2)) (first | exact ⟨d1, d2⟩ | go_keep)
          (first | (go_at_call 16; refine (HJ.out _ (belowDrew _)).mono ?_; rintro e w3 ⟨ec, rfl, hb3⟩; replace hb3 := belowTrans (belowDrew wr) hb3; have d1 := upc hb3 k1; have d2 := upc hb3 k2; have Hb3 := Lib.hid hb3; clear hb3))
        clear d1 d2 k1 k2
        have hI : At w g n (k + 1) v w3 := ⟨vs, kk, HX.out.1, HX.out.2.1, HX.out.2.2.1.up Hb3.out, by have h := HX.out.2.2.2.1; omega, HX.out.2.2.2.2.trans (Hb3.out.mono HX.out.2.2.2.2.size)⟩
        have HI2 := Lib.hid hI
        clear hI
        go_wp2_with fail
        go_roundw
        case rel => exact ⟨k + 1, _, rfl, by go_num, h1, HI2⟩
        case measure => simp [intOf]; omega
    · obtain ⟨vs, kk, hv, hkk, hvs, hlen, hbr⟩ := HV.out
      obtain ⟨⟨p, ts⟩, hkv⟩ : ∃ y, vs[kk]? = some y := ⟨_, List.getElem?_eq_getElem hkk⟩
      have hpar := hvs.par _ (List.mem_of_getElem? hkv)
      obtain ⟨ta, hta⟩ : ∃ r, top (elems ts) a = r := ⟨_, rfl⟩
      obtain ⟨tb, htb⟩ : ∃ r, top (elems ts) b = r := ⟨_, rfl⟩
      obtain ⟨tc, htc⟩ : ∃ r, top (elems ts) c = r := ⟨_, rfl⟩
      have hta2 : top (elems ts) ta = ta := by rw [← hta]; exact top_top hpar ha
      have hle : ta ≤ a := by rw [← hta]; exact top_le hpar ha
      obtain ⟨ab, hab⟩ : ∃ x, decide (ta = tb) = x := ⟨_, rfl⟩
      obtain ⟨bc, hbc⟩ : ∃ x, decide (tb = tc) = x := ⟨_, rfl⟩
      obtain ⟨ac, hac⟩ : ∃ x, decide (ta = tc) = x := ⟨_, rfl⟩
      have hle' : (ta : Int) ≤ (a : Int) := by omega
      have HX := Lib.hid (And.intro hv (And.intro hkv (And.intro hvs hbr)))
      have HSame := Lib.hid (fun W (hW : Below wr.heap.size wr W) (x y : Nat) (hx : x < n) (hy : y < n) (cc : Bool) (hcc : decide (top (elems ts) x = top (elems ts) y) = cc) => same_at w.heap.size W g n vs (hvs.up hW) kk x y v (x : Nat) (y : Nat) hv rfl rfl p ts hkv hx hy (by omega) cc hcc)
      have HFind := Lib.hid (fun W (hW : Below wr.heap.size wr W) (x : Nat) (hx : x < n) (r : Nat) (hr : top (elems ts) x = r) => find_at w.heap.size W g n vs (hvs.up hW) kk x v hv p ts hkv hx (by omega) r hr)
      have HT := Lib.hid (And.intro hta (And.intro htb (And.intro htc (And.intro hta2 (And.intro hab (And.intro hbc hac))))))
      clear hv hkk hvs hlen hbr hkv hpar hta htb htc hta2 hab hbc hac HV
      have Hw := Lib.hid (Below.refl wr.heap.size wr)
      have tab : ta < n := by omega
      by_cases h1 : k < m1
      · have h2 : ¬ k < m2 := fun h => hr ⟨h1, h⟩
        clear hr
        go_wp2_with fail
        refine (HSame.out _ Hw.out a a ha ha true (by simp)).mono ?_
        rintro e v0 ⟨rfl, hq⟩
        replace Hw := Lib.hid (belowTrans Hw.out hq)
        clear hq
        go_wp2_with fail
        refine (HSame.out _ Hw.out a b ha hb ab (by rw [HT.out.1, HT.out.2.1]; exact HT.out.2.2.2.2.1)).mono ?_
        rintro e v1 ⟨rfl, hq⟩
        replace Hw := Lib.hid (belowTrans Hw.out hq)
        clear hq
        go_wp2_with fail
        refine (HSame.out _ Hw.out b a hb ha ab (by rw [HT.out.1, HT.out.2.1, ← HT.out.2.2.2.2.1]; exact decide_eq_decide.2 eq_comm)).mono ?_
        rintro e v2 ⟨rfl, hq⟩
        replace Hw := Lib.hid (belowTrans Hw.out hq)
        clear hq
        go_wp2_with fail
        refine (HSame.out _ Hw.out b c hb hc bc (by rw [HT.out.2.1, HT.out.2.2.1]; exact HT.out.2.2.2.2.2.1)).mono ?_
        rintro e v3 ⟨rfl, hq⟩
        replace Hw := Lib.hid (belowTrans Hw.out hq)
        clear hq
        go_wp2_with fail
        refine (HSame.out _ Hw.out a c ha hc ac (by rw [HT.out.1, HT.out.2.2.1]; exact HT.out.2.2.2.2.2.2)).mono ?_
        rintro e v4 ⟨rfl, hq⟩
        replace Hw := Lib.hid (belowTrans Hw.out hq)
        clear hq
        go_wp2_with fail
        refine (HFind.out _ Hw.out a ha ta (HT.out.1)).mono ?_
        rintro e v5 ⟨rfl, hq⟩
        replace Hw := Lib.hid (belowTrans Hw.out hq)
        clear hq
        go_wp2_with fail
        refine (HFind.out _ Hw.out b hb tb (HT.out.2.1)).mono ?_
        rintro e v6 ⟨rfl, hq⟩
        replace Hw := Lib.hid (belowTrans Hw.out hq)
        clear hq
        go_wp2_with fail
        refine (HSame.out _ Hw.out a ta ha tab true (by rw [HT.out.1, HT.out.2.2.2.1]; simp)).mono ?_
        rintro e v7 ⟨rfl, hq⟩
        replace Hw := Lib.hid (belowTrans Hw.out hq)
        clear hq
        have hxy : ((ta : Int) == (tb : Int)) = ab := by rw [← HT.out.2.2.2.2.1]; by_cases h : ta = tb <;> simp [h]; omega
        have himp : ab = true → bc = true → ac = true := by rw [← HT.out.2.2.2.2.1, ← HT.out.2.2.2.2.2.1, ← HT.out.2.2.2.2.2.2]; simp only [decide_eq_true_eq]; omega
        have HTT : Hid True := Lib.hid trivial
        have Himp := Lib.hid himp
        clear himp HT
        cases ab <;> cases bc <;> cases ac
        all_goals first
          | exact absurd (Himp.out rfl rfl) Bool.false_ne_true
          | (go_wp2_with fail; go_ret; exact ⟨rfl, HX.out.2.2.2.trans (Hw.out.mono HX.out.2.2.2.size)⟩)
      · clear hr
        go_wp2_with fail
        refine (HSame.out _ Hw.out a a ha ha true (by simp)).mono ?_
        rintro e v0 ⟨rfl, hq⟩
        replace Hw := Lib.hid (belowTrans Hw.out hq)
        clear hq
        go_wp2_with fail
        refine (HSame.out _ Hw.out a b ha hb ab (by rw [HT.out.1, HT.out.2.1]; exact HT.out.2.2.2.2.1)).mono ?_
        rintro e v1 ⟨rfl, hq⟩
        replace Hw := Lib.hid (belowTrans Hw.out hq)
        clear hq
        go_wp2_with fail
        refine (HSame.out _ Hw.out b a hb ha ab (by rw [HT.out.1, HT.out.2.1, ← HT.out.2.2.2.2.1]; exact decide_eq_decide.2 eq_comm)).mono ?_
        rintro e v2 ⟨rfl, hq⟩
        replace Hw := Lib.hid (belowTrans Hw.out hq)
        clear hq
        go_wp2_with fail
        refine (HSame.out _ Hw.out b c hb hc bc (by rw [HT.out.2.1, HT.out.2.2.1]; exact HT.out.2.2.2.2.2.1)).mono ?_
        rintro e v3 ⟨rfl, hq⟩
        replace Hw := Lib.hid (belowTrans Hw.out hq)
        clear hq
        go_wp2_with fail
        refine (HSame.out _ Hw.out a c ha hc ac (by rw [HT.out.1, HT.out.2.2.1]; exact HT.out.2.2.2.2.2.2)).mono ?_
        rintro e v4 ⟨rfl, hq⟩
        replace Hw := Lib.hid (belowTrans Hw.out hq)
        clear hq
        go_wp2_with fail
        refine (HFind.out _ Hw.out a ha ta (HT.out.1)).mono ?_
        rintro e v5 ⟨rfl, hq⟩
        replace Hw := Lib.hid (belowTrans Hw.out hq)
        clear hq
        go_wp2_with fail
        refine (HFind.out _ Hw.out b hb tb (HT.out.2.1)).mono ?_
        rintro e v6 ⟨rfl, hq⟩
        replace Hw := Lib.hid (belowTrans Hw.out hq)
        clear hq
        go_wp2_with fail
        refine (HSame.out _ Hw.out a ta ha tab true (by rw [HT.out.1, HT.out.2.2.2.1]; simp)).mono ?_
        rintro e v7 ⟨rfl, hq⟩
        replace Hw := Lib.hid (belowTrans Hw.out hq)
        clear hq
        have hxy : ((ta : Int) == (tb : Int)) = ab := by rw [← HT.out.2.2.2.2.1]; by_cases h : ta = tb <;> simp [h]; omega
        have himp : ab = true → bc = true → ac = true := by rw [← HT.out.2.2.2.2.1, ← HT.out.2.2.2.2.2.1, ← HT.out.2.2.2.2.2.2]; simp only [decide_eq_true_eq]; omega
        have HTT : Hid True := Lib.hid trivial
        have Himp := Lib.hid himp
        clear himp HT
        cases ab <;> cases bc <;> cases ac
        all_goals first
          | exact absurd (Himp.out rfl rfl) Bool.false_ne_true
          | (go_wp2_with fail; go_ret; exact ⟨rfl, HX.out.2.2.2.trans (Hw.out.mono HX.out.2.2.2.size)⟩)

theorem groups_any (n : Int) (a1 : Option Addr) (c1 : Nat) (l1 : List Int) (a2 : Option Addr) (c2 : Nat) (l2 : List Int) (a b c : Int) (w : World) (_ : l1.length * 8 ≤ 140737488351232) (r1 : Reads w a1 l1) (_ : a1 = none → c1 = 0)
    (_ : l2.length * 8 ≤ 140737488351232) (r2 : Reads w a2 l2) (_ : a2 = none → c2 = 0) :
    Calls Try.prog 6 #[.int .i64 n, .slice a1 l1.length c1, .slice a2 l2.length c2, .int .i64 a, .int .i64 b, .int .i64 c] w (Yes w) := by
  by_cases h : n < 0 ∨ 5000 < n
  · exact groups_out n a b c _ _ w h
  · obtain ⟨k, rfl⟩ : ∃ k : Nat, n = (k : Nat) := ⟨n.toNat, by omega⟩
    by_cases h1 : Guard k l1.length a b c
    · exact groups_guard k _ _ _ _ a b c w (by omega) h1
    · unfold Guard at h1
      obtain ⟨x, rfl⟩ : ∃ x : Nat, a = (x : Nat) := ⟨a.toNat, by omega⟩
      obtain ⟨y, rfl⟩ : ∃ x : Nat, b = (x : Nat) := ⟨b.toNat, by omega⟩
      obtain ⟨z, rfl⟩ : ∃ x : Nat, c = (x : Nat) := ⟨c.toNat, by omega⟩
      exact groups_in k x y z a1 a2 c1 c2 l1 l2 _ _ w (by omega) rfl rfl (by omega) (by omega) (by omega) (by omega) r1 r2
end Go.Proofs.Ythlcjhkelcfnoaa.find
