/- The law that no version of groups changes. Whatever is joined: true; what was there stays. -/
import Derived.Test.YthlcjhkelcfnoaaFind4
namespace Go.Proofs.Ythlcjhkelcfnoaa.find
open Go.RowKit
open ral (Sp WF total elems build setS)
open vers (Ver)

set_option maxRecDepth 100000 in
set_option maxHeartbeats 4000000 in
theorem stays_out (n v a b : Int) (av as_ ax : Value) (w : World) (hn : n < 0 ∨ 5000 < n) :
    Calls Try.prog 5 #[.int .i64 n, .int .i64 v, .int .i64 a, .int .i64 b, av, as_, ax] w (Yes w) := by
  have HO := Lib.hid (fun w => New_out w n hn)
  clear hn
  go_enter Try.func5, Try.ntmps5
  go_wp2_with fail
  refine (grouped_any w).mono ?_
  rintro e w0 ⟨rfl, hb0⟩
  have Hb0 := Lib.hid hb0
  clear hb0
  go_wp2_with fail
  refine (HO.out w0).mono ?_
  rintro e w1 ⟨rfl, rfl⟩
  go_wp2_with fail
  go_ret
  exact ⟨rfl, Hb0.out⟩

set_option maxRecDepth 100000 in
set_option maxHeartbeats 4000000 in
theorem stays_great (n : Nat) (v a b : Int) (aa : Option Addr) (m c : Nat) (as_ ax : Value) (w : World) (hn : n ≤ 5000) (h : 60 < n ∨ 40 < m) :
    Calls Try.prog 5 #[.int .i64 (n : Nat), .int .i64 v, .int .i64 a, .int .i64 b, .slice aa m c, as_, ax] w (Yes w) := by
  have HO := Lib.hid (fun w => New_in w n hn)
  by_cases h1 : 60 < n
  · have g1 : (60 : Int) < (n : Int) := by omega
    clear hn h
    go_enter Try.func5, Try.ntmps5
    go_wp2_with fail
    refine (grouped_any w).mono ?_
    rintro e w0 ⟨rfl, hb0⟩
    have Hb0 := Lib.hid hb0
    clear hb0
    go_wp2_with fail
    refine (HO.out w0).mono ?_
    rintro e w1 ⟨b1, p1, rfl, hv1, hb1⟩
    have Hb1 := Lib.hid (belowTrans Hb0.out hb1)
    clear hv1 hb1
    go_wp2_with fail
    go_ret
    exact ⟨rfl, Hb1.out⟩
  · have g1 : (n : Int) ≤ 60 := by omega
    have g2 : (40 : Int) < (m : Int) := by omega
    clear hn h
    go_enter Try.func5, Try.ntmps5
    go_wp2_with fail
    refine (grouped_any w).mono ?_
    rintro e w0 ⟨rfl, hb0⟩
    have Hb0 := Lib.hid hb0
    clear hb0
    go_wp2_with fail
    refine (HO.out w0).mono ?_
    rintro e w1 ⟨b1, p1, rfl, hv1, hb1⟩
    have Hb1 := Lib.hid (belowTrans Hb0.out hb1)
    clear hv1 hb1
    go_wp2_with fail
    go_ret
    exact ⟨rfl, Hb1.out⟩

/-- what holds at a round's head -/
def Inv (w : World) (g n : Nat) (v a b : Int) (k : Nat) (sb hb : Bool) (wr : World) : Prop :=
  ∃ vs, FS w.heap.size wr g n vs ∧ vs.length ≤ k + 1 ∧ Below w.heap.size w wr ∧
    (sb = true → ∃ (kk x y : Nat) (p : Option Addr) (ts : List (BT Int)), v = (kk : Nat) ∧ a = (x : Nat) ∧ b = (y : Nat) ∧ vs[kk]? = some (p, ts) ∧ x < n ∧ y < n ∧ decide (top (elems ts) x = top (elems ts) y) = hb)
theorem same_at (B : Nat) (w : World) (g N : Nat) (vs : List Ver) (h : FS B w g N vs) (k x y : Nat) (v a b : Int) (hv : v = (k : Nat)) (ha : a = (x : Nat)) (hb : b = (y : Nat)) (p : Option Addr) (ts : List (BT Int)) (hkv : vs[k]? = some (p, ts)) (hx : x < N) (hy : y < N) (hN : N ≤ 5000) (c : Bool) (hc : decide (top (elems ts) x = top (elems ts) y) = c) :
    Calls Try.prog 17 #[.pointer (some ⟨g, 0, none⟩), .int .i64 v, .int .i64 a, .int .i64 b] w (RetSame w c) := by
  subst hv ha hb
  exact Same_in B w g N vs h k x y p ts hkv hx hy hN c hc

theorem reads_at {w : World} {a : Option Addr} {xs : List Int} (h : Reads w a xs) {k : Nat} (hk : k < xs.length) : ∃ b o, a = some ⟨b, o, none⟩ ∧ w.cell? ⟨b, o + k, none⟩ = some (.int .i64 (xs.getD k 0)) := by
  rcases h with h | ⟨b, o, ha, hc⟩
  · rw [h] at hk; simp at hk
  · exact ⟨b, o, ha, hc k hk⟩

set_option maxRecDepth 100000 in
set_option maxHeartbeats 8000000 in
theorem stays_in (n : Nat) (v a b : Int) (a2 a3 a4 : Option Addr) (c2 c3 c4 : Nat) (l2 l3 l4 : List Int) (m2 m3 m4 : Nat) (w : World) (hn : n ≤ 60) (e2 : l2.length = m2) (e3 : l3.length = m3) (e4 : l4.length = m4) (hm : m2 ≤ 40)
    (r2 : Reads w a2 l2) (r3 : Reads w a3 l3) (r4 : Reads w a4 l4) :
    Calls Try.prog 5 #[.int .i64 (n : Nat), .int .i64 v, .int .i64 a, .int .i64 b, .slice a2 m2 c2, .slice a3 m3 c3, .slice a4 m4 c4] w (Yes w) := by
  have HO := Lib.hid (fun w => New_in w n (by omega))
  have HR := Lib.hid (And.intro r2 (And.intro r3 (And.intro r4 (And.intro e2 (And.intro e3 e4)))))
  have g0 : (n : Int) ≤ 60 := by omega
  have g1 : (m2 : Int) ≤ 40 := by omega
  clear e2 e3 e4 r2 r3 r4
  go_enter Try.func5, Try.ntmps5
  go_wp2_with fail
  refine (grouped_any w).mono ?_
  rintro e w0 ⟨rfl, hb0⟩
  have Hb0 := Lib.hid hb0
  clear hb0
  go_wp2_with fail
  refine (HO.out w0).mono ?_
  rintro e w1 ⟨g, p1, rfl, hv1, hb1⟩
  have hI : Inv w g n v a b 0 false false w1 := ⟨_, ⟨Nat.le_trans Hb0.out.size hv1.hB, by
    obtain ⟨u, hu, ho⟩ := hv1.box
    exact ⟨u, hu, ownsRow_lower ho Hb0.out.size⟩, fun x hx => ⟨ral.Sp.lower Hb0.out.size (hv1.sp x hx).1, (hv1.sp x hx).2⟩, hv1.par⟩, by simp, belowTrans Hb0.out hb1, fun h => by cases h⟩
  have HI := Lib.hid hI
  clear hI hv1 hb1
  go_wp2_with fail
  go_loopw [18, 19, 20] (fun hd sn kv wr => ∃ (k : Nat) (sb hb : Bool), kv = .int .i64 k ∧ sn = .bool sb ∧ hd = .bool hb ∧ k ≤ m2 ∧ Hid (Inv w g n v a b k sb hb wr)) (fun _ _ kv _ => 41 - (intOf kv).toNat)
  case atStart => exact ⟨0, false, false, rfl, rfl, rfl, Nat.zero_le _, HI⟩
  case round =>
    obtain ⟨k, sb, hb, rfl, rfl, rfl, hk, HV⟩ := hrel
    have hk0 : (0 : Int) ≤ (k : Int) := by omega
    by_cases h2 : k < m2
    · by_cases h3 : k < m3
      · by_cases h4 : k < m4
        · obtain ⟨vs, hvs, hlen, hbr, hsb⟩ := HV.out
          obtain ⟨q2, o2, rfl, k2⟩ := reads_at HR.out.1 (by rw [HR.out.2.2.2.1]; exact h2)
          obtain ⟨q3, o3, rfl, k3⟩ := reads_at HR.out.2.1 (by rw [HR.out.2.2.2.2.1]; exact h3)
          obtain ⟨q4, o4, rfl, k4⟩ := reads_at HR.out.2.2.1 (by rw [HR.out.2.2.2.2.2]; exact h4)
          obtain ⟨x2, hx2⟩ : ∃ x, x = l2.getD k 0 := ⟨_, rfl⟩
          obtain ⟨x3, hx3⟩ : ∃ x, x = l3.getD k 0 := ⟨_, rfl⟩
          obtain ⟨x4, hx4⟩ : ∃ x, x = l4.getD k 0 := ⟨_, rfl⟩
          rw [← hx2] at k2
          rw [← hx3] at k3
          rw [← hx4] at k4
          have K2 := Lib.hid k2
          have K3 := Lib.hid k3
          have K4 := Lib.hid k4
          replace k2 := upc hbr k2
          replace k3 := upc hbr k3
          replace k4 := upc hbr k4
          have i2 : (k : Int) < (m2 : Int) := by omega
          have i3 : (k : Int) < (m3 : Int) := by omega
          have i4 : (k : Int) < (m4 : Int) := by omega
          have HS := Lib.hid (fun W (hW : Below wr.heap.size wr W) => Join_any w.heap.size W g n vs (hvs.up hW) (szle hW hbr.size) x2 x3 x4 (by omega) (by omega))
          have HX := Lib.hid (And.intro hlen (And.intro hbr hsb))
          clear hx2 hx3 hx4 hvs hlen hbr hsb HV
          go_wp2_with fail
          go_region_held3 (fun w' => w'.cell? ⟨q2, o2 + k, none⟩ = some (.int .i64 x2) ∧ w'.cell? ⟨q3, o3 + k, none⟩ = some (.int .i64 x3) ∧ w'.cell? ⟨q4, o4 + k, none⟩ = some (.int .i64 x4)) (first | exact ⟨d2, d3, d4⟩ | go_keep)
            (first | (go_at_call 16; refine (HS.out _ (belowDrew _)).mono ?_; rintro e w3 ⟨v', err, us, rfl, hus, hv3, hb3, hk3⟩; have hb3' : Below w.heap.size w w3 := HX.out.2.1.trans (((belowDrew wr).mono HX.out.2.1.size).trans hb3); have d2 := upc hb3' K2.out; have d3 := upc hb3' K3.out; have d4 := upc hb3' K4.out; have Hv3 := Lib.hid hv3; have Hb3 := Lib.hid hb3'; have Hk3 := Lib.hid hk3; clear hv3 hb3 hb3' hk3))
          clear d2 d3 d4 k2 k3 k4
          have hlen3 : (vs ++ us).length ≤ k + 1 + 1 := by have h := HX.out.1; rw [List.length_append]; omega
          cases sb
          · by_cases hg : Good n (vs ++ us) v a b
            · obtain ⟨kk, x, y, p, ts, e1, e2, e3, hkv, hx, hy⟩ := hg.get
              obtain ⟨c, hc⟩ : ∃ c, decide (top (elems ts) x = top (elems ts) y) = c := ⟨_, rfl⟩
              have HL := Lib.hid (same_at w.heap.size w3 g n (vs ++ us) Hv3.out kk x y v a b e1 e2 e3 p ts hkv hx hy (by omega) c hc)
              have HK := Lib.hid (And.intro e1 (And.intro e2 (And.intro e3 (And.intro hkv (And.intro hx (And.intro hy hc))))))
              clear hg e1 e2 e3 hkv hx hy hc
              go_wp2_with fail
              refine HL.out.mono ?_
              rintro e w4 ⟨rfl, hb4⟩
              have hI : Inv w g n v a b (k + 1) true c w4 := ⟨_, Hv3.out.up hb4, hlen3, Hb3.out.trans (hb4.mono Hb3.out.size), fun _ => ⟨kk, x, y, p, ts, HK.out⟩⟩
              have HI2 := Lib.hid hI
              clear hI hb4
              go_wp2_with fail
              go_roundw
              case rel => exact ⟨k + 1, true, c, by go_num, rfl, rfl, h2, HI2⟩
              case measure => simp [intOf]; omega
            · have HL := Lib.hid (Same_bad w.heap.size w3 g n (vs ++ us) Hv3.out v a b hg)
              clear hg
              go_wp2_with fail
              refine HL.out.mono ?_
              rintro e w4 ⟨c, rfl, hb4⟩
              have hI : Inv w g n v a b (k + 1) false hb w4 := ⟨_, Hv3.out.up hb4, hlen3, Hb3.out.trans (hb4.mono Hb3.out.size), fun h => by cases h⟩
              have HI2 := Lib.hid hI
              clear hI hb4
              go_wp2_with fail
              go_roundw
              case rel => exact ⟨k + 1, false, hb, by go_num, rfl, rfl, h2, HI2⟩
              case measure => simp [intOf]; omega
          · obtain ⟨kk, x, y, p, ts, e1, e2, e3, hkv, hx, hy, hc⟩ := HX.out.2.2 rfl
            have hkv3 : (vs ++ us)[kk]? = some (p, ts) := by rw [List.getElem?_append_left (List.getElem?_eq_some_iff.1 hkv).1]; exact hkv
            have HL := Lib.hid (same_at w.heap.size w3 g n (vs ++ us) Hv3.out kk x y v a b e1 e2 e3 p ts hkv3 hx hy (by omega) hb hc)
            have HK := Lib.hid (And.intro e1 (And.intro e2 (And.intro e3 (And.intro hkv3 (And.intro hx (And.intro hy hc))))))
            clear e1 e2 e3 hkv hkv3 hx hy hc
            go_wp2_with fail
            refine HL.out.mono ?_
            rintro e w4 ⟨rfl, hb4⟩
            have hI : Inv w g n v a b (k + 1) true hb w4 := ⟨_, Hv3.out.up hb4, hlen3, Hb3.out.trans (hb4.mono Hb3.out.size), fun _ => ⟨kk, x, y, p, ts, HK.out⟩⟩
            have HI2 := Lib.hid hI
            clear hI hb4
            have hnn : (hb != hb) = false := by simp
            go_wp2_with fail
            go_roundw
            case rel => exact ⟨k + 1, true, hb, by go_num, rfl, rfl, h2, HI2⟩
            case measure => simp [intOf]; omega
        · have hbr := HV.out
          have Hbr : Hid (Below w.heap.size w wr) := by obtain ⟨_, _, _, h, _⟩ := hbr; exact h
          clear hbr
          go_wp2_with fail
          go_ret
          exact ⟨rfl, Hbr.out⟩
      · have hbr := HV.out
        have Hbr : Hid (Below w.heap.size w wr) := by obtain ⟨_, _, _, h, _⟩ := hbr; exact h
        clear hbr
        go_wp2_with fail
        go_ret
        exact ⟨rfl, Hbr.out⟩
    · have hbr := HV.out
      have Hbr : Hid (Below w.heap.size w wr) := by obtain ⟨_, _, _, h, _⟩ := hbr; exact h
      clear hbr
      go_wp2_with fail
      go_ret
      exact ⟨rfl, Hbr.out⟩

theorem stays_any (n v a b : Int) (a2 : Option Addr) (c2 : Nat) (l2 : List Int) (a3 : Option Addr) (c3 : Nat) (l3 : List Int) (a4 : Option Addr) (c4 : Nat) (l4 : List Int) (w : World) (_ : l2.length * 8 ≤ 140737488351232) (r2 : Reads w a2 l2) (_ : a2 = none → c2 = 0)
    (_ : l3.length * 8 ≤ 140737488351232) (r3 : Reads w a3 l3) (_ : a3 = none → c3 = 0) (_ : l4.length * 8 ≤ 140737488351232) (r4 : Reads w a4 l4) (_ : a4 = none → c4 = 0) :
    Calls Try.prog 5 #[.int .i64 n, .int .i64 v, .int .i64 a, .int .i64 b, .slice a2 l2.length c2, .slice a3 l3.length c3, .slice a4 l4.length c4] w (Yes w) := by
  by_cases h : n < 0 ∨ 5000 < n
  · exact stays_out n v a b _ _ _ w h
  · obtain ⟨k, rfl⟩ : ∃ k : Nat, n = (k : Nat) := ⟨n.toNat, by omega⟩
    by_cases h1 : 60 < k ∨ 40 < l2.length
    · exact stays_great k v a b _ _ _ _ _ w (by omega) h1
    · exact stays_in k v a b a2 a3 a4 c2 c3 c4 l2 l3 l4 _ _ _ w (by omega) rfl rfl rfl (by omega) r2 r3 r4
end Go.Proofs.Ythlcjhkelcfnoaa.find
