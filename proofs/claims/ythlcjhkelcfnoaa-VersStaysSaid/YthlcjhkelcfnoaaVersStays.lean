/- The law that no version changes. Whatever versions are made of whichever: true; what was there stays. -/
import Derived.Test.YthlcjhkelcfnoaaVers3
import Derived.Test.YthlcjhkelcfnoaaSame
namespace Go.Proofs.Ythlcjhkelcfnoaa.vers
open Go.RowKit
open ral (Sp WF total elems build setS)

theorem stays_List (B : Nat) (w : World) (b N : Nat) (vs : List Ver) (h : VS 53 B w b N vs) (k : Nat) (v : Int) (hv : v = (k : Nat)) (p : Option Addr) (ts : List (BT Int)) (hk : vs[k]? = some (p, ts)) (n : Nat) (hn : (elems ts).length = n) (hN : N ≤ 17592186044416) :
    Calls Try.prog 10 #[.pointer (some ⟨b, 0, none⟩), .int .i64 v] w fun e w' => ∃ a c, e = .returned (.tuple #[.slice a n c, .nilIface]) ∧ OwnI 3 w' w.heap.size (.slice a n c) (elems ts) ∧ Below w.heap.size w w' := by
  subst hv
  subst hn
  exact List_in B w b N vs h k p ts hk hN

set_option maxRecDepth 100000 in
set_option maxHeartbeats 4000000 in
theorem stays_out (n v : Int) (av as_ ax : Value) (w : World) (hn : n < 0 ∨ 5000 < n) :
    Calls Try.prog 4 #[.int .i64 n, .int .i64 v, av, as_, ax] w (Yes w) := by
  have HO := Lib.hid (fun w => New_out w n hn)
  clear hn
  go_enter Try.func4, Try.ntmps4
  go_wp2_with fail
  refine (versed_any w).mono ?_
  rintro e w0 ⟨rfl, hb0⟩
  have Hb0 := Lib.hid hb0
  clear hb0
  go_wp2_with fail
  refine (HO.out w0).mono ?_
  rintro e w1 ⟨rfl, rfl⟩
  go_wp2_with fail
  go_ret
  exact ⟨rfl, Hb0.out⟩

set_option maxRecDepth 100000 in
set_option maxHeartbeats 4000000 in
theorem stays_great (n : Nat) (v : Int) (aa : Option Addr) (m c : Nat) (as_ ax : Value) (w : World) (hn : n ≤ 5000) (h : 100 < n ∨ 40 < m) :
    Calls Try.prog 4 #[.int .i64 (n : Nat), .int .i64 v, .slice aa m c, as_, ax] w (Yes w) := by
  have HO := Lib.hid (fun w => New_in w n hn)
  by_cases h1 : 100 < n
  · have g1 : (100 : Int) < (n : Int) := by omega
    clear hn h
    go_enter Try.func4, Try.ntmps4
    go_wp2_with fail
    refine (versed_any w).mono ?_
    rintro e w0 ⟨rfl, hb0⟩
    have Hb0 := Lib.hid hb0
    clear hb0
    go_wp2_with fail
    refine (HO.out w0).mono ?_
    rintro e w1 ⟨b1, p1, rfl, hv1, hb1⟩
    have Hb1 := Lib.hid (belowTrans Hb0.out hb1)
    clear hv1 hb1
    go_wp2_with fail
    go_ret
    exact ⟨rfl, Hb1.out⟩
  · have g1 : (n : Int) ≤ 100 := by omega
    have g2 : (40 : Int) < (m : Int) := by omega
    clear hn h
    go_enter Try.func4, Try.ntmps4
    go_wp2_with fail
    refine (versed_any w).mono ?_
    rintro e w0 ⟨rfl, hb0⟩
    have Hb0 := Lib.hid hb0
    clear hb0
    go_wp2_with fail
    refine (HO.out w0).mono ?_
    rintro e w1 ⟨b1, p1, rfl, hv1, hb1⟩
    have Hb1 := Lib.hid (belowTrans Hb0.out hb1)
    clear hv1 hb1
    go_wp2_with fail
    go_ret
    exact ⟨rfl, Hb1.out⟩

/-- what holds at a round's head -/
def Inv (w : World) (b n : Nat) (v : Int) (k : Nat) (sb : Bool) (hd : Value) (wr : World) : Prop :=
  ∃ vs, VS 53 w.heap.size wr b n vs ∧ vs.length ≤ k + 1 ∧ Below w.heap.size w wr ∧
    (sb = true → ∃ kk p ts a c, v = (kk : Nat) ∧ vs[kk]? = some (p, ts) ∧ hd = .slice a n c ∧ (elems ts).length = n ∧ OwnI 3 wr w.heap.size hd (elems ts))

theorem reads_at {w : World} {a : Option Addr} {xs : List Int} (h : Reads w a xs) {k : Nat} (hk : k < xs.length) : ∃ b o, a = some ⟨b, o, none⟩ ∧ w.cell? ⟨b, o + k, none⟩ = some (.int .i64 (xs.getD k 0)) := by
  rcases h with h | ⟨b, o, ha, hc⟩
  · rw [h] at hk; simp at hk
  · exact ⟨b, o, ha, hc k hk⟩

set_option maxRecDepth 100000 in
set_option maxHeartbeats 8000000 in
theorem stays_in (n : Nat) (v : Int) (a2 a3 a4 : Option Addr) (c2 c3 c4 : Nat) (l2 l3 l4 : List Int) (m2 m3 m4 : Nat) (w : World) (hn : n ≤ 100) (e2 : l2.length = m2) (e3 : l3.length = m3) (e4 : l4.length = m4) (hm : m2 ≤ 40)
    (r2 : Reads w a2 l2) (r3 : Reads w a3 l3) (r4 : Reads w a4 l4) :
    Calls Try.prog 4 #[.int .i64 (n : Nat), .int .i64 v, .slice a2 m2 c2, .slice a3 m3 c3, .slice a4 m4 c4] w (Yes w) := by
  have HO := Lib.hid (fun w => New_in w n (by omega))
  have HR := Lib.hid (And.intro r2 (And.intro r3 (And.intro r4 (And.intro e2 (And.intro e3 e4)))))
  have g0 : (n : Int) ≤ 100 := by omega
  have g1 : (m2 : Int) ≤ 40 := by omega
  clear e2 e3 e4 r2 r3 r4
  go_enter Try.func4, Try.ntmps4
  go_wp2_with fail
  refine (versed_any w).mono ?_
  rintro e w0 ⟨rfl, hb0⟩
  have Hb0 := Lib.hid hb0
  clear hb0
  go_wp2_with fail
  refine (HO.out w0).mono ?_
  rintro e w1 ⟨b, p1, rfl, hv1, hb1⟩
  have hI : Inv w b n v 0 false (.slice none 0 0) w1 := ⟨_, ⟨Nat.le_trans Hb0.out.size hv1.hB, by
    obtain ⟨u, hu, ho⟩ := hv1.box
    exact ⟨u, hu, ownsRow_lower ho Hb0.out.size⟩, fun x hx => ⟨ral.Sp.lower Hb0.out.size (hv1.sp x hx).1, (hv1.sp x hx).2⟩⟩, by simp, belowTrans Hb0.out hb1, fun h => by cases h⟩
  have HI := Lib.hid hI
  clear hI hv1 hb1
  go_wp2_with fail
  go_loopw [14, 15, 16] (fun hd sn kv wr => ∃ (k : Nat) (sb : Bool), kv = .int .i64 k ∧ sn = .bool sb ∧ k ≤ m2 ∧ Hid (Inv w b n v k sb hd wr)) (fun _ _ kv _ => 41 - (intOf kv).toNat)
  case atStart => exact ⟨0, false, rfl, rfl, Nat.zero_le _, HI⟩
  case round =>
    obtain ⟨k, sb, rfl, rfl, hk, HV⟩ := hrel
    have hk0 : (0 : Int) ≤ (k : Int) := by omega
    by_cases h2 : k < m2
    · by_cases h3 : k < m3
      · by_cases h4 : k < m4
        · obtain ⟨vs, hvs, hlen, hbr, hsb⟩ := HV.out
          obtain ⟨q2, o2, rfl, k2⟩ := reads_at HR.out.1 (by rw [HR.out.2.2.2.1]; exact h2)
          obtain ⟨q3, o3, rfl, k3⟩ := reads_at HR.out.2.1 (by rw [HR.out.2.2.2.2.1]; exact h3)
          obtain ⟨q4, o4, rfl, k4⟩ := reads_at HR.out.2.2.1 (by rw [HR.out.2.2.2.2.2]; exact h4)
          obtain ⟨x2, hx2⟩ : ∃ x, x = l2.getD k 0 := ⟨_, rfl⟩
          obtain ⟨x3, hx3⟩ : ∃ x, x = l3.getD k 0 := ⟨_, rfl⟩
          obtain ⟨x4, hx4⟩ : ∃ x, x = l4.getD k 0 := ⟨_, rfl⟩
          rw [← hx2] at k2
          rw [← hx3] at k3
          rw [← hx4] at k4
          have K2 := Lib.hid k2
          have K3 := Lib.hid k3
          have K4 := Lib.hid k4
          replace k2 := upc hbr k2
          replace k3 := upc hbr k3
          replace k4 := upc hbr k4
          have i2 : (k : Int) < (m2 : Int) := by omega
          have i3 : (k : Int) < (m3 : Int) := by omega
          have i4 : (k : Int) < (m4 : Int) := by omega
          have HS := Lib.hid (fun W (hW : Below wr.heap.size wr W) => Set_any w.heap.size W b n vs (hvs.up hW) (szle hW hbr.size) x2 x3 x4 (by omega) (by omega))
          have HX := Lib.hid (And.intro hlen (And.intro hbr hsb))
          clear hx2 hx3 hx4 hvs hlen hbr hsb HV
          go_wp2_with fail
          go_region_held3 (fun w' => w'.cell? ⟨q2, o2 + k, none⟩ = some (.int .i64 x2) ∧ w'.cell? ⟨q3, o3 + k, none⟩ = some (.int .i64 x3) ∧ w'.cell? ⟨q4, o4 + k, none⟩ = some (.int .i64 x4)) (first | exact ⟨d2, d3, d4⟩ | go_keep)
            (first | (go_at_call 9; refine (HS.out _ (belowDrew _)).mono ?_; rintro e w3 ⟨v', err, us, rfl, hus, hv3, hb3, hk3⟩; have hb3' : Below w.heap.size w w3 := HX.out.2.1.trans (((belowDrew wr).mono HX.out.2.1.size).trans hb3); have d2 := upc hb3' K2.out; have d3 := upc hb3' K3.out; have d4 := upc hb3' K4.out; have Hv3 := Lib.hid hv3; have Hb3 := Lib.hid hb3'; have Hk3 := Lib.hid hk3; clear hv3 hb3 hb3' hk3))
          clear d2 d3 d4 k2 k3 k4
          have hlen3 : (vs ++ us).length ≤ k + 1 + 1 := by have h := HX.out.1; rw [List.length_append]; omega
          cases sb
          · by_cases hv : v < 0 ∨ (((vs ++ us).length : Nat) : Int) ≤ v
            · have HL := Lib.hid (List_out w.heap.size w3 b n (vs ++ us) Hv3.out v hv)
              clear hv
              go_wp2_with fail
              refine HL.out.mono ?_
              rintro e w4 ⟨rfl, hb4⟩
              have hI : Inv w b n v (k + 1) false (.slice none 0 0) w4 := ⟨_, Hv3.out.up hb4, hlen3, Hb3.out.trans (hb4.mono Hb3.out.size), fun h => by cases h⟩
              have HI2 := Lib.hid hI
              clear hI hb4
              go_wp2_with fail
              go_roundw
              case rel => exact ⟨k + 1, false, by go_num, rfl, h2, HI2⟩
              case measure => simp [intOf]; omega
            · obtain ⟨kk, hkk⟩ : ∃ kk : Nat, v = (kk : Nat) := ⟨v.toNat, by omega⟩
              obtain ⟨⟨p, ts⟩, hkv⟩ : ∃ y, (vs ++ us)[kk]? = some y := ⟨_, List.getElem?_eq_getElem (by omega)⟩
              have hne : (elems ts).length = n := by rw [ral.length_elems]; exact (Hv3.out.sp _ (List.mem_of_getElem? hkv)).2.2
              have HL := Lib.hid (stays_List w.heap.size w3 b n (vs ++ us) Hv3.out kk v hkk p ts hkv n hne (by omega))
              have HK := Lib.hid (And.intro hkk (And.intro hkv hne))
              clear hv hkk hkv hne
              go_wp2_with fail
              refine HL.out.mono ?_
              rintro e w4 ⟨a5, c5, rfl, ho4, hb4⟩
              have hI : Inv w b n v (k + 1) true (.slice a5 n c5) w4 := ⟨_, Hv3.out.up hb4, hlen3, Hb3.out.trans (hb4.mono Hb3.out.size), fun _ => ⟨kk, p, ts, a5, c5, HK.out.1, HK.out.2.1, rfl, HK.out.2.2, ownsRow_lower ho4 Hb3.out.size⟩⟩
              have HI2 := Lib.hid hI
              clear hI hb4 ho4
              go_wp2_with fail
              go_roundw
              case rel => exact ⟨k + 1, true, by go_num, rfl, h2, HI2⟩
              case measure => simp [intOf]; omega
          · obtain ⟨kk, p, ts, a5, c5, hkk, hkv, rfl, hne, ho⟩ := HX.out.2.2 rfl
            have hkv3 : (vs ++ us)[kk]? = some (p, ts) := by rw [List.getElem?_append_left (List.getElem?_eq_some_iff.1 hkv).1]; exact hkv
            have HL := Lib.hid (stays_List w.heap.size w3 b n (vs ++ us) Hv3.out kk v hkk p ts hkv3 n hne (by omega))
            have ho3 := OwnI.keep (ho.up (belowDrew _)) Hk3.out (by decide)
            have Ho3 := Lib.hid ho3
            have HK := Lib.hid (And.intro hkk (And.intro hkv3 hne))
            clear hkk hkv hkv3 hne ho ho3
            go_wp2_with fail
            refine HL.out.mono ?_
            rintro e w4 ⟨a6, c6, rfl, ho4, hb4⟩
            have ho5 := Ho3.out.up hb4
            have r5 := ho5.reads
            have HM := Lib.hid (sameInts_self a6 a5 c6 c5 n (elems ts) w4 HK.out.2.2 (by have h := ho4; rw [← HK.out.2.2] at h; exact h.reads) (by have h := ho5; rw [← HK.out.2.2] at h; exact h.reads) (by unfold maxLen; omega))
            have hI : Inv w b n v (k + 1) true (.slice a5 n c5) (w4) := ⟨_, Hv3.out.up hb4, hlen3, Hb3.out.trans (hb4.mono Hb3.out.size), fun _ => ⟨kk, p, ts, a5, c5, HK.out.1, HK.out.2.1, rfl, HK.out.2.2, ho5⟩⟩
            have HI2 := Lib.hid hI
            clear hI hb4 ho4 ho5 r5
            go_wp2_with fail
            refine HM.out.mono ?_
            rintro e w5 ⟨rfl, q5, rfl⟩
            have hI : Inv w b n v (k + 1) true (.slice a5 n c5) (w4.drewN q5) := by
              obtain ⟨us', h1, h2, h3, h4⟩ := HI2.out
              refine ⟨us', h1.up (belowDrewN _ _), h2, h3.trans ((belowDrewN w4 q5).mono h3.size), fun h => ?_⟩
              obtain ⟨kk, p, ts, a, c, e1, e2, e3, e4, e5⟩ := h4 h
              exact ⟨kk, p, ts, a, c, e1, e2, e3, e4, e5.up (belowDrewN _ _)⟩
            have HI3 := Lib.hid hI
            clear hI
            go_wp2_with fail
            go_roundw
            case rel => exact ⟨k + 1, true, by go_num, rfl, h2, HI3⟩
            case measure => simp [intOf]; omega
        · have hbr := HV.out
          have Hbr : Hid (Below w.heap.size w wr) := by obtain ⟨_, _, _, h, _⟩ := hbr; exact h
          clear hbr
          go_wp2_with fail
          go_ret
          exact ⟨rfl, Hbr.out⟩
      · have hbr := HV.out
        have Hbr : Hid (Below w.heap.size w wr) := by obtain ⟨_, _, _, h, _⟩ := hbr; exact h
        clear hbr
        go_wp2_with fail
        go_ret
        exact ⟨rfl, Hbr.out⟩
    · have hbr := HV.out
      have Hbr : Hid (Below w.heap.size w wr) := by obtain ⟨_, _, _, h, _⟩ := hbr; exact h
      clear hbr
      go_wp2_with fail
      go_ret
      exact ⟨rfl, Hbr.out⟩

theorem stays_any (n v : Int) (a2 : Option Addr) (c2 : Nat) (l2 : List Int) (a3 : Option Addr) (c3 : Nat) (l3 : List Int) (a4 : Option Addr) (c4 : Nat) (l4 : List Int) (w : World) (_ : l2.length * 8 ≤ 140737488351232) (r2 : Reads w a2 l2) (_ : a2 = none → c2 = 0)
    (_ : l3.length * 8 ≤ 140737488351232) (r3 : Reads w a3 l3) (_ : a3 = none → c3 = 0) (_ : l4.length * 8 ≤ 140737488351232) (r4 : Reads w a4 l4) (_ : a4 = none → c4 = 0) :
    Calls Try.prog 4 #[.int .i64 n, .int .i64 v, .slice a2 l2.length c2, .slice a3 l3.length c3, .slice a4 l4.length c4] w (Yes w) := by
  by_cases h : n < 0 ∨ 5000 < n
  · exact stays_out n v _ _ _ w h
  · obtain ⟨k, rfl⟩ : ∃ k : Nat, n = (k : Nat) := ⟨n.toNat, by omega⟩
    by_cases h1 : 100 < k ∨ 40 < l2.length
    · exact stays_great k v _ _ _ _ _ w (by omega) h1
    · exact stays_in k v a2 a3 a4 c2 c3 c4 l2 l3 l4 _ _ _ w (by omega) rfl rfl rfl (by omega) r2 r3 r4
end Go.Proofs.Ythlcjhkelcfnoaa.vers
