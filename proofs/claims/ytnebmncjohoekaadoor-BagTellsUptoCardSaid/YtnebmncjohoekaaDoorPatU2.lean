/- Package pat: union, the walks over two trees. -/
import Derived.Test.YtnebmncjohoekaaDoorPatU
import Derived.Deep.RegionWith
namespace Go.Proofs.YtnebmncjohoekaaDoor.pat
open Go.RowKit

set_option maxRecDepth 100000 in
set_option maxHeartbeats 16000000 in
theorem union_inL (B : Nat) (w : World) (pa pb key n : Nat) (tl tr b : PT) (hB : B ≤ w.heap.size) (ho : HP B w pa (.node key n tl tr)) (hi : HP B w pb b) (oo : Ok (.node key n tl tr)) (oi : Ok b) (h1 : ¬ (PT.key (.node key n tl tr) = PT.key b ∧ PT.lev (.node key n tl tr) = PT.lev b)) (h2 : within (.node key n tl tr) b) (h0 : b.key / 2 ^ n % 2 = 0) (hc : tl.cnt + tr.cnt + b.cnt ≤ 1152921504606843999)
    (HI : ∀ (W : World) (p : Nat), Below w.heap.size w W → HP B W p tl → Calls Tryd.prog 45 #[.pointer (some ⟨p, 0, none⟩), .pointer (some ⟨pb, 0, none⟩)] W (RetP B W (union tl b))) :
    Calls Tryd.prog 45 #[.pointer (some ⟨pa, 0, none⟩), .pointer (some ⟨pb, 0, none⟩)] w (RetP B w (union (.node key n tl tr) b)) := by
  have e2 : union (.node key n tl tr) b = .node key n (union tl b) tr := by rw [union_in h1 h2, if_pos h0]
  rw [e2]
  obtain ⟨hn, hkey⟩ := node_facts oo
  have hcell := ho.cells
  have HW := Lib.hid (fun W (hW : Below w.heap.size w W) => within_any B W pa pb (.node key n tl tr) b (HP.up hW ho) (HP.up hW hi) oo oi true (decide_eq_true h2))
  have hbit := (bit_lt (.node key n tl tr) b).2 h2.1
  obtain ⟨_, bl, br, hx, hl, hr⟩ := ho
  obtain ⟨c0, c1, _, _, c4, c5⟩ := cells6 hx
  obtain ⟨vi, li, ri, ci⟩ := hi.cells
  have d0 := ci.c0
  have d1 := ci.c1
  have e1 : bit (.node key n tl tr) = 2 ^ n := rfl
  rw [e1] at hbit
  have hM0 : 0 < 2 ^ n := Nat.two_pow_pos n
  have HT := Lib.hid (fun W c (hW : Below w.heap.size w W) (hp : HP B W c (union tl b)) => two_some B W key n c br (union tl b) tr (szle hW hB) hp (HP.up hW hr) (by have := cnt_union tl b; omega))
  have HC := Lib.hid (fun W (hW : Below w.heap.size w W) => HI W bl hW (HP.up hW hl))
  have hand := and0 oi.lt hn h0
  obtain ⟨M, hM⟩ : ∃ M, M = 2 ^ n := ⟨_, rfl⟩
  rw [← hM] at c1 hM0 hand HT hbit
  have hMne : ((M : Int) == 0) = false := by simp; omega
  obtain ⟨y, hy⟩ : ∃ y, y = b.key := ⟨_, rfl⟩
  obtain ⟨z, hz⟩ : ∃ z, z = bit b := ⟨_, rfl⟩
  rw [← hy] at d0 hand
  rw [← hz] at d1 hbit
  have hmz : ((M : Int) == (z : Int)) = false := by simp; omega
  obtain ⟨d, hd⟩ : ∃ d, ((key : Int) == (y : Int)) = d := ⟨_, rfl⟩
  clear hx hl hr hi oo oi h0 h1 h2 hc hcell ci e1 hM hy hz e2 HI hbit
  cases d
  all_goals
    go_enter Tryd.func45, Tryd.ntmps45
    go_wp2_with fail
    go_quiet (fail)
    have hq := belowDrewN w nq
    replace c0 := upc hq c0
    replace c1 := upc hq c1
    replace c4 := upc hq c4
    replace c5 := upc hq c5
    replace d0 := upc hq d0
    replace d1 := upc hq d1
    obtain ⟨V, hV⟩ : ∃ Z : World, Z = w.drewN nq := ⟨_, rfl⟩
    rw [← hV] at hq c0 c1 c4 c5 d0 d1 ⊢
    clear hV
    have HV := Lib.hid (hq)
    clear hq
    have HWV := Lib.hid (fun m => HW.out (V.drewN m) (belowTrans HV.out (belowDrewN V m)))
    go_wp2_with fail
    go_quiet ((go_at_call 53; exact Calls.quiet_of (HWV.out _)))
    have hq := belowDrewN V nq
    replace c0 := upc hq c0
    replace c1 := upc hq c1
    replace c4 := upc hq c4
    replace c5 := upc hq c5
    replace d0 := upc hq d0
    replace d1 := upc hq d1
    obtain ⟨V1, hV⟩ : ∃ Z : World, Z = V.drewN nq := ⟨_, rfl⟩
    rw [← hV] at hq c0 c1 c4 c5 d0 d1 ⊢
    clear hV
    have HV1 := Lib.hid (belowTrans HV.out hq)
    clear hq
    go_wp2_with fail
    go_region_held3 (fun w' => w'.cell? ⟨pa, 0, none⟩ = some (.int .u64 (key : Nat)) ∧ w'.cell? ⟨pa, 1, none⟩ = some (.int .u64 (M : Nat)) ∧ w'.cell? ⟨pa, 4, none⟩ = some (.pointer (some ⟨bl, 0, none⟩)) ∧ w'.cell? ⟨pa, 5, none⟩ = some (.pointer (some ⟨br, 0, none⟩))) (first | exact ⟨g0, g1, g4, g5⟩ | exact ⟨e0, e1, e4, e5⟩ | go_keep)
      (first
      | (go_at_call 45; refine (HC.out _ (by exact belowTrans HV1.out (belowDrew _))).mono ?_; rintro e w2 ⟨c2, rfl, hp2, hb2⟩; replace hb2 := belowTrans (belowDrew _) hb2; have e0 := upc hb2 c0; have e1 := upc hb2 c1; have e4 := upc hb2 c4; have e5 := upc hb2 c5)
      | (go_at_call 52; refine (HT.out _ c2 (by exact belowTrans HV1.out hb2) (by exact hp2)).mono ?_; rintro e w3 ⟨c3, rfl, hp3, hb3⟩; have g0 := upc hb3 e0; have g1 := upc hb3 e1; have g4 := upc hb3 e4; have g5 := upc hb3 e5))
    have Hp := Lib.hid (And.intro hp3 (belowTrans (belowTrans HV1.out hb2) hb3))
    clear c0 c1 c4 c5 d0 d1 e0 e1 e4 e5 g0 g1 g4 g5 hp2 hp3 hb2 hb3
    go_wp2_with fail
    go_ret
    exact ⟨c3, rfl, Hp.out.1, Hp.out.2⟩

set_option maxRecDepth 100000 in
set_option maxHeartbeats 16000000 in
theorem union_inR (B : Nat) (w : World) (pa pb key n : Nat) (tl tr b : PT) (hB : B ≤ w.heap.size) (ho : HP B w pa (.node key n tl tr)) (hi : HP B w pb b) (oo : Ok (.node key n tl tr)) (oi : Ok b) (h1 : ¬ (PT.key (.node key n tl tr) = PT.key b ∧ PT.lev (.node key n tl tr) = PT.lev b)) (h2 : within (.node key n tl tr) b) (h0 : ¬ b.key / 2 ^ n % 2 = 0) (hc : tl.cnt + tr.cnt + b.cnt ≤ 1152921504606843999)
    (HI : ∀ (W : World) (p : Nat), Below w.heap.size w W → HP B W p tr → Calls Tryd.prog 45 #[.pointer (some ⟨p, 0, none⟩), .pointer (some ⟨pb, 0, none⟩)] W (RetP B W (union tr b))) :
    Calls Tryd.prog 45 #[.pointer (some ⟨pa, 0, none⟩), .pointer (some ⟨pb, 0, none⟩)] w (RetP B w (union (.node key n tl tr) b)) := by
  have e2 : union (.node key n tl tr) b = .node key n tl (union tr b) := by rw [union_in h1 h2, if_neg h0]
  rw [e2]
  obtain ⟨hn, hkey⟩ := node_facts oo
  have hcell := ho.cells
  have HW := Lib.hid (fun W (hW : Below w.heap.size w W) => within_any B W pa pb (.node key n tl tr) b (HP.up hW ho) (HP.up hW hi) oo oi true (decide_eq_true h2))
  have hbit := (bit_lt (.node key n tl tr) b).2 h2.1
  obtain ⟨_, bl, br, hx, hl, hr⟩ := ho
  obtain ⟨c0, c1, _, _, c4, c5⟩ := cells6 hx
  obtain ⟨vi, li, ri, ci⟩ := hi.cells
  have d0 := ci.c0
  have d1 := ci.c1
  have e1 : bit (.node key n tl tr) = 2 ^ n := rfl
  rw [e1] at hbit
  have hM0 : 0 < 2 ^ n := Nat.two_pow_pos n
  have HT := Lib.hid (fun W c (hW : Below w.heap.size w W) (hp : HP B W c (union tr b)) => two_some B W key n bl c tl (union tr b) (szle hW hB) (HP.up hW hl) hp (by have := cnt_union tr b; omega))
  have HC := Lib.hid (fun W (hW : Below w.heap.size w W) => HI W br hW (HP.up hW hr))
  have hand := and1 oi.lt hn h0
  obtain ⟨M, hM⟩ : ∃ M, M = 2 ^ n := ⟨_, rfl⟩
  rw [← hM] at c1 hM0 hand HT hbit
  have hMne : ((M : Int) == 0) = false := by simp; omega
  obtain ⟨y, hy⟩ : ∃ y, y = b.key := ⟨_, rfl⟩
  obtain ⟨z, hz⟩ : ∃ z, z = bit b := ⟨_, rfl⟩
  rw [← hy] at d0 hand
  rw [← hz] at d1 hbit
  have hmz : ((M : Int) == (z : Int)) = false := by simp; omega
  obtain ⟨d, hd⟩ : ∃ d, ((key : Int) == (y : Int)) = d := ⟨_, rfl⟩
  clear hx hl hr hi oo oi h0 h1 h2 hc hcell ci e1 hM hy hz e2 HI hbit
  cases d
  all_goals
    go_enter Tryd.func45, Tryd.ntmps45
    go_wp2_with fail
    go_quiet (fail)
    have hq := belowDrewN w nq
    replace c0 := upc hq c0
    replace c1 := upc hq c1
    replace c4 := upc hq c4
    replace c5 := upc hq c5
    replace d0 := upc hq d0
    replace d1 := upc hq d1
    obtain ⟨V, hV⟩ : ∃ Z : World, Z = w.drewN nq := ⟨_, rfl⟩
    rw [← hV] at hq c0 c1 c4 c5 d0 d1 ⊢
    clear hV
    have HV := Lib.hid (hq)
    clear hq
    have HWV := Lib.hid (fun m => HW.out (V.drewN m) (belowTrans HV.out (belowDrewN V m)))
    go_wp2_with fail
    go_quiet ((go_at_call 53; exact Calls.quiet_of (HWV.out _)))
    have hq := belowDrewN V nq
    replace c0 := upc hq c0
    replace c1 := upc hq c1
    replace c4 := upc hq c4
    replace c5 := upc hq c5
    replace d0 := upc hq d0
    replace d1 := upc hq d1
    obtain ⟨V1, hV⟩ : ∃ Z : World, Z = V.drewN nq := ⟨_, rfl⟩
    rw [← hV] at hq c0 c1 c4 c5 d0 d1 ⊢
    clear hV
    have HV1 := Lib.hid (belowTrans HV.out hq)
    clear hq
    go_wp2_with fail
    refine (HW.out _ HV1.out).mono ?_
    rintro e V2 ⟨rfl, m, hw⟩
    have hq : Below V1.heap.size V1 V2 := by rw [hw]; exact belowDrewN _ _
    clear hw
    replace c0 := upc hq c0
    replace c1 := upc hq c1
    replace c4 := upc hq c4
    replace c5 := upc hq c5
    replace d0 := upc hq d0
    replace d1 := upc hq d1
    have HV2 := Lib.hid (belowTrans HV1.out hq)
    clear hq
    go_wp2_with fail
    go_region_held3 (fun w' => w'.cell? ⟨pa, 0, none⟩ = some (.int .u64 (key : Nat)) ∧ w'.cell? ⟨pa, 1, none⟩ = some (.int .u64 (M : Nat)) ∧ w'.cell? ⟨pa, 4, none⟩ = some (.pointer (some ⟨bl, 0, none⟩)) ∧ w'.cell? ⟨pa, 5, none⟩ = some (.pointer (some ⟨br, 0, none⟩))) (first | exact ⟨g0, g1, g4, g5⟩ | exact ⟨e0, e1, e4, e5⟩ | go_keep)
      (first
      | (go_at_call 45; refine (HC.out _ (by exact belowTrans HV2.out (belowDrew _))).mono ?_; rintro e w2 ⟨c2, rfl, hp2, hb2⟩; replace hb2 := belowTrans (belowDrew _) hb2; have e0 := upc hb2 c0; have e1 := upc hb2 c1; have e4 := upc hb2 c4; have e5 := upc hb2 c5)
      | (go_at_call 52; refine (HT.out _ c2 (by exact belowTrans HV2.out hb2) (by exact hp2)).mono ?_; rintro e w3 ⟨c3, rfl, hp3, hb3⟩; have g0 := upc hb3 e0; have g1 := upc hb3 e1; have g4 := upc hb3 e4; have g5 := upc hb3 e5))
    have Hp := Lib.hid (And.intro hp3 (belowTrans (belowTrans HV2.out hb2) hb3))
    clear c0 c1 c4 c5 d0 d1 e0 e1 e4 e5 g0 g1 g4 g5 hp2 hp3 hb2 hb3
    go_wp2_with fail
    go_ret
    exact ⟨c3, rfl, Hp.out.1, Hp.out.2⟩

set_option maxRecDepth 100000 in
set_option maxHeartbeats 16000000 in
theorem union_unL (B : Nat) (w : World) (pa pb key n : Nat) (tl tr a : PT) (hB : B ≤ w.heap.size) (ho : HP B w pb (.node key n tl tr)) (hi : HP B w pa a) (oo : Ok (.node key n tl tr)) (oi : Ok a) (h1 : ¬ (PT.key a = PT.key (.node key n tl tr) ∧ PT.lev a = PT.lev (.node key n tl tr))) (h2 : ¬ within a (.node key n tl tr)) (h3 : within (.node key n tl tr) a) (h0 : a.key / 2 ^ n % 2 = 0) (hc : tl.cnt + tr.cnt + a.cnt ≤ 1152921504606843999)
    (HI : ∀ (W : World) (p : Nat), Below w.heap.size w W → HP B W p tl → Calls Tryd.prog 45 #[.pointer (some ⟨pa, 0, none⟩), .pointer (some ⟨p, 0, none⟩)] W (RetP B W (union a tl))) :
    Calls Tryd.prog 45 #[.pointer (some ⟨pa, 0, none⟩), .pointer (some ⟨pb, 0, none⟩)] w (RetP B w (union a (.node key n tl tr))) := by
  have e2 : union a (.node key n tl tr) = .node key n (union a tl) tr := by rw [union_under h1 h2 h3, if_pos h0]
  rw [e2]
  obtain ⟨hn, hkey⟩ := node_facts oo
  have hcell := ho.cells
  have HW := Lib.hid (fun W (hW : Below w.heap.size w W) => within_any B W pa pb a (.node key n tl tr) (HP.up hW hi) (HP.up hW ho) oi oo false (decide_eq_false h2))
  have HU := Lib.hid (fun W (hW : Below w.heap.size w W) => within_any B W pb pa (.node key n tl tr) a (HP.up hW ho) (HP.up hW hi) oo oi true (decide_eq_true h3))
  have hbit := (bit_lt (.node key n tl tr) a).2 h3.1
  obtain ⟨_, bl, br, hx, hl, hr⟩ := ho
  obtain ⟨c0, c1, _, _, c4, c5⟩ := cells6 hx
  obtain ⟨vi, li, ri, ci⟩ := hi.cells
  have d0 := ci.c0
  have d1 := ci.c1
  have e1 : bit (.node key n tl tr) = 2 ^ n := rfl
  rw [e1] at hbit
  have hM0 : 0 < 2 ^ n := Nat.two_pow_pos n
  have HT := Lib.hid (fun W c (hW : Below w.heap.size w W) (hp : HP B W c (union a tl)) => two_some B W key n c br (union a tl) tr (szle hW hB) hp (HP.up hW hr) (by have := cnt_union a tl; omega))
  have HC := Lib.hid (fun W (hW : Below w.heap.size w W) => HI W bl hW (HP.up hW hl))
  have hand := and0 oi.lt hn h0
  obtain ⟨M, hM⟩ : ∃ M, M = 2 ^ n := ⟨_, rfl⟩
  rw [← hM] at c1 hM0 hand HT hbit
  have hMne : ((M : Int) == 0) = false := by simp; omega
  obtain ⟨y, hy⟩ : ∃ y, y = a.key := ⟨_, rfl⟩
  obtain ⟨z, hz⟩ : ∃ z, z = bit a := ⟨_, rfl⟩
  rw [← hy] at d0 hand
  rw [← hz] at d1 hbit
  have hmz : ((z : Int) == (M : Int)) = false := by simp; omega
  obtain ⟨d, hd⟩ : ∃ d, ((y : Int) == (key : Int)) = d := ⟨_, rfl⟩
  clear hx hl hr hi oo oi h0 h1 h2 h3 hc hcell ci e1 hM hy hz e2 HI hbit
  cases d
  all_goals
    go_enter Tryd.func45, Tryd.ntmps45
    go_wp2_with fail
    go_quiet (fail)
    have hq := belowDrewN w nq
    replace c0 := upc hq c0
    replace c1 := upc hq c1
    replace c4 := upc hq c4
    replace c5 := upc hq c5
    replace d0 := upc hq d0
    replace d1 := upc hq d1
    obtain ⟨V, hV⟩ : ∃ Z : World, Z = w.drewN nq := ⟨_, rfl⟩
    rw [← hV] at hq c0 c1 c4 c5 d0 d1 ⊢
    clear hV
    have HV := Lib.hid (hq)
    clear hq
    have HWV := Lib.hid (fun m => HW.out (V.drewN m) (belowTrans HV.out (belowDrewN V m)))
    go_wp2_with fail
    go_quiet ((go_at_call 53; exact Calls.quiet_of (HWV.out _)))
    have hq := belowDrewN V nq
    replace c0 := upc hq c0
    replace c1 := upc hq c1
    replace c4 := upc hq c4
    replace c5 := upc hq c5
    replace d0 := upc hq d0
    replace d1 := upc hq d1
    obtain ⟨V1, hV⟩ : ∃ Z : World, Z = V.drewN nq := ⟨_, rfl⟩
    rw [← hV] at hq c0 c1 c4 c5 d0 d1 ⊢
    clear hV
    have HV1 := Lib.hid (belowTrans HV.out hq)
    clear hq
    go_wp2_with fail
    refine (HW.out _ HV1.out).mono ?_
    rintro e V2 ⟨rfl, m, hw⟩
    have hq : Below V1.heap.size V1 V2 := by rw [hw]; exact belowDrewN _ _
    clear hw
    replace c0 := upc hq c0
    replace c1 := upc hq c1
    replace c4 := upc hq c4
    replace c5 := upc hq c5
    replace d0 := upc hq d0
    replace d1 := upc hq d1
    have HV2 := Lib.hid (belowTrans HV1.out hq)
    clear hq
    have HWV2 := Lib.hid (fun m => HU.out (V2.drewN m) (belowTrans HV2.out (belowDrewN V2 m)))
    go_wp2_with fail
    go_quiet ((go_at_call 53; exact Calls.quiet_of (HWV2.out _)))
    have hq := belowDrewN V2 nq
    replace c0 := upc hq c0
    replace c1 := upc hq c1
    replace c4 := upc hq c4
    replace c5 := upc hq c5
    replace d0 := upc hq d0
    replace d1 := upc hq d1
    obtain ⟨V3, hV⟩ : ∃ Z : World, Z = V2.drewN nq := ⟨_, rfl⟩
    rw [← hV] at hq c0 c1 c4 c5 d0 d1 ⊢
    clear hV
    have HV3 := Lib.hid (belowTrans HV2.out hq)
    clear hq
    go_wp2_with fail
    go_region_held3 (fun w' => w'.cell? ⟨pb, 0, none⟩ = some (.int .u64 (key : Nat)) ∧ w'.cell? ⟨pb, 1, none⟩ = some (.int .u64 (M : Nat)) ∧ w'.cell? ⟨pb, 4, none⟩ = some (.pointer (some ⟨bl, 0, none⟩)) ∧ w'.cell? ⟨pb, 5, none⟩ = some (.pointer (some ⟨br, 0, none⟩))) (first | exact ⟨g0, g1, g4, g5⟩ | exact ⟨e0, e1, e4, e5⟩ | go_keep)
      (first
      | (go_at_call 45; refine (HC.out _ (by exact belowTrans HV3.out (belowDrew _))).mono ?_; rintro e w2 ⟨c2, rfl, hp2, hb2⟩; replace hb2 := belowTrans (belowDrew _) hb2; have e0 := upc hb2 c0; have e1 := upc hb2 c1; have e4 := upc hb2 c4; have e5 := upc hb2 c5)
      | (go_at_call 52; refine (HT.out _ c2 (by exact belowTrans HV3.out hb2) (by exact hp2)).mono ?_; rintro e w3 ⟨c3, rfl, hp3, hb3⟩; have g0 := upc hb3 e0; have g1 := upc hb3 e1; have g4 := upc hb3 e4; have g5 := upc hb3 e5))
    have Hp := Lib.hid (And.intro hp3 (belowTrans (belowTrans HV3.out hb2) hb3))
    clear c0 c1 c4 c5 d0 d1 e0 e1 e4 e5 g0 g1 g4 g5 hp2 hp3 hb2 hb3
    go_wp2_with fail
    go_ret
    exact ⟨c3, rfl, Hp.out.1, Hp.out.2⟩

set_option maxRecDepth 100000 in
set_option maxHeartbeats 16000000 in
theorem union_unR (B : Nat) (w : World) (pa pb key n : Nat) (tl tr a : PT) (hB : B ≤ w.heap.size) (ho : HP B w pb (.node key n tl tr)) (hi : HP B w pa a) (oo : Ok (.node key n tl tr)) (oi : Ok a) (h1 : ¬ (PT.key a = PT.key (.node key n tl tr) ∧ PT.lev a = PT.lev (.node key n tl tr))) (h2 : ¬ within a (.node key n tl tr)) (h3 : within (.node key n tl tr) a) (h0 : ¬ a.key / 2 ^ n % 2 = 0) (hc : tl.cnt + tr.cnt + a.cnt ≤ 1152921504606843999)
    (HI : ∀ (W : World) (p : Nat), Below w.heap.size w W → HP B W p tr → Calls Tryd.prog 45 #[.pointer (some ⟨pa, 0, none⟩), .pointer (some ⟨p, 0, none⟩)] W (RetP B W (union a tr))) :
    Calls Tryd.prog 45 #[.pointer (some ⟨pa, 0, none⟩), .pointer (some ⟨pb, 0, none⟩)] w (RetP B w (union a (.node key n tl tr))) := by
  have e2 : union a (.node key n tl tr) = .node key n tl (union a tr) := by rw [union_under h1 h2 h3, if_neg h0]
  rw [e2]
  obtain ⟨hn, hkey⟩ := node_facts oo
  have hcell := ho.cells
  have HW := Lib.hid (fun W (hW : Below w.heap.size w W) => within_any B W pa pb a (.node key n tl tr) (HP.up hW hi) (HP.up hW ho) oi oo false (decide_eq_false h2))
  have HU := Lib.hid (fun W (hW : Below w.heap.size w W) => within_any B W pb pa (.node key n tl tr) a (HP.up hW ho) (HP.up hW hi) oo oi true (decide_eq_true h3))
  have hbit := (bit_lt (.node key n tl tr) a).2 h3.1
  obtain ⟨_, bl, br, hx, hl, hr⟩ := ho
  obtain ⟨c0, c1, _, _, c4, c5⟩ := cells6 hx
  obtain ⟨vi, li, ri, ci⟩ := hi.cells
  have d0 := ci.c0
  have d1 := ci.c1
  have e1 : bit (.node key n tl tr) = 2 ^ n := rfl
  rw [e1] at hbit
  have hM0 : 0 < 2 ^ n := Nat.two_pow_pos n
  have HT := Lib.hid (fun W c (hW : Below w.heap.size w W) (hp : HP B W c (union a tr)) => two_some B W key n bl c tl (union a tr) (szle hW hB) (HP.up hW hl) hp (by have := cnt_union a tr; omega))
  have HC := Lib.hid (fun W (hW : Below w.heap.size w W) => HI W br hW (HP.up hW hr))
  have hand := and1 oi.lt hn h0
  obtain ⟨M, hM⟩ : ∃ M, M = 2 ^ n := ⟨_, rfl⟩
  rw [← hM] at c1 hM0 hand HT hbit
  have hMne : ((M : Int) == 0) = false := by simp; omega
  obtain ⟨y, hy⟩ : ∃ y, y = a.key := ⟨_, rfl⟩
  obtain ⟨z, hz⟩ : ∃ z, z = bit a := ⟨_, rfl⟩
  rw [← hy] at d0 hand
  rw [← hz] at d1 hbit
  have hmz : ((z : Int) == (M : Int)) = false := by simp; omega
  obtain ⟨d, hd⟩ : ∃ d, ((y : Int) == (key : Int)) = d := ⟨_, rfl⟩
  clear hx hl hr hi oo oi h0 h1 h2 h3 hc hcell ci e1 hM hy hz e2 HI hbit
  cases d
  all_goals
    go_enter Tryd.func45, Tryd.ntmps45
    go_wp2_with fail
    go_quiet (fail)
    have hq := belowDrewN w nq
    replace c0 := upc hq c0
    replace c1 := upc hq c1
    replace c4 := upc hq c4
    replace c5 := upc hq c5
    replace d0 := upc hq d0
    replace d1 := upc hq d1
    obtain ⟨V, hV⟩ : ∃ Z : World, Z = w.drewN nq := ⟨_, rfl⟩
    rw [← hV] at hq c0 c1 c4 c5 d0 d1 ⊢
    clear hV
    have HV := Lib.hid (hq)
    clear hq
    have HWV := Lib.hid (fun m => HW.out (V.drewN m) (belowTrans HV.out (belowDrewN V m)))
    go_wp2_with fail
    go_quiet ((go_at_call 53; exact Calls.quiet_of (HWV.out _)))
    have hq := belowDrewN V nq
    replace c0 := upc hq c0
    replace c1 := upc hq c1
    replace c4 := upc hq c4
    replace c5 := upc hq c5
    replace d0 := upc hq d0
    replace d1 := upc hq d1
    obtain ⟨V1, hV⟩ : ∃ Z : World, Z = V.drewN nq := ⟨_, rfl⟩
    rw [← hV] at hq c0 c1 c4 c5 d0 d1 ⊢
    clear hV
    have HV1 := Lib.hid (belowTrans HV.out hq)
    clear hq
    go_wp2_with fail
    refine (HW.out _ HV1.out).mono ?_
    rintro e V2 ⟨rfl, m, hw⟩
    have hq : Below V1.heap.size V1 V2 := by rw [hw]; exact belowDrewN _ _
    clear hw
    replace c0 := upc hq c0
    replace c1 := upc hq c1
    replace c4 := upc hq c4
    replace c5 := upc hq c5
    replace d0 := upc hq d0
    replace d1 := upc hq d1
    have HV2 := Lib.hid (belowTrans HV1.out hq)
    clear hq
    have HWV2 := Lib.hid (fun m => HU.out (V2.drewN m) (belowTrans HV2.out (belowDrewN V2 m)))
    go_wp2_with fail
    go_quiet ((go_at_call 53; exact Calls.quiet_of (HWV2.out _)))
    have hq := belowDrewN V2 nq
    replace c0 := upc hq c0
    replace c1 := upc hq c1
    replace c4 := upc hq c4
    replace c5 := upc hq c5
    replace d0 := upc hq d0
    replace d1 := upc hq d1
    obtain ⟨V3, hV⟩ : ∃ Z : World, Z = V2.drewN nq := ⟨_, rfl⟩
    rw [← hV] at hq c0 c1 c4 c5 d0 d1 ⊢
    clear hV
    have HV3 := Lib.hid (belowTrans HV2.out hq)
    clear hq
    go_wp2_with fail
    refine (HU.out _ HV3.out).mono ?_
    rintro e V4 ⟨rfl, m, hw⟩
    have hq : Below V3.heap.size V3 V4 := by rw [hw]; exact belowDrewN _ _
    clear hw
    replace c0 := upc hq c0
    replace c1 := upc hq c1
    replace c4 := upc hq c4
    replace c5 := upc hq c5
    replace d0 := upc hq d0
    replace d1 := upc hq d1
    have HV4 := Lib.hid (belowTrans HV3.out hq)
    clear hq
    go_wp2_with fail
    go_region_held3 (fun w' => w'.cell? ⟨pb, 0, none⟩ = some (.int .u64 (key : Nat)) ∧ w'.cell? ⟨pb, 1, none⟩ = some (.int .u64 (M : Nat)) ∧ w'.cell? ⟨pb, 4, none⟩ = some (.pointer (some ⟨bl, 0, none⟩)) ∧ w'.cell? ⟨pb, 5, none⟩ = some (.pointer (some ⟨br, 0, none⟩))) (first | exact ⟨g0, g1, g4, g5⟩ | exact ⟨e0, e1, e4, e5⟩ | go_keep)
      (first
      | (go_at_call 45; refine (HC.out _ (by exact belowTrans HV4.out (belowDrew _))).mono ?_; rintro e w2 ⟨c2, rfl, hp2, hb2⟩; replace hb2 := belowTrans (belowDrew _) hb2; have e0 := upc hb2 c0; have e1 := upc hb2 c1; have e4 := upc hb2 c4; have e5 := upc hb2 c5)
      | (go_at_call 52; refine (HT.out _ c2 (by exact belowTrans HV4.out hb2) (by exact hp2)).mono ?_; rintro e w3 ⟨c3, rfl, hp3, hb3⟩; have g0 := upc hb3 e0; have g1 := upc hb3 e1; have g4 := upc hb3 e4; have g5 := upc hb3 e5))
    have Hp := Lib.hid (And.intro hp3 (belowTrans (belowTrans HV4.out hb2) hb3))
    clear c0 c1 c4 c5 d0 d1 e0 e1 e4 e5 g0 g1 g4 g5 hp2 hp3 hb2 hb3
    go_wp2_with fail
    go_ret
    exact ⟨c3, rfl, Hp.out.1, Hp.out.2⟩

end Go.Proofs.YtnebmncjohoekaaDoor.pat
