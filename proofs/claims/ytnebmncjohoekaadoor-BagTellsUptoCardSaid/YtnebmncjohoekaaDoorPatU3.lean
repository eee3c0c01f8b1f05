/- Package pat: union. -/
import Derived.Test.YtnebmncjohoekaaDoorPatU2
namespace Go.Proofs.YtnebmncjohoekaaDoor.pat
open Go.RowKit

set_option maxRecDepth 100000 in
set_option maxHeartbeats 16000000 in
theorem union_eq (B : Nat) (w : World) (pa pb key n key' n' : Nat) (al ar bl br : PT) (hB : B ≤ w.heap.size) (ha : HP B w pa (.node key n al ar)) (hb : HP B w pb (.node key' n' bl br)) (oo : Ok (.node key n al ar)) (h1 : (PT.node key n al ar).key = (PT.node key' n' bl br).key ∧ (PT.node key n al ar).lev = (PT.node key' n' bl br).lev) (hc : al.cnt + ar.cnt + (bl.cnt + br.cnt) ≤ 1152921504606843999)
    (HL : ∀ (W : World) (p q : Nat), Below w.heap.size w W → HP B W p al → HP B W q bl → Calls Tryd.prog 45 #[.pointer (some ⟨p, 0, none⟩), .pointer (some ⟨q, 0, none⟩)] W (RetP B W (union al bl)))
    (HR : ∀ (W : World) (p q : Nat), Below w.heap.size w W → HP B W p ar → HP B W q br → Calls Tryd.prog 45 #[.pointer (some ⟨p, 0, none⟩), .pointer (some ⟨q, 0, none⟩)] W (RetP B W (union ar br))) :
    Calls Tryd.prog 45 #[.pointer (some ⟨pa, 0, none⟩), .pointer (some ⟨pb, 0, none⟩)] w (RetP B w (union (.node key n al ar) (.node key' n' bl br))) := by
  rw [union_same h1]
  obtain ⟨hn, hkey⟩ := node_facts oo
  obtain ⟨_, xl, xr, hx, hal, har⟩ := ha
  obtain ⟨_, yl, yr, hy, hbl, hbr⟩ := hb
  obtain ⟨c0, c1, _, _, c4, c5⟩ := cells6 hx
  obtain ⟨d0, d1, _, _, d4, d5⟩ := cells6 hy
  obtain rfl : key = key' := h1.1
  obtain rfl : n = n' := by have h : n + 1 = n' + 1 := h1.2; omega
  have hM0 : 0 < 2 ^ n := Nat.two_pow_pos n
  have HT := Lib.hid (fun W p q (hW : Below w.heap.size w W) (hp : HP B W p (union al bl)) (hq : HP B W q (union ar br)) => two_some B W key n p q (union al bl) (union ar br) (szle hW hB) hp hq (by have := cnt_union al bl; have := cnt_union ar br; omega))
  have HCl := Lib.hid (fun W (hW : Below w.heap.size w W) => HL W xl yl hW (HP.up hW hal) (HP.up hW hbl))
  have HCr := Lib.hid (fun W (hW : Below w.heap.size w W) => HR W xr yr hW (HP.up hW har) (HP.up hW hbr))
  obtain ⟨M, hM⟩ : ∃ M, M = 2 ^ n := ⟨_, rfl⟩
  rw [← hM] at c1 d1 hM0 HT
  have hMne : ((M : Int) == 0) = false := by simp; omega
  clear hx hy hal har hbl hbr oo h1 hc hM HL HR
  go_enter Tryd.func45, Tryd.ntmps45
  go_wp2_with fail
  go_quiet (fail)
  have hq := belowDrewN w nq
  replace c0 := upc hq c0
  replace c1 := upc hq c1
  replace c4 := upc hq c4
  replace c5 := upc hq c5
  replace d4 := upc hq d4
  replace d5 := upc hq d5
  clear d0 d1
  obtain ⟨V, hV⟩ : ∃ Z : World, Z = w.drewN nq := ⟨_, rfl⟩
  rw [← hV] at hq c0 c1 c4 c5 d4 d5 ⊢
  clear hV
  have HV := Lib.hid hq
  clear hq
  go_wp2_with fail
  go_region_held3 (fun w' => w'.cell? ⟨pa, 0, none⟩ = some (.int .u64 (key : Nat)) ∧ w'.cell? ⟨pa, 1, none⟩ = some (.int .u64 (M : Nat)) ∧ w'.cell? ⟨pa, 4, none⟩ = some (.pointer (some ⟨xl, 0, none⟩)) ∧ w'.cell? ⟨pa, 5, none⟩ = some (.pointer (some ⟨xr, 0, none⟩)) ∧ w'.cell? ⟨pb, 4, none⟩ = some (.pointer (some ⟨yl, 0, none⟩)) ∧ w'.cell? ⟨pb, 5, none⟩ = some (.pointer (some ⟨yr, 0, none⟩))) (first | exact ⟨t0, t1, t4, t5, t6, t7⟩ | exact ⟨l0, l1, l4, l5, l6, l7⟩ | exact ⟨r0, r1, r4, r5, r6, r7⟩ | go_keep)
    (first
    | (go_at_call_of 45 (Value.pointer (some ⟨xl, 0, none⟩)); refine (HCl.out _ (by first | exact belowTrans HV.out hzr | exact belowTrans HV.out (belowDrew V))).mono ?_; rintro e wl ⟨cl, rfl, hpl, hbl⟩; have hzl : Below V.heap.size V wl := (by first | exact belowTrans hzr hbl | exact belowTrans (belowDrew V) hbl); have l0 := upc hzl c0; have l1 := upc hzl c1; have l4 := upc hzl c4; have l5 := upc hzl c5; have l6 := upc hzl d4; have l7 := upc hzl d5)
    | (go_at_call_of 45 (Value.pointer (some ⟨xr, 0, none⟩)); refine (HCr.out _ (by first | exact belowTrans HV.out hzl | exact belowTrans HV.out (belowDrew V))).mono ?_; rintro e wr ⟨cr, rfl, hpr, hbr⟩; have hzr : Below V.heap.size V wr := (by first | exact belowTrans hzl hbr | exact belowTrans (belowDrew V) hbr); have r0 := upc hzr c0; have r1 := upc hzr c1; have r4 := upc hzr c4; have r5 := upc hzr c5; have r6 := upc hzr d4; have r7 := upc hzr d5)
    | (go_at_call 52; refine (HT.out _ cl cr (by first | exact belowTrans HV.out hzl | exact belowTrans HV.out hzr) (by first | exact hpl | exact HP.up hbr hpl) (by first | exact hpr | exact HP.up hbl hpr)).mono ?_; rintro e wt ⟨ct, rfl, hpt, hbt⟩; have hzt : Below V.heap.size V wt := (by first | exact belowTrans hzl hbt | exact belowTrans hzr hbt); have t0 := upc hzt c0; have t1 := upc hzt c1; have t4 := upc hzt c4; have t5 := upc hzt c5; have t6 := upc hzt d4; have t7 := upc hzt d5))
  all_goals
    have Hp := Lib.hid (And.intro hpt (belowTrans HV.out hzt))
    clear c0 c1 c4 c5 d4 d5 l0 l1 l4 l5 l6 l7 r0 r1 r4 r5 r6 r7 t0 t1 t4 t5 t6 t7 hpl hpr hpt hbl hbr hbt hzl hzr hzt
    go_wp2_with fail
    go_ret
    exact ⟨ct, rfl, Hp.out.1, Hp.out.2⟩

set_option maxRecDepth 100000 in
set_option maxHeartbeats 16000000 in
theorem union_apart (B : Nat) (w : World) (pa pb : Nat) (a b : PT) (hB : B ≤ w.heap.size) (ha : HP B w pa a) (hb : HP B w pb b) (oa : Ok a) (ob : Ok b) (h1 : ¬ (a.key = b.key ∧ a.lev = b.lev)) (h2 : ¬ within a b) (h3 : ¬ within b a) (hc : a.cnt + b.cnt ≤ 1152921504606843999) :
    Calls Tryd.prog 45 #[.pointer (some ⟨pa, 0, none⟩), .pointer (some ⟨pb, 0, none⟩)] w (RetP B w (union a b)) := by
  rw [union_both h1 h2 h3]
  have hap := apart_of oa ob h1 h2 h3
  obtain ⟨va, la, ra, ca⟩ := ha.cells
  obtain ⟨vb, lb, rb, cb⟩ := hb.cells
  have c0 := ca.c0
  have d0 := cb.c0
  have HW := Lib.hid (fun W (hW : Below w.heap.size w W) => within_any B W pa pb a b (HP.up hW ha) (HP.up hW hb) oa ob false (decide_eq_false h2))
  have HU := Lib.hid (fun W (hW : Below w.heap.size w W) => within_any B W pb pa b a (HP.up hW hb) (HP.up hW ha) ob oa false (decide_eq_false h3))
  have HB := Lib.hid (fun W (hW : Below w.heap.size w W) => both_any B W pa pb a b (szle hW hB) (HP.up hW ha) (HP.up hW hb) oa ob hap (by omega))
  have hne : a.key ≠ b.key := hap.ne
  obtain ⟨x, hx⟩ : ∃ x, x = a.key := ⟨_, rfl⟩
  obtain ⟨y, hy⟩ : ∃ y, y = b.key := ⟨_, rfl⟩
  rw [← hx] at c0 hne
  rw [← hy] at d0 hne
  have hd : ((x : Int) == (y : Int)) = false := by simp; omega
  clear ca cb ha hb oa ob h1 h2 h3 hc hap hx hy hne
  go_enter Tryd.func45, Tryd.ntmps45
  go_wp2_with fail
  go_quiet (fail)
  have hq := belowDrewN w nq
  obtain ⟨V, hV⟩ : ∃ Z : World, Z = w.drewN nq := ⟨_, rfl⟩
  rw [← hV] at hq ⊢
  clear hV c0 d0
  have HV := Lib.hid hq
  clear hq
  have HW1 := Lib.hid (fun m => HW.out (V.drewN m) (belowTrans HV.out (belowDrewN V m)))
  go_wp2_with fail
  go_quiet ((go_at_call 53; exact Calls.quiet_of (HW1.out _)))
  have hq := belowDrewN V nq
  obtain ⟨V1, hV⟩ : ∃ Z : World, Z = V.drewN nq := ⟨_, rfl⟩
  rw [← hV] at hq ⊢
  clear hV
  have HV1 := Lib.hid (belowTrans HV.out hq)
  clear hq
  go_wp2_with fail
  refine (HW.out _ HV1.out).mono ?_
  rintro e V2 ⟨rfl, m, hw⟩
  have HV2 := Lib.hid (belowTrans HV1.out (show Below V1.heap.size V1 V2 by rw [hw]; exact belowDrewN _ _))
  clear hw
  have HW3 := Lib.hid (fun m => HU.out (V2.drewN m) (belowTrans HV2.out (belowDrewN V2 m)))
  go_wp2_with fail
  go_quiet ((go_at_call 53; exact Calls.quiet_of (HW3.out _)))
  have hq := belowDrewN V2 nq
  obtain ⟨V3, hV⟩ : ∃ Z : World, Z = V2.drewN nq := ⟨_, rfl⟩
  rw [← hV] at hq ⊢
  clear hV
  have HV3 := Lib.hid (belowTrans HV2.out hq)
  clear hq
  go_wp2_with fail
  refine (HU.out _ HV3.out).mono ?_
  rintro e V4 ⟨rfl, m, hw⟩
  have HV4 := Lib.hid (belowTrans HV3.out (show Below V3.heap.size V3 V4 by rw [hw]; exact belowDrewN _ _))
  clear hw
  go_wp2_with fail
  refine (HB.out _ HV4.out).mono ?_
  rintro e V5 ⟨c, rfl, hp, hb5⟩
  have Hp := Lib.hid (And.intro hp (belowTrans HV4.out hb5))
  clear hp hb5
  go_wp2_with fail
  go_ret
  exact ⟨c, rfl, Hp.out.1, Hp.out.2⟩

theorem union_some (B : Nat) : ∀ (m : Nat) (a b : PT), a.sz + b.sz ≤ m → ∀ (w : World) (pa pb : Nat), B ≤ w.heap.size → HP B w pa a → HP B w pb b → Ok a → Ok b → a.cnt + b.cnt ≤ 1152921504606843999 →
    Calls Tryd.prog 45 #[.pointer (some ⟨pa, 0, none⟩), .pointer (some ⟨pb, 0, none⟩)] w (RetP B w (union a b)) := by
  intro m
  induction m with
  | zero => intro a b h; have := sz_pos a; omega
  | succ m ih =>
    intro a b hm w pa pb hB ha hb oa ob hc
    by_cases h1 : a.key = b.key ∧ a.lev = b.lev
    · match a, b, hm, ha, hb, oa, ob, h1, hc with
      | .leaf k v, b, _, ha, hb, _, _, h1, _ => exact union_lf B w pa pb k v b ha hb h1
      | .node _ _ _ _, .leaf _ _, _, _, _, _, _, h1, _ => exact absurd h1.2 (by simp [PT.lev])
      | .node key n al ar, .node key' n' bl br, hm, ha, hb, oa, ob, h1, hc =>
        simp only [PT.sz] at hm
        simp only [PT.cnt] at hc
        obtain ⟨_, _, oal, oar, _, _⟩ := id oa
        obtain ⟨_, _, obl, obr, _, _⟩ := id ob
        exact union_eq B w pa pb key n key' n' al ar bl br hB ha hb oa h1 (by omega)
          (fun W p q hW h h' => ih al bl (by omega) W p q (szle hW hB) h h' oal obl (by omega))
          (fun W p q hW h h' => ih ar br (by omega) W p q (szle hW hB) h h' oar obr (by omega))
    · by_cases h2 : within a b
      · match a, hm, ha, oa, h1, h2, hc with
        | .leaf _ _, _, _, _, _, h2, _ => exact absurd h2.1 (by simp [PT.lev])
        | .node key n al ar, hm, ha, oa, h1, h2, hc =>
          simp only [PT.sz] at hm
          simp only [PT.cnt] at hc
          obtain ⟨_, _, oal, oar, _, _⟩ := id oa
          by_cases h0 : b.key / 2 ^ n % 2 = 0
          · exact union_inL B w pa pb key n al ar b hB ha hb oa ob h1 h2 h0 (by omega) (fun W p hW h => ih al b (by omega) W p pb (szle hW hB) h (HP.up hW hb) oal ob (by omega))
          · exact union_inR B w pa pb key n al ar b hB ha hb oa ob h1 h2 h0 (by omega) (fun W p hW h => ih ar b (by omega) W p pb (szle hW hB) h (HP.up hW hb) oar ob (by omega))
      · by_cases h3 : within b a
        · match b, hm, hb, ob, h1, h2, h3, hc with
          | .leaf _ _, _, _, _, _, _, h3, _ => exact absurd h3.1 (by simp [PT.lev])
          | .node key n bl br, hm, hb, ob, h1, h2, h3, hc =>
            simp only [PT.sz] at hm
            simp only [PT.cnt] at hc
            obtain ⟨_, _, obl, obr, _, _⟩ := id ob
            by_cases h0 : a.key / 2 ^ n % 2 = 0
            · exact union_unL B w pa pb key n bl br a hB hb ha ob oa h1 h2 h3 h0 (by omega) (fun W p hW h => ih a bl (by omega) W pa p (szle hW hB) (HP.up hW ha) h oa obl (by omega))
            · exact union_unR B w pa pb key n bl br a hB hb ha ob oa h1 h2 h3 h0 (by omega) (fun W p hW h => ih a br (by omega) W pa p (szle hW hB) (HP.up hW ha) h oa obr (by omega))
        · exact union_apart B w pa pb a b hB ha hb oa ob h1 h2 h3 hc

def ounion : Option PT → Option PT → Option PT
  | none, y => y
  | x, none => x
  | some a, some b => some (union a b)
theorem ounion_any (B : Nat) (w : World) (px py : Option Addr) (x y : Option PT) (hB : B ≤ w.heap.size) (hx : HO B w px x) (hy : HO B w py y) (ox : OOk x) (oy : OOk y) (hc : ocnt x + ocnt y ≤ 1152921504606843999) :
    Calls Tryd.prog 45 #[.pointer px, .pointer py] w (RetO B w (ounion x y)) := by
  cases x with
  | none =>
    obtain rfl : px = none := hx
    refine (union_none w py).mono ?_
    rintro e w' ⟨rfl, rfl⟩
    refine ⟨py, rfl, ?_, Below.refl _ _⟩
    cases y <;> exact hy
  | some a =>
    obtain ⟨pa, rfl, ha⟩ := hx
    cases y with
    | none =>
      obtain rfl : py = none := hy
      refine (union_left w pa).mono ?_
      rintro e w' ⟨rfl, rfl⟩
      exact ⟨_, rfl, ⟨pa, rfl, ha⟩, Below.refl _ _⟩
    | some b =>
      obtain ⟨pb, rfl, hb⟩ := hy
      exact (union_some B _ a b (Nat.le_refl _) w pa pb hB ha hb ox oy hc).mono fun e w' h => h.opt
theorem ounion_spec {x y : Option PT} (ox : OOk x) (oy : OOk y) : OOk (ounion x y) ∧ ∀ j, lk (olist (ounion x y)) j = (lk (olist x) j).or (lk (olist y) j) := by
  cases x with
  | none =>
    refine ⟨by cases y <;> exact oy, fun j => ?_⟩
    have e : ounion none y = y := by cases y <;> rfl
    rw [e]
    simp [olist, lk]
  | some a =>
    cases y with
    | none => exact ⟨ox, fun j => by simp [ounion, olist, lk]⟩
    | some b =>
      obtain ⟨h1, _, h2⟩ := union_spec _ a b (Nat.le_refl _) ox oy
      exact ⟨h1, h2⟩
theorem ocnt_ounion (x y : Option PT) : ocnt (ounion x y) ≤ ocnt x + ocnt y := by
  cases x with
  | none => cases y <;> simp [ounion, ocnt]
  | some a =>
    cases y with
    | none => simp [ounion, ocnt]
    | some b => exact cnt_union a b
end Go.Proofs.YtnebmncjohoekaaDoor.pat
