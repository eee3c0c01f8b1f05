/- Package pat: sifted. -/
import Derived.Test.YtnebmncjohoekaaPatMap
import Derived.Deep.RegionWith
namespace Go.Proofs.Ytnebmncjohoekaa.pat
open Go.RowKit

set_option maxRecDepth 100000 in
set_option maxHeartbeats 1000000 in
theorem sifted_nil (w : World) (p : Option Addr) (want : Bool) :
    Calls Try.prog 35 #[.pointer none, .pointer p, .bool want] w fun e w' => e = .returned (.pointer none) ∧ w = w' := by
  go_enter Try.func35, Try.ntmps35
  go_wp2_with fail
  go_ret
  exact ⟨rfl, rfl⟩

theorem cnt_sifted (o : Option PT) (want : Bool) (t : PT) : ocnt (sifted o want t) ≤ t.cnt := by
  induction t with
  | leaf k v => simp only [sifted]; split <;> simp [ocnt, PT.cnt]
  | node key n l r ihl ihr => simp only [sifted, cnt_two, PT.cnt]; omega

set_option maxRecDepth 100000 in
set_option maxHeartbeats 8000000 in
theorem sifted_leaf (B : Nat) (want : Bool) (o : Option PT) (q : Option Addr) (oo : OOk o) (k : Nat) (v : Int) (w : World) (b : Nat) (h : HP B w b (.leaf k v)) (hq : HO B w q o) (hk : k < 2 ^ 64) :
    Calls Try.prog 35 #[.pointer (some ⟨b, 0, none⟩), .pointer q, .bool want] w (RetO B w (sifted o want (.leaf k v))) := by
  obtain ⟨k0, k1, _, _, _, _⟩ := cells6 h.2
  have H := Lib.hid h
  have HG := Lib.hid (oget_any B w q o k hq oo hk _ rfl)
  show Calls _ _ _ _ (RetO B w (if (oget o k).isSome = want then some (.leaf k v) else none))
  obtain ⟨r, hr⟩ : ∃ r, r = oget o k := ⟨_, rfl⟩
  rw [← hr] at HG ⊢
  clear h hq hr
  cases r <;> cases want
  all_goals
    go_enter Try.func35, Try.ntmps35
    go_wp2_with fail
    refine HG.out.mono ?_
    intro e w' hr
    first
      | (obtain ⟨rfl, rfl⟩ := hr)
      | (obtain ⟨rfl, b', rfl, hv⟩ := hr)
    go_wp2_with fail
    go_ret
    first
      | exact ⟨none, rfl, rfl, Below.refl _ _⟩
      | exact ⟨_, rfl, ⟨b, rfl, H.out⟩, Below.refl _ _⟩

set_option maxRecDepth 100000 in
set_option maxHeartbeats 8000000 in
theorem sifted_any (B : Nat) (want : Bool) (o : Option PT) (q : Option Addr) (oo : OOk o) (t : PT) : ∀ (w : World) (b : Nat), B ≤ w.heap.size → HP B w b t → HO B w q o → Ok t → t.cnt ≤ 1152921504606843999 →
    Calls Try.prog 35 #[.pointer (some ⟨b, 0, none⟩), .pointer q, .bool want] w (RetO B w (sifted o want t)) := by
  induction t with
  | leaf k v => intro w b hB h hq ht _; exact sifted_leaf B want o q oo k v w b h hq ht
  | node key n l r ihl ihr =>
    intro w b hB h hq ht hc
    obtain ⟨hn, hkey⟩ := node_facts ht
    obtain ⟨_, bl, br, hx, hl, hr⟩ := h
    obtain ⟨c0, c1, _, _, c4, c5⟩ := cells6 hx
    obtain ⟨_, _, okl, okr, _, _⟩ := id ht
    have hcl : l.cnt + r.cnt ≤ 1152921504606843999 := hc
    have hM0 : 0 < 2 ^ n := Nat.two_pow_pos n
    have HT := Lib.hid (fun W p p' (hW : Below w.heap.size w W) (hp : HO B W p (sifted o want l)) (hp' : HO B W p' (sifted o want r)) => two_any B W key n p p' (sifted o want l) (sifted o want r) (szle hW hB) hp hp' (by have := cnt_sifted o want l; have := cnt_sifted o want r; omega))
    have HCl := Lib.hid (fun W (hW : Below w.heap.size w W) => ihl W bl (szle hW hB) (HP.up hW hl) (hq.up hW) okl (by omega))
    have HCr := Lib.hid (fun W (hW : Below w.heap.size w W) => ihr W br (szle hW hB) (HP.up hW hr) (hq.up hW) okr (by omega))
    show Calls _ _ _ _ (RetO B w (two key n (sifted o want l) (sifted o want r)))
    obtain ⟨M, hM⟩ : ∃ M, M = 2 ^ n := ⟨_, rfl⟩
    rw [← hM] at c1 hM0 HT
    have hMne : ((M : Int) == 0) = false := by simp; omega
    clear hx hl hr hq ht hc hcl hM ihl ihr okl okr
    go_enter Try.func35, Try.ntmps35
    go_wp2_with fail
    go_region_held3 (fun w' => w'.cell? ⟨b, 0, none⟩ = some (.int .u64 (key : Nat)) ∧ w'.cell? ⟨b, 1, none⟩ = some (.int .u64 (M : Nat)) ∧ w'.cell? ⟨b, 4, none⟩ = some (.pointer (some ⟨bl, 0, none⟩)) ∧ w'.cell? ⟨b, 5, none⟩ = some (.pointer (some ⟨br, 0, none⟩))) (first | exact ⟨t0, t1, t4, t5⟩ | exact ⟨l0, l1, l4, l5⟩ | exact ⟨r0, r1, r4, r5⟩ | go_keep)
      (first
      | (go_at_call_of 35 (Value.pointer (some ⟨bl, 0, none⟩)); refine (HCl.out _ (by first | exact hzr | exact belowDrew w)).mono ?_; rintro e wl ⟨cl, rfl, hpl, hbl⟩; have hzl : Below w.heap.size w wl := (by first | exact belowTrans hzr hbl | exact belowTrans (belowDrew w) hbl); have l0 := upc hzl c0; have l1 := upc hzl c1; have l4 := upc hzl c4; have l5 := upc hzl c5)
      | (go_at_call_of 35 (Value.pointer (some ⟨br, 0, none⟩)); refine (HCr.out _ (by first | exact hzl | exact belowDrew w)).mono ?_; rintro e wr ⟨cr, rfl, hpr, hbr⟩; have hzr : Below w.heap.size w wr := (by first | exact belowTrans hzl hbr | exact belowTrans (belowDrew w) hbr); have r0 := upc hzr c0; have r1 := upc hzr c1; have r4 := upc hzr c4; have r5 := upc hzr c5)
      | (go_at_call 43; refine (HT.out _ cl cr (by first | exact hzl | exact hzr) (by first | exact hpl | exact HO.up hpl hbr) (by first | exact hpr | exact HO.up hpr hbl)).mono ?_; rintro e wt ⟨ct, rfl, hpt, hbt⟩; have hzt : Below w.heap.size w wt := (by first | exact belowTrans hzl hbt | exact belowTrans hzr hbt); have t0 := upc hzt c0; have t1 := upc hzt c1; have t4 := upc hzt c4; have t5 := upc hzt c5))
    all_goals
      have Hp := Lib.hid (And.intro hpt hzt)
      clear c0 c1 c4 c5 l0 l1 l4 l5 r0 r1 r4 r5 t0 t1 t4 t5 hpl hpr hpt hbl hbr hbt hzl hzr hzt
      go_wp2_with fail
      go_ret
      exact ⟨ct, rfl, Hp.out.1, Hp.out.2⟩

def osifted (o : Option PT) (want : Bool) : Option PT → Option PT
  | none => none
  | some t => sifted o want t
theorem osifted_any (B : Nat) (want : Bool) (w : World) (px py : Option Addr) (x y : Option PT) (hB : B ≤ w.heap.size) (hx : HO B w px x) (hy : HO B w py y) (ox : OOk x) (oy : OOk y) (hc : ocnt x ≤ 1152921504606843999) :
    Calls Try.prog 35 #[.pointer px, .pointer py, .bool want] w (RetO B w (osifted y want x)) := by
  cases x with
  | none =>
    obtain rfl : px = none := hx
    refine (sifted_nil w py want).mono ?_
    rintro e w' ⟨rfl, rfl⟩
    exact ⟨none, rfl, rfl, Below.refl _ _⟩
  | some a =>
    obtain ⟨pa, rfl, ha⟩ := hx
    exact sifted_any B want y py oy a w pa hB ha hy ox hc
theorem osifted_spec {x y : Option PT} (want : Bool) (ox : OOk x) : OOk (osifted y want x) ∧ ∀ j, lk (olist (osifted y want x)) j = if (oget y j).isSome = want then lk (olist x) j else none := by
  cases x with
  | none => exact ⟨trivial, fun j => by simp [osifted, olist, lk]⟩
  | some a =>
    obtain ⟨h1, _, h2⟩ := sifted_spec y want a ox
    exact ⟨h1, h2⟩
theorem ocnt_osifted (y : Option PT) (want : Bool) (x : Option PT) : ocnt (osifted y want x) ≤ ocnt x := by
  cases x with
  | none => exact Nat.le_refl _
  | some a => exact cnt_sifted y want a
end Go.Proofs.Ytnebmncjohoekaa.pat
