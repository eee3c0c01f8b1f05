/- The walks of package ral: another number at a place of a list. -/
import Derived.Test.YthlcjhkelcfnoaaDoorRalSet
namespace Go.Proofs.YthlcjhkelcfnoaaDoor.ral
open Go.RowKit

/-- a pointer leads to spots that have these trees, each spot's block is of S -/
def SpS (B : Nat) (S : Nat → Prop) (w : World) : Option Addr → List (BT Int) → Prop
  | p, [] => p = none
  | p, t :: ts => ∃ b q r, p = some ⟨b, 0, none⟩ ∧ S b ∧ w.heap[b]? = some (.cells #[.int .i64 (t.size : Nat), .pointer q, .pointer r] 75 (0, 0)) ∧ In B w q t ∧ SpS B S w r ts
theorem SpS.of {B : Nat} {w : World} : ∀ {ts : List (BT Int)} {p : Option Addr}, Sp B w p ts → SpS B (fun b => B ≤ b ∧ b < w.heap.size) w p ts
  | [], _, h => h
  | _ :: _, _, ⟨b, q, r, e, hB, hc, hq, hr⟩ => ⟨b, q, r, e, ⟨hB, (Array.getElem?_eq_some_iff.1 hc).1⟩, hc, hq, SpS.of hr⟩
theorem SpS.to {B : Nat} {S : Nat → Prop} {w : World} (hS : ∀ b, S b → B ≤ b) : ∀ {ts : List (BT Int)} {p : Option Addr}, SpS B S w p ts → Sp B w p ts
  | [], _, h => h
  | _ :: _, _, ⟨b, q, r, e, hB, hc, hq, hr⟩ => ⟨b, q, r, e, hS b hB, hc, hq, SpS.to hS hr⟩
theorem SpS.imp {B : Nat} {S S' : Nat → Prop} {w w' : World} (hi : ∀ q t, In B w q t → In B w' q t) (hS : ∀ b, b < w.heap.size → S b → S' b ∧ w'.heap[b]? = w.heap[b]?) : ∀ {ts : List (BT Int)} {p : Option Addr}, SpS B S w p ts → SpS B S' w' p ts
  | [], _, h => h
  | _ :: _, _, ⟨b, q, r, e, hB, hc, hq, hr⟩ => by
    have h := hS b (Array.getElem?_eq_some_iff.1 hc).1 hB
    exact ⟨b, q, r, e, h.1, h.2.trans hc, hi _ _ hq, SpS.imp hi hS hr⟩
theorem SpS.old {B : Nat} {S : Nat → Prop} {w w' : World} (hb : Below w.heap.size w w') {ts : List (BT Int)} {p : Option Addr} (h : SpS B S w p ts) : SpS B (fun b => S b ∧ b < w.heap.size) w' p ts :=
  h.imp (fun _ _ hq => hq.up hb) fun b hlt hs => ⟨⟨hs, hlt⟩, hb.block b hlt⟩

def RetSpS (B : Nat) (S : Nat → Prop) (w : World) (ts : List (BT Int)) (e : Ending) (w' : World) : Prop := ∃ p, e = .returned (.pointer p) ∧ SpS B (fun b => S b ∨ w.heap.size ≤ b) w' p ts ∧ Below w.heap.size w w'

set_option maxHeartbeats 4000000 in
theorem spot_with (B : Nat) (x : Int) (ts : List (BT Int)) : ∀ (S : Nat → Prop) (w : World) (p : Option Addr) (i : Nat), B ≤ w.heap.size → (∀ b, S b → B ≤ b) → SpS B S w p ts → WF ts → i < total ts → total ts ≤ 1152921504606844000 →
    Calls Tryd.prog 34 #[.pointer p, .int .i64 (i : Nat), .int .i64 x] w (RetSpS B S w (setS ts i x)) := by
  induction ts with
  | nil => intro S w p i _ _ _ _ hi; simp [total] at hi
  | cons t ts ih =>
    intro S w p i hBw hSB h hwf hi hn
    obtain ⟨b, q1, r1, rfl, hB, hb, hq1, hr1⟩ := h
    obtain ⟨m, hm⟩ : ∃ m, m = t.size := ⟨_, rfl⟩
    simp only [total] at hi hn
    rw [← hm] at hb
    have hbl := (Array.getElem?_eq_some_iff.1 hb).1
    have ne : w.heap.size ≠ b := by omega
    have k0 := s0 hb
    have k1 := s1 hb
    have k2 := s2 hb
    have h1 := belowAlloc w (.cells #[.int .i64 (m : Nat), .pointer q1, .pointer r1] 75)
    have hnew := heap_alloc_new w (.cells #[.int .i64 (m : Nat), .pointer q1, .pointer r1] 75)
    obtain ⟨W, hW⟩ : ∃ W, W = w.alloc (.cells #[.int .i64 (m : Nat), .pointer q1, .pointer r1] 75) := ⟨_, rfl⟩
    have hsW : W.heap.size = w.heap.size + 1 := by rw [hW]; simp
    rw [← hW] at h1 hnew
    have HW := Lib.hid hW
    have k0w := upc h1 k0
    have k1w := upc h1 k1
    have k2w := upc h1 k2
    have hq1w := hq1.up h1
    have hr1w := hr1.old h1
    have g0 : (0 : Int) ≤ (i : Int) := by omega
    have g1 : (0 : Int) ≤ (m : Int) := by omega
    have hp : Perf t := hwf t (by simp)
    have hmn : m ≤ 1152921504606844000 := by omega
    have hwf2 : WF ts := fun u hu => hwf u (by simp [hu])
    have HN := Lib.hid hnew
    have H1 := Lib.hid h1
    have Hs := Lib.hid hsW
    have HX := Lib.hid (And.intro hq1w (And.intro hr1w (And.intro hp (And.intro hm (And.intro hwf2 (And.intro hSB hB))))))
    clear hW hnew h1 hq1 hr1 hq1w hr1w hp hb hm hwf hwf2 hsW hSB
    have Hih := Lib.hid ih
    clear ih
    by_cases hlt : i < m
    · have g2 : (i : Int) < (m : Int) := by omega
      go_enter Tryd.func34, Tryd.ntmps34
      go_wp2_with fail
      rw [← HW.out]
      go_region_held3 (fun w' => w'.cell? ⟨b, 0, none⟩ = some (.int .i64 (m : Nat)) ∧ w'.cell? ⟨b, 1, none⟩ = some (.pointer q1)) (first | exact ⟨k0_1, k1_1⟩ | go_keep)
        (first | (go_at_call 41; refine (tree_with x t _ _ q1 m i (by exact (InS.of HX.out.1).up (belowDrew _)) (by exact HX.out.2.2.1) (by exact HX.out.2.2.2.1.symm) hlt (by omega)).mono ?_; rintro e w1 ⟨q, rfl, hq, hb1⟩; replace hb1 := belowTrans (belowDrew _) hb1; have k0_1 := upc hb1 k0w; have k1_1 := upc hb1 k1w; have hk := upb hb1 HN.out; have hk3 := three_c hk; obtain ⟨c1, c2, cf⟩ := hk3))
      go_wp2_with fail
      go_ret
      have h3 := three_set1 (v' := .pointer q) hk
      refine ⟨_, rfl, ?_, (belowSet (a := ⟨w.heap.size, 1, none⟩) (belowTrans H1.out hb1) (Nat.le_refl _) _)⟩
      have hsz := hb1.size
      have hs := Hs.out
      rw [setS, if_pos (by rw [← HX.out.2.2.2.1]; exact hlt)]
      refine ⟨w.heap.size, q, r1, rfl, .inr (Nat.le_refl _), ?_, ?_, ?_⟩
      · rw [size_setT, ← HX.out.2.2.2.1]
        exact h3
      · exact Holds.store (k := w.heap.size) (off := 1) (InS.to (fun b hb => by rcases hb with hb | hb; exact hb.1; have hb' : W.heap.size ≤ b := hb; omega) hq) hk (by decide)
      · refine HX.out.2.1.imp (fun q' t' hq' => Holds.store (k := w.heap.size) (off := 1) (hq'.up hb1) hk (by decide)) fun b hlt hs => ⟨.inl hs.1, ?_⟩
        exact (Below.heap_setCell _ _ _ _ (by have := hs.2; simp; omega)).trans (hb1.block b hlt)
    · have g2 : ¬ ((i : Int) < (m : Int)) := by omega
      have g3 : (i : Int) - m ≤ 1152921504606844000 := by omega
      have hw1 : IntKind.i64.wrap ((i : Int) - m) = (i : Int) - m := IntWalk.i64_in _ (by omega)
      have e1 : (((i - m : Nat)) : Int) = (i : Int) - m := by omega
      have hc := Hih.out (fun b => S b ∧ b < w.heap.size) W.drew r1 (i - m) (by have h := Hs.out; show B ≤ W.heap.size; omega) (fun b hb => HX.out.2.2.2.2.2.1 b hb.1) (HX.out.2.1.imp (fun _ _ hq => hq.up (belowDrew _)) fun b _ hs => ⟨hs, rfl⟩) HX.out.2.2.2.2.1 (by have h := HX.out.2.2.2.1; omega) (by omega)
      rw [e1] at hc
      have HC := Lib.hid hc
      clear hc e1 Hih
      go_enter Tryd.func34, Tryd.ntmps34
      go_wp2_with fail
      rw [← HW.out]
      go_region_held3 (fun w' => w'.cell? ⟨b, 0, none⟩ = some (.int .i64 (m : Nat)) ∧ w'.cell? ⟨b, 2, none⟩ = some (.pointer r1)) (first | exact ⟨k0_1, k2_1⟩ | go_keep)
        (first | (go_at_call 34; (with_reducible refine HC.out.mono ?_); rintro e w1 ⟨q, rfl, hq, hb1⟩; replace hb1 := belowTrans (belowDrew _) hb1; have k0_1 := upc hb1 k0w; have k2_1 := upc hb1 k2w; have hk := upb hb1 HN.out; have hk3 := three_c hk; obtain ⟨c1, c2, cf⟩ := hk3))
      go_wp2_with fail
      go_ret
      have h3 := three_set2 (v' := .pointer q) hk
      refine ⟨_, rfl, ?_, (belowSet (a := ⟨w.heap.size, 2, none⟩) (belowTrans H1.out hb1) (Nat.le_refl _) _)⟩
      have hsz := hb1.size
      have hs := Hs.out
      rw [setS, if_neg (by rw [← HX.out.2.2.2.1]; exact hlt), ← HX.out.2.2.2.1]
      refine ⟨w.heap.size, q1, q, rfl, .inr (Nat.le_refl _), ?_, ?_, ?_⟩
      · rw [← HX.out.2.2.2.1]
        exact h3
      · exact Holds.store (k := w.heap.size) (off := 2) (HX.out.1.up hb1) hk (by decide)
      · refine hq.imp (fun q' t' hq' => Holds.store (k := w.heap.size) (off := 2) hq' hk (by decide)) fun b hlt hs' => ?_
        have hs'' : (S b ∧ b < w.heap.size) ∨ W.heap.size ≤ b := hs'
        rcases hs'' with hs'' | hs''
        · exact ⟨.inl hs''.1, Below.heap_setCell _ _ _ _ (by have := hs''.2; simp; omega)⟩
        · exact ⟨.inr (by omega), Below.heap_setCell _ _ _ _ (by simp; omega)⟩

/-- what a call leaves that hands back a list, or none -/
def RetSet (B : Nat) (w : World) (ts : List (BT Int)) (e : Ending) (w' : World) : Prop := ∃ p, e = .returned (.tuple #[.agg #[.pointer p, .int .i64 (total ts : Nat)], .bool true]) ∧ Sp B w' p ts ∧ Below w.heap.size w w'

set_option maxHeartbeats 2000000 in
theorem Set_out (w : World) (p : Option Addr) (N : Nat) (i x : Int) (hi : i < 0 ∨ (N : Int) ≤ i) :
    Calls Tryd.prog 25 #[.agg #[.pointer p, .int .i64 (N : Nat)], .int .i64 i, .int .i64 x] w fun e w' => e = .returned (.tuple #[.agg #[.pointer none, .int .i64 0], .bool false]) ∧ Below w.heap.size w w' := by
  have h2 := belowTrans (belowAlloc w (.cells #[.pointer p, .int .i64 (N : Nat)] 49)) (belowAlloc _ (.cells #[.pointer none, .int .i64 0] 49))
  have H2 := Lib.hid h2
  clear h2
  by_cases h0 : i < 0
  · clear hi
    go_enter Tryd.func25, Tryd.ntmps25
    go_wp2_with fail
    exact bodyPost_ret (v := .tuple #[.agg #[.pointer none, .int .i64 0], .bool false]) (by simp [results, Tryd.results25, go_sem]) rfl ⟨rfl, H2.out⟩
  · have h1 : (N : Int) ≤ i := by omega
    have h2 : 0 ≤ i := by omega
    clear hi
    go_enter Tryd.func25, Tryd.ntmps25
    go_wp2_with fail
    exact bodyPost_ret (v := .tuple #[.agg #[.pointer none, .int .i64 0], .bool false]) (by simp [results, Tryd.results25, go_sem]) rfl ⟨rfl, H2.out⟩

set_option maxHeartbeats 4000000 in
theorem Set_in (B : Nat) (w : World) (p : Option Addr) (ts : List (BT Int)) (N i : Nat) (x : Int) (hB : B ≤ w.heap.size) (h : Sp B w p ts) (hw : WF ts) (hN : total ts = N) (hi : i < N) (hn : N ≤ 1152921504606844000) :
    Calls Tryd.prog 25 #[.agg #[.pointer p, .int .i64 (N : Nat)], .int .i64 (i : Nat), .int .i64 x] w (RetSet B w (setS ts i x)) := by
  have h1 := belowTrans (belowAlloc w (.cells #[.pointer p, .int .i64 (N : Nat)] 49)) (belowAlloc _ (.cells #[.pointer none, .int .i64 0] 49))
  have hz := heapNew2 w (.cells #[.pointer p, .int .i64 (N : Nat)] 49) (.cells #[.pointer none, .int .i64 0] 49)
  have hz0 := heapNew1 w (.cells #[.pointer p, .int .i64 (N : Nat)] 49) (.cells #[.pointer none, .int .i64 0] 49)
  obtain ⟨W, hW⟩ : ∃ W, W = (w.alloc (.cells #[.pointer p, .int .i64 (N : Nat)] 49)).alloc (.cells #[.pointer none, .int .i64 0] 49) := ⟨_, rfl⟩
  rw [← hW] at h1 hz hz0
  have kz := two_c0 hz0
  have kn := two_c1 hz0
  have hsz := h1.size
  have g0 : (0 : Int) ≤ (i : Int) := by omega
  have g1 : (i : Int) < (N : Int) := by omega
  have hsp := Sp.up h1 h
  have HS := Lib.hid (And.intro hsp (And.intro hw hN))
  have HZ := Lib.hid hz
  have HW := Lib.hid hW
  have H1 := Lib.hid h1
  clear hW hz hz0 h1 h hw hN hsp
  go_enter Tryd.func25, Tryd.ntmps25
  go_wp2_with fail
  rw [← HW.out]
  go_region_held3 (fun w' => w'.cell? ⟨w.heap.size, 0, none⟩ = some (.pointer p) ∧ w'.cell? ⟨w.heap.size, 1, none⟩ = some (.int .i64 (N : Nat))) (first | exact ⟨kz_1, kn_1⟩ | exact ⟨kz, kn⟩ | go_keep)
    (first
      | (go_at_call 34; refine (spot_with B x ts (fun b => B ≤ b ∧ b < W.drew.heap.size) _ p i (by show B ≤ W.heap.size; omega) (by exact fun b hb => hb.1) (by exact SpS.of (Sp.up (belowDrew W) HS.out.1)) (by exact HS.out.2.1) (by have h := HS.out.2.2; omega) (by have h := HS.out.2.2; omega)).mono ?_; rintro e w1 ⟨p1, rfl, hp1, hb1⟩; replace hb1 := belowTrans (belowDrew W) hb1; have kz_1 := upc hb1 kz; have kn_1 := upc hb1 kn; have HZ_1 := Lib.hid (upb hb1 HZ.out); have HZ_1c := two_c0 HZ_1.out; have HZ_1d := two_c1 HZ_1.out; have HZ_1f := two_f (o := 0) HZ_1.out; have HZ_1g := two_f (o := 1) HZ_1.out))
  have hbel1 := hb1
  go_wp2_with fail
  have HR := two_set (u' := .pointer p1) (v' := .int .i64 (N : Nat)) HZ_1.out
  have kr0 := two_c0 HR
  have kr1 := two_c1 HR
  refine bodyPost_ret (v := .tuple #[.agg #[.pointer p1, .int .i64 (N : Nat)], .bool true]) (by simp only [results, Tryd.results25]; simp [go_sem, kr0, kr1]) rfl ?_
  have hWB : B ≤ W.heap.size := by omega
  have hp2 : Sp B w1 p1 (setS ts i x) := SpS.to (fun b hb => by
    rcases hb with hb | hb
    · exact hb.1
    · exact Nat.le_trans hWB hb) hp1
  exact ⟨p1, by rw [total_setS, HS.out.2.2], hp2.store2 HZ_1.out (by decide) (by decide), belowSet2 (belowTrans H1.out hbel1) (by omega) _ _⟩
end Go.Proofs.YthlcjhkelcfnoaaDoor.ral
