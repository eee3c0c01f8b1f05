/- The law of who writes into a version's list. Whatever the numbers: true; what was there stays. -/
import Derived.Test.YthlcjhkelcfnoaaVers2
import Derived.Test.YthlcjhkelcfnoaaSame
import Derived.Test.YthlcjhkelcfnoaaCat
namespace Go.Proofs.Ythlcjhkelcfnoaa.vers
open Go.RowKit
open ral (Sp WF total elems build setS)

theorem List_at (B : Nat) (w : World) (b N : Nat) (vs : List Ver) (h : VS 53 B w b N vs) (k : Nat) (v : Int) (hv : v = (k : Nat)) (p : Option Addr) (ts : List (BT Int)) (hk : vs[k]? = some (p, ts)) (hN : N ≤ 17592186044416) :
    Calls Try.prog 10 #[.pointer (some ⟨b, 0, none⟩), .int .i64 v] w (RetList w (elems ts)) := by
  subst hv
  exact List_in B w b N vs h k p ts hk hN

theorem New_one (w : World) : Calls Try.prog 7 #[.int .i64 1] w (RetNew 53 w 1 [0]) := New_in w 1 (by omega)
theorem Set_first (B : Nat) (w : World) (b N : Nat) (p : Option Addr) (ts : List (BT Int)) (h : VS 53 B w b N [(p, ts)]) (hB : B ≤ w.heap.size) (i : Nat) (x : Int) (hi : i < N) (hN : N ≤ 5000) :
    Calls Try.prog 9 #[.pointer (some ⟨b, 0, none⟩), .int .i64 0, .int .i64 (i : Nat), .int .i64 x] w fun e w' => ∃ p', e = .returned (.tuple #[.int .i64 1, .nilIface]) ∧ VS 53 B w' b N [(p, ts), (p', setS ts i x)] ∧ Below B w w' := by
  refine (Set_in B w b N _ h hB 0 i x p ts rfl hi hN (by simp)).mono ?_
  rintro e w' ⟨p', rfl, hv, hb, _⟩
  exact ⟨p', rfl, hv, hb⟩
theorem Len_one (B : Nat) (w : World) (b N : Nat) (p : Option Addr) (ts : List (BT Int)) (h : VS 53 B w b N [(p, ts)]) :
    Calls Try.prog 8 #[.pointer (some ⟨b, 0, none⟩)] w fun e w' => e = .returned (.int .i64 1) ∧ w = w' := Len_vs B w b N _ h

def Yes (w : World) (e : Ending) (w' : World) : Prop := e = .returned (.bool true) ∧ Below w.heap.size w w'

set_option maxRecDepth 100000 in
set_option maxHeartbeats 4000000 in
theorem own_out (n i x : Int) (w : World) (hn : n < 0 ∨ 5000 < n) :
    Calls Try.prog 3 #[.int .i64 n, .int .i64 i, .int .i64 x] w (Yes w) := by
  have HO := Lib.hid (New_out w n hn)
  clear hn
  go_enter Try.func3, Try.ntmps3
  go_wp2_with fail
  refine HO.out.mono ?_
  rintro e w1 ⟨rfl, rfl⟩
  go_wp2_with fail
  refine (New_one w).mono ?_
  rintro e w2 ⟨b2, p2, rfl, hv2, hb2⟩
  have HV2 := Lib.hid hv2
  have Hb2 := Lib.hid hb2
  clear hv2 hb2
  go_wp2_with ((with_reducible refine (Len_one _ _ _ _ _ _ HV2.out).mono ?_); rintro e w3 ⟨rfl, rfl⟩)
  go_ret
  exact ⟨rfl, Hb2.out⟩

set_option maxRecDepth 100000 in
set_option maxHeartbeats 4000000 in
theorem own_great (n : Nat) (i x : Int) (w : World) (h0 : 100 < n) (hn : n ≤ 5000) :
    Calls Try.prog 3 #[.int .i64 (n : Nat), .int .i64 i, .int .i64 x] w (Yes w) := by
  have HO := Lib.hid (New_in w n hn)
  have g0 : (100 : Int) < (n : Int) := by omega
  clear hn
  go_enter Try.func3, Try.ntmps3
  go_wp2_with fail
  refine HO.out.mono ?_
  rintro e w1 ⟨b1, p1, rfl, hv1, hb1⟩
  have Hb1 := Lib.hid hb1
  clear hv1 hb1
  go_wp2_with fail
  refine (New_one w1).mono ?_
  rintro e w2 ⟨b2, p2, rfl, hv2, hb2⟩
  have HV2 := Lib.hid hv2
  have Hb2 := Lib.hid hb2
  clear hv2 hb2
  go_wp2_with ((with_reducible refine (Len_one _ _ _ _ _ _ HV2.out).mono ?_); rintro e w3 ⟨rfl, rfl⟩)
  go_ret
  exact ⟨rfl, belowTrans Hb1.out Hb2.out⟩

/-- what is at hand behind Set: versions, one of them -/
def Hand (w : World) (b n : Nat) (v : Int) (xs : List Int) (w' : World) : Prop :=
  ∃ vs k p ts, VS 53 w.heap.size w' b n vs ∧ v = (k : Nat) ∧ vs[k]? = some (p, ts) ∧ elems ts = xs ∧ xs.length = n ∧ Below w.heap.size w w'
theorem Hand.list {w w' : World} {b n : Nat} {v : Int} {xs : List Int} (h : Hand w b n v xs w') (hN : n ≤ 17592186044416) : Calls Try.prog 10 #[.pointer (some ⟨b, 0, none⟩), .int .i64 v] w' (RetList w' xs) := by
  obtain ⟨vs, k, p, ts, hv, hk, hp, rfl, _, _⟩ := h
  exact List_at _ _ _ _ _ hv k v hk p ts hp hN
theorem Hand.next {w w1 w2 : World} {b n : Nat} {v : Int} {xs : List Int} (h : Hand w b n v xs w1) (hk : KeepT [3] w1 w2) (hb : Below w.heap.size w w2) : Hand w b n v xs w2 := by
  obtain ⟨vs, k, p, ts, hv, hkk, hp, rfl, hn, _⟩ := h
  exact ⟨vs, k, p, ts, hv.keep hk (by decide) (by decide) (by decide) (by decide), hkk, hp, rfl, hn, hb⟩

set_option maxRecDepth 100000 in
set_option maxHeartbeats 8000000 in
theorem own_in (n : Nat) (i x : Int) (w : World) (hn : n ≤ 100) :
    Calls Try.prog 3 #[.int .i64 (n : Nat), .int .i64 i, .int .i64 x] w (Yes w) := by
  have HO := Lib.hid (New_in w n (by omega))
  have g0 : (n : Int) ≤ 100 := by omega
  go_enter Try.func3, Try.ntmps3
  go_wp2_with fail
  refine HO.out.mono ?_
  rintro e w1 ⟨b1, p1, rfl, hv1, hb1⟩
  have Hb1 := Lib.hid hb1
  have HV1 := Lib.hid hv1
  clear hv1 hb1
  go_wp2_with fail
  refine (New_one w1).mono ?_
  rintro e w2 ⟨b2, p2, rfl, hv2, hb2⟩
  have HV2 := Lib.hid hv2
  have Hb2 := Lib.hid hb2
  have HV12 := Lib.hid (HV1.out.up hb2)
  have Hb02 := Lib.hid (belowTrans Hb1.out hb2)
  clear hv2 hb2
  by_cases hi : 0 ≤ i ∧ i < (n : Int)
  · obtain ⟨j, rfl⟩ : ∃ j : Nat, i = (j : Nat) := ⟨i.toNat, by omega⟩
    have hj : j < n := by omega
    clear hi
    go_wp2_with ((with_reducible refine (Len_one _ _ _ _ _ _ HV2.out).mono ?_); rintro e w3 ⟨rfl, rfl⟩)
    refine (Set_first _ _ _ _ _ _ HV12.out Hb02.out.size j x hj (by omega)).mono ?_
    rintro e w3 ⟨p3, rfl, hv3, hb3⟩
    obtain ⟨xs, hxs⟩ : ∃ xs, xs = elems (setS (build (List.replicate n 0)) j x) := ⟨_, rfl⟩
    have hH : Hand w b1 n 1 xs w3 := ⟨_, 1, p3, _, hv3, rfl, rfl, hxs.symm, by rw [hxs, ral.elems_setS, ral.elems_build, List.length_set, List.length_replicate], (Below.trans Hb02.out hb3)⟩
    have Hh := Lib.hid hH
    clear hH hv3 hb3 hxs
    go_wp2_with fail
    refine (Hh.out.list (by omega)).mono ?_
    rintro e w4 ⟨a4, c4, rfl, ho4, hb4⟩
    have hlen : xs.length = n := by obtain ⟨_, _, _, _, _, _, _, _, h, _⟩ := Hh.out; exact h
    have hH4 := Hh.out.next (KeepT.of hb4) (by obtain ⟨_, _, _, _, _, _, _, _, _, h⟩ := Hh.out; exact belowTrans h hb4)
    have hcat := cat_any a4 c4 xs w4 (by omega) ho4.reads ho4.none
    have hws : w.heap.size ≤ w3.heap.size := by obtain ⟨_, _, _, _, _, _, _, _, _, h⟩ := Hh.out; exact h.size
    rw [hlen] at ho4 hcat
    rw [hlen]
    have Hlen := Lib.hid hlen
    have Hc := Lib.hid hcat
    have Ho4 := Lib.hid ho4
    have HH4 := Lib.hid hH4
    clear hlen hcat ho4 hH4 Hh
    go_wp2_with fail
    refine Hc.out.mono ?_
    rintro e w5 ⟨a5, c5, rfl, ho5, hb5⟩
    rw [Hlen.out] at ho5
    rw [Hlen.out]
    have ho45 := Ho4.out.up hb5
    have hblk : ∀ b, (Value.slice a4 n c4).ownBlock = some b → w3.heap.size ≤ b ∧ b < w4.heap.size := Ho4.out.block
    have Hblk := Lib.hid hblk
    have Ho45 := Lib.hid ho45
    have Ho5 := Lib.hid ho5
    have HH5 := Lib.hid (HH4.out.next (KeepT.of hb5) (by obtain ⟨_, _, _, _, _, _, _, _, _, h⟩ := HH4.out; exact belowTrans h hb5))
    have hs45 : w3.heap.size ≤ w4.heap.size ∧ w4.heap.size ≤ w5.heap.size := ⟨hb4.size, hb5.size⟩
    clear hb4 hb5 ho5 ho45 hblk HH4
    go_wp2_with fail
    go_loopw [16] (fun i wr => ∃ k : Nat, k ≤ n ∧ i = .int .i64 k ∧ Hid (Filled 3 w3.heap.size (.slice a4 n c4) n w5 wr)) (fun i _ => n - (intOf i).toNat)
    case atStart => exact ⟨0, Nat.zero_le _, rfl, Lib.hid (Filled.start (by have h := Ho45.out; unfold OwnI at h; rw [Hlen.out] at h; exact h))⟩
    case round =>
      obtain ⟨k, hk, rfl, HF⟩ := hrel
      by_cases hlt : k < n
      · obtain ⟨g, hg⟩ : ∃ g, a4 = some ⟨g, 0, none⟩ := by
          have h := Ho45.out
          obtain ⟨a', c', e, _, hr, hg⟩ := h.form
          have e' : a4 = a' := by injection e
          rcases hr with hr | ⟨b, o, ha, _⟩
          · rw [hr] at Hlen
            have := Hlen.out
            simp at this
            omega
          · obtain ⟨g, hx, _⟩ := hg _ ha
            exact ⟨g, by rw [e', ha, hx]⟩
        subst hg
        obtain ⟨u, hc, hf⟩ := HF.out.cell k hlt
        have HF' := Lib.hid (HF.out.step k (.int .i64 (wrap64 (x + 1))))
        have h0 : (0 : Int) ≤ (k : Int) := by omega
        have h1 : (k : Int) < (n : Int) := by omega
        go_wp2_with fail
        exact ⟨⟨k + 1, by omega, by go_num, HF'⟩, by simp [intOf]; omega⟩
      · have hkp := KeepT.filled HF.out (by have h := Ho45.out; unfold OwnI at h; rw [Hlen.out] at h; exact h)
        have hbr : Below w.heap.size w wr := HF.out.below (by obtain ⟨_, _, _, _, _, _, _, _, _, h⟩ := HH5.out; exact h) (fun b hb => Nat.le_trans hws (Hblk.out b hb).1)
        have HHr := Lib.hid (HH5.out.next hkp hbr)
        have Ho5r := Lib.hid (HF.out.ownI Ho5.out (fun b hb e => by have h1 := (Hblk.out b hb).2; have h2 := (Ho5.out.block b e).1; omega))
        have Hbr := Lib.hid hbr
        clear hkp hbr HF
        go_wp2_with fail
        refine (HHr.out.list (by omega)).mono ?_
        rintro e w7 ⟨a7, c7, rfl, ho7, hb7⟩
        have Ho57 := Lib.hid (Ho5r.out.up hb7)
        have hsm := sameInts_self a7 a5 c7 c5 n xs w7 Hlen.out ho7.reads Ho57.out.reads (by unfold maxLen; omega)
        rw [Hlen.out]
        have Hsm := Lib.hid hsm
        have Hb7 := Lib.hid hb7
        clear hsm hb7 ho7
        go_wp2_with fail
        refine Hsm.out.mono ?_
        rintro e w8 ⟨rfl, q8, rfl⟩
        go_wp2_with fail
        go_ret
        exact ⟨rfl, belowTrans (belowTrans Hbr.out Hb7.out) (belowDrewN _ _)⟩
  · have hi' : i < 0 ∨ (n : Int) ≤ i := by omega
    clear hi
    go_wp2_with ((with_reducible refine (Len_one _ _ _ _ _ _ HV2.out).mono ?_); rintro e w3 ⟨rfl, rfl⟩)
    refine (Set_range _ _ _ _ _ HV12.out 0 i x (by simp) hi').mono ?_
    rintro e w3 ⟨rfl, hb3⟩
    obtain ⟨xs, hxs⟩ : ∃ xs, xs = elems (build (List.replicate n (0 : Int))) := ⟨_, rfl⟩
    have hH : Hand w b1 n 0 xs w3 := ⟨_, 0, p1, _, HV12.out.up hb3, rfl, rfl, hxs.symm, by rw [hxs, ral.elems_build, List.length_replicate], belowTrans Hb02.out hb3⟩
    have Hh := Lib.hid hH
    clear hH hb3 hxs hi'
    go_wp2_with fail
    refine (Hh.out.list (by omega)).mono ?_
    rintro e w4 ⟨a4, c4, rfl, ho4, hb4⟩
    have hlen : xs.length = n := by obtain ⟨_, _, _, _, _, _, _, _, h, _⟩ := Hh.out; exact h
    have hH4 := Hh.out.next (KeepT.of hb4) (by obtain ⟨_, _, _, _, _, _, _, _, _, h⟩ := Hh.out; exact belowTrans h hb4)
    have hcat := cat_any a4 c4 xs w4 (by omega) ho4.reads ho4.none
    have hws : w.heap.size ≤ w3.heap.size := by obtain ⟨_, _, _, _, _, _, _, _, _, h⟩ := Hh.out; exact h.size
    rw [hlen] at ho4 hcat
    rw [hlen]
    have Hlen := Lib.hid hlen
    have Hc := Lib.hid hcat
    have Ho4 := Lib.hid ho4
    have HH4 := Lib.hid hH4
    clear hlen hcat ho4 hH4 Hh
    go_wp2_with fail
    refine Hc.out.mono ?_
    rintro e w5 ⟨a5, c5, rfl, ho5, hb5⟩
    rw [Hlen.out] at ho5
    rw [Hlen.out]
    have ho45 := Ho4.out.up hb5
    have hblk : ∀ b, (Value.slice a4 n c4).ownBlock = some b → w3.heap.size ≤ b ∧ b < w4.heap.size := Ho4.out.block
    have Hblk := Lib.hid hblk
    have Ho45 := Lib.hid ho45
    have Ho5 := Lib.hid ho5
    have HH5 := Lib.hid (HH4.out.next (KeepT.of hb5) (by obtain ⟨_, _, _, _, _, _, _, _, _, h⟩ := HH4.out; exact belowTrans h hb5))
    have hs45 : w3.heap.size ≤ w4.heap.size ∧ w4.heap.size ≤ w5.heap.size := ⟨hb4.size, hb5.size⟩
    clear hb4 hb5 ho5 ho45 hblk HH4
    go_wp2_with fail
    go_loopw [16] (fun i wr => ∃ k : Nat, k ≤ n ∧ i = .int .i64 k ∧ Hid (Filled 3 w3.heap.size (.slice a4 n c4) n w5 wr)) (fun i _ => n - (intOf i).toNat)
    case atStart => exact ⟨0, Nat.zero_le _, rfl, Lib.hid (Filled.start (by have h := Ho45.out; unfold OwnI at h; rw [Hlen.out] at h; exact h))⟩
    case round =>
      obtain ⟨k, hk, rfl, HF⟩ := hrel
      by_cases hlt : k < n
      · obtain ⟨g, hg⟩ : ∃ g, a4 = some ⟨g, 0, none⟩ := by
          have h := Ho45.out
          obtain ⟨a', c', e, _, hr, hg⟩ := h.form
          have e' : a4 = a' := by injection e
          rcases hr with hr | ⟨b, o, ha, _⟩
          · rw [hr] at Hlen
            have := Hlen.out
            simp at this
            omega
          · obtain ⟨g, hx, _⟩ := hg _ ha
            exact ⟨g, by rw [e', ha, hx]⟩
        subst hg
        obtain ⟨u, hc, hf⟩ := HF.out.cell k hlt
        have HF' := Lib.hid (HF.out.step k (.int .i64 (wrap64 (x + 1))))
        have h0 : (0 : Int) ≤ (k : Int) := by omega
        have h1 : (k : Int) < (n : Int) := by omega
        go_wp2_with fail
        exact ⟨⟨k + 1, by omega, by go_num, HF'⟩, by simp [intOf]; omega⟩
      · have hkp := KeepT.filled HF.out (by have h := Ho45.out; unfold OwnI at h; rw [Hlen.out] at h; exact h)
        have hbr : Below w.heap.size w wr := HF.out.below (by obtain ⟨_, _, _, _, _, _, _, _, _, h⟩ := HH5.out; exact h) (fun b hb => Nat.le_trans hws (Hblk.out b hb).1)
        have HHr := Lib.hid (HH5.out.next hkp hbr)
        have Ho5r := Lib.hid (HF.out.ownI Ho5.out (fun b hb e => by have h1 := (Hblk.out b hb).2; have h2 := (Ho5.out.block b e).1; omega))
        have Hbr := Lib.hid hbr
        clear hkp hbr HF
        go_wp2_with fail
        refine (HHr.out.list (by omega)).mono ?_
        rintro e w7 ⟨a7, c7, rfl, ho7, hb7⟩
        have Ho57 := Lib.hid (Ho5r.out.up hb7)
        have hsm := sameInts_self a7 a5 c7 c5 n xs w7 Hlen.out ho7.reads Ho57.out.reads (by unfold maxLen; omega)
        rw [Hlen.out]
        have Hsm := Lib.hid hsm
        have Hb7 := Lib.hid hb7
        clear hsm hb7 ho7
        go_wp2_with fail
        refine Hsm.out.mono ?_
        rintro e w8 ⟨rfl, q8, rfl⟩
        go_wp2_with fail
        go_ret
        exact ⟨rfl, belowTrans (belowTrans Hbr.out Hb7.out) (belowDrewN _ _)⟩

theorem own_any (n i x : Int) (w : World) : Calls Try.prog 3 #[.int .i64 n, .int .i64 i, .int .i64 x] w (Yes w) := by
  by_cases h : n < 0 ∨ 5000 < n
  · exact own_out n i x w h
  · obtain ⟨k, rfl⟩ : ∃ k : Nat, n = (k : Nat) := ⟨n.toNat, by omega⟩
    by_cases h1 : k ≤ 100
    · exact own_in k i x w h1
    · exact own_great k i x w (by omega) (by omega)
end Go.Proofs.Ythlcjhkelcfnoaa.vers
