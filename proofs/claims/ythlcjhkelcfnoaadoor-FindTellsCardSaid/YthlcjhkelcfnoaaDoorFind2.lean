/- Package find: New, Same, Find. -/
import Derived.Test.YthlcjhkelcfnoaaDoorFind
import Derived.Test.YthlcjhkelcfnoaaDoorCat
namespace Go.Proofs.YthlcjhkelcfnoaaDoor.find
open Go.RowKit
open ral (Sp WF total elems build setS)
open vers (Ver rowOf Lists rowOf_at rowOf_length rowOf_append own_new infoL)

def RetNew (w : World) (n : Nat) (e : Ending) (w' : World) : Prop :=
  ∃ b p, e = .returned (.tuple #[.pointer (some ⟨b, 0, none⟩), .nilIface]) ∧ FS w.heap.size w' b n [(p, build (upTo n))] ∧ Below w.heap.size w w'

set_option maxHeartbeats 4000000 in
theorem New_in (w : World) (n : Nat) (hn : n ≤ 5000) :
    Calls Tryd.prog 15 #[.int .i64 (n : Nat)] w (RetNew w n) := by
  have g0 : (0 : Int) ≤ (n : Int) := by omega
  have g1 : (n : Int) ≤ 5000 := by omega
  obtain ⟨i0, hi, hz0, hz1, hz2⟩ := info_parts infoInt
  have Hi := Lib.hid (And.intro hi (And.intro hz0 (And.intro hz1 hz2)))
  clear hi hz0 hz1 hz2
  go_enter Tryd.func15, Tryd.ntmps15
  go_wp2_with fail
  go_loopw [4, 14] (fun v iv wr => ∃ k : Nat, k ≤ n ∧ iv = .int .i64 k ∧ Hid (wr.ownsRow w.heap.size 3 1 v k ((upTo k).map (Value.int .i64)) ∧ Below w.heap.size w wr)) (fun _ iv _ => n - (intOf iv).toNat)
  case atStart => exact ⟨0, Nat.zero_le _, rfl, Lib.hid ⟨World.ownsRow_nil _ _ _ _, Below.refl _ _⟩⟩
  case round =>
    obtain ⟨k, hk, rfl, HR⟩ := hrel
    have hs := HR.out.2.size
    by_cases hlt : k < n
    · go_wp2_with (at_builtin; obtain ⟨hi, hz0, hz1, hz2⟩ := Hi.out; refine wpList_append_own _ rfl (.tmp 17) (.tmp 19) 22 rfl w.heap.size 3 i0 (.int .i64 0) 1 8 Tryd.underlying22 hi hz0 hz1 hz2 rfl (by decide) _ k _ rfl (HR.out.1.alloc _) ⟨wr.heap.size, 0, none⟩ 1 1 [.int .i64 (k : Nat)] rfl rfl (cell_one_new _ _ _) (by simp [Value.oneCell']) (by unfold maxLen; omega) (by omega) (by simp; omega) ?_; intro v' w2 hown' hgrow hnil; clear hnil hi hz0 hz1 hz2; have HR2 := Lib.hid (And.intro hown' (Below.grown (HR.out.2.alloc (by omega) _) hgrow (by simp; omega) (fun b hb => (HR.out.1.lt b hb).1))); clear hown' hgrow)
      go_roundw
      case rel => exact ⟨k + 1, hlt, by go_num, Lib.hid ⟨by rw [upTo_succ, List.map_append]; exact HR2.out.1, HR2.out.2⟩⟩
      case measure => simp [intOf]; omega
    · obtain rfl : k = n := by omega
      have hown : OwnI 3 wr w.heap.size u4 (upTo k) := by unfold OwnI; rw [upTo_length]; exact HR.out.1
      obtain ⟨a, c, rfl, _, hrd, _⟩ := hown.form
      rw [upTo_length]
      have hOf := ral.Of_any wr a c (upTo k) (by rw [upTo_length]; omega) hrd
      rw [upTo_length] at hOf
      have HOf := Lib.hid hOf
      have Hbr := Lib.hid HR.out.2
      clear hOf hrd hown HR
      go_wp2_with fail
      refine HOf.out.mono ?_
      rintro e w1 ⟨p, rfl, hp, hb1⟩
      have ht : total (build (upTo k)) = k := by rw [ral.total_build, upTo_length]
      rw [ht]
      have Hp := Lib.hid hp
      have HB1 := Lib.hid (belowTrans Hbr.out (hb1))
      have Ht := Lib.hid ht
      clear hp hb1 ht
      go_wp2_with fail
      go_ret2
      have hs := HB1.out.size
      have hs2 := Hbr.out.size
      have h2 := belowTrans (belowAlloc w1 (.cells #[.pointer p, .int .i64 (k : Nat)] 49)) (belowAlloc _ (.cells #[.int .i64 (k : Nat), .slice (some ⟨w1.heap.size, 0, none⟩) 1 1] 64))
      refine ⟨w1.heap.size + 1, p, rfl, ⟨by omega, ⟨_, heapNew2 _ _ _, ?_⟩, ?_, ?_⟩, belowTrans HB1.out h2⟩
      · have h := own_new (B := w.heap.size) (sz := 2) hs (heapNew1 w1 (.cells #[.pointer p, .int .i64 (k : Nat)] 49) (.cells #[.int .i64 (k : Nat), .slice (some ⟨w1.heap.size, 0, none⟩) 1 1] 64)) rfl
        simpa [rowOf, Ht.out] using h
      · intro x hx
        obtain rfl : x = (p, build (upTo k)) := by simpa using hx
        exact ⟨Sp.up h2 (Sp.lower hs2 Hp.out), ral.wf_build _, Ht.out⟩
      · intro x hx
        obtain rfl : x = (p, build (upTo k)) := by simpa using hx
        show Par k (elems (build (upTo k)))
        rw [ral.elems_build]
        exact par_upTo k

set_option maxHeartbeats 2000000 in
theorem New_out (w : World) (n : Int) (hn : n < 0 ∨ 5000 < n) :
    Calls Tryd.prog 15 #[.int .i64 n] w fun e w' => e = .returned (.tuple #[.pointer none, .iface 29 (.int .i64 1)]) ∧ w = w' := by
  by_cases h0 : n < 0
  · clear hn
    go_enter Tryd.func15, Tryd.ntmps15
    go_wp2_with fail
    go_ret2
    exact ⟨rfl, rfl⟩
  · have g0 : 0 ≤ n := by omega
    have g1 : 5000 < n := by omega
    clear hn
    go_enter Tryd.func15, Tryd.ntmps15
    go_wp2_with fail
    go_ret2
    exact ⟨rfl, rfl⟩

/-- two numbers in a block of their own read as a list -/
theorem reads_two (w : World) (a b : Int) : Reads (w.alloc (.cells #[.int .i64 a, .int .i64 b] 3)) (some ⟨w.heap.size, 0, none⟩) [a, b] := by
  refine .inr ⟨_, 0, rfl, fun i hi => ?_⟩
  have hb := heap_alloc_new w (.cells #[.int .i64 a, .int .i64 b] 3)
  match i, hi with
  | 0, _ => simp only [World.cell?, hb]; rfl
  | 1, _ => simp only [World.cell?, hb]; rfl
theorem reads_one (w : World) (a : Int) : Reads (w.alloc (.cells #[.int .i64 a] 3)) (some ⟨w.heap.size, 0, none⟩) [a] := by
  refine .inr ⟨_, 0, rfl, fun i hi => ?_⟩
  have hb := heap_alloc_new w (.cells #[.int .i64 a] 3)
  match i, hi with
  | 0, _ => simp only [World.cell?, hb]; rfl

/-- version, of two places -/
theorem version_two (B : Nat) (w : World) (b N : Nat) (vs : List Ver) (h : FS B w b N vs) (k : Nat) (p : Option Addr) (ts : List (BT Int)) (hkv : vs[k]? = some (p, ts)) (x y : Int) (hx : 0 ≤ x ∧ x < (N : Int)) (hy : 0 ≤ y ∧ y < (N : Int)) :
    Calls Tryd.prog 28 #[.pointer (some ⟨b, 0, none⟩), .int .i64 (k : Nat), .slice (some ⟨w.heap.size, 0, none⟩) 2 2] (w.alloc (.cells #[.int .i64 x, .int .i64 y] 3)) (RetVer (w.alloc (.cells #[.int .i64 x, .int .i64 y] 3)) (.tuple #[.agg #[.pointer p, .int .i64 (N : Nat)], .nilIface])) :=
  version_in B _ b N vs (h.up (belowAlloc _ _)) k p ts hkv _ 2 2 [x, y] (reads_two w x y) rfl (by omega) fun i hi => by
    match i, hi with
    | 0, _ => exact hx
    | 1, _ => exact hy
theorem bad_two (B : Nat) (w : World) (b N : Nat) (vs : List Ver) (h : FS B w b N vs) (k : Nat) (hk : k < vs.length) (x y : Int) (hxy : (x < 0 ∨ (N : Int) ≤ x) ∨ (y < 0 ∨ (N : Int) ≤ y)) :
    Calls Tryd.prog 28 #[.pointer (some ⟨b, 0, none⟩), .int .i64 (k : Nat), .slice (some ⟨w.heap.size, 0, none⟩) 2 2] (w.alloc (.cells #[.int .i64 x, .int .i64 y] 3)) (RetVer (w.alloc (.cells #[.int .i64 x, .int .i64 y] 3)) (noVer 1)) := by
  by_cases hx : x < 0 ∨ (N : Int) ≤ x
  · exact version_bad B _ b N vs (h.up (belowAlloc _ _)) k hk _ 2 2 0 [x, y] (reads_two w x y) rfl (by omega) (by omega) hx fun i hi => by omega
  · have hy := hxy.resolve_left hx
    refine version_bad B _ b N vs (h.up (belowAlloc _ _)) k hk _ 2 2 1 [x, y] (reads_two w x y) rfl (by omega) (by omega) hy fun i hi => ?_
    obtain rfl : i = 0 := by omega
    show 0 ≤ x ∧ x < (N : Int)
    omega
theorem out_two (B : Nat) (w : World) (b N : Nat) (vs : List Ver) (h : FS B w b N vs) (v x y : Int) (hv : v < 0 ∨ (vs.length : Int) ≤ v) :
    Calls Tryd.prog 28 #[.pointer (some ⟨b, 0, none⟩), .int .i64 v, .slice (some ⟨w.heap.size, 0, none⟩) 2 2] (w.alloc (.cells #[.int .i64 x, .int .i64 y] 3)) (RetVer (w.alloc (.cells #[.int .i64 x, .int .i64 y] 3)) (noVer 2)) :=
  version_out B _ b N vs (h.up (belowAlloc _ _)) v _ hv

def RetErr (v : Value) (c : Int) (w : World) (e : Ending) (w' : World) : Prop := e = .returned (.tuple #[v, .iface 29 (.int .i64 c)]) ∧ Below w.heap.size w w'

set_option maxHeartbeats 2000000 in
theorem Same_none (w : World) (b : Nat) (v x y c : Int)
    (hV : Calls Tryd.prog 28 #[.pointer (some ⟨b, 0, none⟩), .int .i64 v, .slice (some ⟨w.heap.size, 0, none⟩) 2 2] (w.alloc (.cells #[.int .i64 x, .int .i64 y] 3)) (RetVer (w.alloc (.cells #[.int .i64 x, .int .i64 y] 3)) (noVer c))) :
    Calls Tryd.prog 18 #[.pointer (some ⟨b, 0, none⟩), .int .i64 v, .int .i64 x, .int .i64 y] w (RetErr (.bool false) c w) := by
  have HV := Lib.hid hV
  clear hV
  go_enter Tryd.func18, Tryd.ntmps18
  go_wp2_with fail
  refine HV.out.mono ?_
  rintro e w1 ⟨rfl, hb1⟩
  have Hb1 := Lib.hid (belowTrans (belowAlloc w _) hb1)
  clear hb1
  unfold noVer
  go_wp2_with fail
  go_ret2
  exact ⟨rfl, belowTrans Hb1.out (belowAlloc _ _)⟩

def RetSame (w : World) (c : Bool) (e : Ending) (w' : World) : Prop := e = .returned (.tuple #[.bool c, .nilIface]) ∧ Below w.heap.size w w'
set_option maxHeartbeats 4000000 in
theorem Same_in (B : Nat) (w : World) (b N : Nat) (vs : List Ver) (h : FS B w b N vs) (k x y : Nat) (p : Option Addr) (ts : List (BT Int)) (hkv : vs[k]? = some (p, ts)) (hx : x < N) (hy : y < N) (hN : N ≤ 5000) (c : Bool) (hc : decide (top (elems ts) x = top (elems ts) y) = c) :
    Calls Tryd.prog 18 #[.pointer (some ⟨b, 0, none⟩), .int .i64 (k : Nat), .int .i64 (x : Nat), .int .i64 (y : Nat)] w (RetSame w c) := by
  have hm := List.mem_of_getElem? hkv
  obtain ⟨hsp, hwf, htot⟩ := h.sp _ hm
  have hpar := h.par _ hm
  have hV := version_two B w b N vs h k p ts hkv (x : Nat) (y : Nat) (by omega) (by omega)
  obtain ⟨r, hr⟩ : ∃ r, r = top (elems ts) x := ⟨_, rfl⟩
  obtain ⟨s, hs⟩ : ∃ s, s = top (elems ts) y := ⟨_, rfl⟩
  have tr : Top (elems ts) x r := by rw [hr]; exact top_spec hpar hx
  have ts' : Top (elems ts) y s := by rw [hs]; exact top_spec hpar hy
  have hcc : ((r : Int) == (s : Int)) = c := by
    rw [← hc, ← hr, ← hs]
    by_cases e : r = s
    · subst e; simp
    · have e' : ¬ ((r : Int) = (s : Int)) := by omega
      simp [e, e']
  have HV := Lib.hid hV
  have HS := Lib.hid (And.intro hsp (And.intro hwf (And.intro htot (And.intro hpar (And.intro tr (And.intro ts' hcc))))))
  clear hV h hm hsp hwf htot hpar hkv hr hs tr ts' hcc hc
  go_enter Tryd.func18, Tryd.ntmps18
  go_wp2_with fail
  refine HV.out.mono ?_
  rintro e w1 ⟨rfl, hb1⟩
  have hb2 := belowTrans (belowTrans (belowAlloc w (.cells #[.int .i64 (x : Nat), .int .i64 (y : Nat)] 3)) hb1) (belowAlloc w1 (.cells #[.pointer p, .int .i64 (N : Nat)] 49))
  have hn2 := heap_alloc_new w1 (.cells #[.pointer p, .int .i64 (N : Nat)] 49)
  obtain ⟨w2, hw2⟩ : ∃ w2, w2 = w1.alloc (.cells #[.pointer p, .int .i64 (N : Nat)] 49) := ⟨_, rfl⟩
  rw [← hw2] at hb2 hn2
  have c0 := two_c0 hn2
  have c1 := two_c1 hn2
  have Hn2 := Lib.hid hn2
  have Hb2 := Lib.hid hb2
  have HW2 := Lib.hid hw2
  clear hb1 hb2 hn2 hw2
  go_wp2_with fail
  rw [← HW2.out]
  go_region_held3 (fun w' => w'.cell? ⟨w1.heap.size, 0, none⟩ = some (.pointer p) ∧ w'.cell? ⟨w1.heap.size, 1, none⟩ = some (.int .i64 (N : Nat))) (first | exact ⟨d0, d1⟩ | exact ⟨e0, e1⟩ | exact ⟨c0, c1⟩ | go_keep)
    (first
    | (go_at_call_of 29 (Value.int .i64 (x : Nat)); refine (top_any B _ p ts N x r (by first | exact Sp.up (belowTrans Hb2.out (belowDrew _)) HS.out.1 | exact Sp.up (belowTrans Hb2.out hbY) HS.out.1) (by exact HS.out.2.1) (by exact HS.out.2.2.1) (by exact hx) (by exact hN) (by exact HS.out.2.2.2.1) (by exact HS.out.2.2.2.2.1)).mono ?_; rintro e w3 ⟨rfl, hbX⟩; replace hbX : Below w2.heap.size w2 w3 := (by first | exact belowTrans (belowDrew _) hbX | exact belowTrans hbY hbX); have d0 := upc hbX c0; have d1 := upc hbX c1)
    | (go_at_call_of 29 (Value.int .i64 (y : Nat)); refine (top_any B _ p ts N y s (by first | exact Sp.up (belowTrans Hb2.out (belowDrew _)) HS.out.1 | exact Sp.up (belowTrans Hb2.out hbX) HS.out.1) (by exact HS.out.2.1) (by exact HS.out.2.2.1) (by exact hy) (by exact hN) (by exact HS.out.2.2.2.1) (by exact HS.out.2.2.2.2.2.1)).mono ?_; rintro e w4 ⟨rfl, hbY⟩; replace hbY : Below w2.heap.size w2 w4 := (by first | exact belowTrans (belowDrew _) hbY | exact belowTrans hbX hbY); have e0 := upc hbY c0; have e1 := upc hbY c1))
  all_goals
    go_wp2_with fail
    go_ret2
    first
    | exact ⟨by rw [← HS.out.2.2.2.2.2.2]; rfl, belowTrans Hb2.out hbX⟩
    | exact ⟨by rw [← HS.out.2.2.2.2.2.2]; rfl, belowTrans Hb2.out hbY⟩
end Go.Proofs.YthlcjhkelcfnoaaDoor.find
