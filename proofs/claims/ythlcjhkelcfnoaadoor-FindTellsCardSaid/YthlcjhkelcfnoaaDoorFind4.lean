/- Package find: Find; Same, Join at whatever arguments; 'grouped' is true. -/
import Derived.Test.YthlcjhkelcfnoaaDoorFind3
namespace Go.Proofs.YthlcjhkelcfnoaaDoor.find
open Go.RowKit
open ral (Sp WF total elems build setS)
open vers (Ver rowOf Lists rowOf_at rowOf_length rowOf_append own_new infoL)

/-- there is such a version, with two such numbers -/
def Good (N : Nat) (vs : List Ver) (v a b : Int) : Prop := 0 ≤ v ∧ v < (vs.length : Int) ∧ 0 ≤ a ∧ a < (N : Int) ∧ 0 ≤ b ∧ b < (N : Int)
theorem Good.get {N : Nat} {vs : List Ver} {v a b : Int} (h : Good N vs v a b) : ∃ (k x y : Nat) (p : Option Addr) (ts : List (BT Int)), v = (k : Nat) ∧ a = (x : Nat) ∧ b = (y : Nat) ∧ vs[k]? = some (p, ts) ∧ x < N ∧ y < N := by
  obtain ⟨h1, h2, h3, h4, h5, h6⟩ := h
  obtain ⟨⟨p, ts⟩, hk⟩ : ∃ y, vs[v.toNat]? = some y := ⟨_, List.getElem?_eq_getElem (by omega)⟩
  exact ⟨v.toNat, a.toNat, b.toNat, p, ts, by omega, by omega, by omega, hk, by omega, by omega⟩
theorem Good.of {N : Nat} {vs : List Ver} {k x y : Nat} (hk : k < vs.length) (hx : x < N) (hy : y < N) : Good N vs (k : Nat) (x : Nat) (y : Nat) := by unfold Good; omega

theorem ver_bad (B : Nat) (w : World) (b N : Nat) (vs : List Ver) (h : FS B w b N vs) (v x y : Int) (hg : ¬ Good N vs v x y) :
    ∃ c : Int, Calls Tryd.prog 28 #[.pointer (some ⟨b, 0, none⟩), .int .i64 v, .slice (some ⟨w.heap.size, 0, none⟩) 2 2] (w.alloc (.cells #[.int .i64 x, .int .i64 y] 3)) (RetVer (w.alloc (.cells #[.int .i64 x, .int .i64 y] 3)) (noVer c)) := by
  by_cases hv : v < 0 ∨ (vs.length : Int) ≤ v
  · exact ⟨2, out_two B w b N vs h v x y hv⟩
  · obtain ⟨k, rfl⟩ : ∃ k : Nat, v = (k : Nat) := ⟨v.toNat, by omega⟩
    refine ⟨1, bad_two B w b N vs h k (by omega) x y ?_⟩
    unfold Good at hg
    omega
theorem Same_bad (B : Nat) (w : World) (b N : Nat) (vs : List Ver) (h : FS B w b N vs) (v x y : Int) (hg : ¬ Good N vs v x y) :
    Calls Tryd.prog 18 #[.pointer (some ⟨b, 0, none⟩), .int .i64 v, .int .i64 x, .int .i64 y] w fun e w' => ∃ c, RetErr (.bool false) c w e w' := by
  obtain ⟨c, hV⟩ := ver_bad B w b N vs h v x y hg
  exact (Same_none w b v x y c hV).mono fun e w' he => ⟨c, he⟩
theorem Join_bad (B : Nat) (w : World) (b N : Nat) (vs : List Ver) (h : FS B w b N vs) (v x y : Int) (hg : ¬ Good N vs v x y) :
    Calls Tryd.prog 19 #[.pointer (some ⟨b, 0, none⟩), .int .i64 v, .int .i64 x, .int .i64 y] w fun e w' => ∃ c, RetErr (.int .i64 0) c w e w' := by
  obtain ⟨c, hV⟩ := ver_bad B w b N vs h v x y hg
  exact (Join_none w b v x y c hV).mono fun e w' he => ⟨c, he⟩

/-- Join, whatever the arguments: no version changes, at most one is new -/
def RetAny (B : Nat) (w : World) (b N : Nat) (vs : List Ver) (e : Ending) (w' : World) : Prop :=
  ∃ (v' : Int) (err : Value) (us : List Ver), e = .returned (.tuple #[.int .i64 v', err]) ∧ us.length ≤ 1 ∧ FS B w' b N (vs ++ us) ∧ Below B w w' ∧ KeepT [64, 49] w w'
theorem Join_any (B : Nat) (w : World) (b N : Nat) (vs : List Ver) (h : FS B w b N vs) (hB : B ≤ w.heap.size) (v x y : Int) (hN : N ≤ 5000) (hl : vs.length < 5000) :
    Calls Tryd.prog 19 #[.pointer (some ⟨b, 0, none⟩), .int .i64 v, .int .i64 x, .int .i64 y] w (RetAny B w b N vs) := by
  by_cases hg : Good N vs v x y
  · obtain ⟨k, x, y, p, ts, rfl, rfl, rfl, hk, hx, hy⟩ := hg.get
    refine (Join_in B w b N vs h hB k x y p ts hk hx hy hN hl).mono ?_
    rintro e w' ⟨p', us, rfl, _, hf, hb, hkp⟩
    exact ⟨_, _, [(p', us)], rfl, by simp, hf, hb, hkp⟩
  · refine (Join_bad B w b N vs h v x y hg).mono ?_
    rintro e w' ⟨c, rfl, hb⟩
    exact ⟨0, _, [], rfl, by simp, by simpa using h.up hb, hb.mono hB, KeepT.of hb⟩

theorem one_in (x N : Nat) (hx : x < N) : ∀ i, i < 1 → 0 ≤ [((x : Nat) : Int)].getD i 0 ∧ [((x : Nat) : Int)].getD i 0 < (N : Int) := by
  intro i hi
  obtain rfl : i = 0 := by omega
  show 0 ≤ ((x : Nat) : Int) ∧ ((x : Nat) : Int) < (N : Int)
  omega
def RetFind (w : World) (r : Nat) (e : Ending) (w' : World) : Prop := e = .returned (.tuple #[.int .i64 (r : Nat), .nilIface]) ∧ Below w.heap.size w w'
set_option maxHeartbeats 4000000 in
theorem Find_in (B : Nat) (w : World) (b N : Nat) (vs : List Ver) (h : FS B w b N vs) (k x : Nat) (p : Option Addr) (ts : List (BT Int)) (hkv : vs[k]? = some (p, ts)) (hx : x < N) (hN : N ≤ 5000) (r : Nat) (hr : top (elems ts) x = r) :
    Calls Tryd.prog 17 #[.pointer (some ⟨b, 0, none⟩), .int .i64 (k : Nat), .int .i64 (x : Nat)] w (RetFind w r) := by
  have hm := List.mem_of_getElem? hkv
  obtain ⟨hsp, hwf, htot⟩ := h.sp _ hm
  have hpar := h.par _ hm
  have hV := version_in B _ b N vs (h.up (belowAlloc w (.cells #[.int .i64 (x : Nat)] 3))) k p ts hkv _ 1 1 [((x : Nat) : Int)] (reads_one w (x : Nat)) rfl (by omega) (one_in x N hx)
  have tr : Top (elems ts) x r := by rw [← hr]; exact top_spec hpar hx
  have HV := Lib.hid hV
  have HS := Lib.hid (And.intro hsp (And.intro hwf (And.intro htot (And.intro hpar tr))))
  clear hV h hm hsp hwf htot hpar hkv hr tr
  go_enter Tryd.func17, Tryd.ntmps17
  go_wp2_with fail
  refine HV.out.mono ?_
  rintro e w1 ⟨rfl, hb1⟩
  have hb2 := belowTrans (belowTrans (belowAlloc w (.cells #[.int .i64 (x : Nat)] 3)) hb1) (belowAlloc w1 (.cells #[.pointer p, .int .i64 (N : Nat)] 49))
  have HT := Lib.hid (top_any B _ p ts N x r (Sp.up hb2 HS.out.1) HS.out.2.1 HS.out.2.2.1 hx hN HS.out.2.2.2.1 HS.out.2.2.2.2)
  have Hb2 := Lib.hid hb2
  clear hb1 hb2
  go_wp2_with fail
  refine HT.out.mono ?_
  rintro e w3 ⟨rfl, hb3⟩
  have Hb3 := Lib.hid hb3
  clear hb3
  go_wp2_with fail
  go_ret2
  exact ⟨rfl, belowTrans Hb2.out Hb3.out⟩

def Yes (w : World) (e : Ending) (w' : World) : Prop := e = .returned (.bool true) ∧ Below w.heap.size w w'
theorem New_three (w : World) : Calls Tryd.prog 15 #[.int .i64 3] w (RetNew w 3) := New_in w 3 (by omega)
theorem top3 (x : Nat) (hx : x < 3) : top (upTo 3) x = x := top_eq (.root (upTo_getD 3 x hx))
theorem join3 : join (upTo 3) 1 2 = [0, 1, 1] := rfl
theorem Join_012 (B : Nat) (w : World) (b : Nat) (p : Option Addr) (h : FS B w b 3 [(p, build (upTo 3))]) (hB : B ≤ w.heap.size) :
    Calls Tryd.prog 19 #[.pointer (some ⟨b, 0, none⟩), .int .i64 0, .int .i64 1, .int .i64 2] w fun e w' => ∃ p' us, e = .returned (.tuple #[.int .i64 1, .nilIface]) ∧ elems us = [0, 1, 1] ∧ FS B w' b 3 [(p, build (upTo 3)), (p', us)] ∧ Below B w w' := by
  refine (Join_in B w b 3 _ h hB 0 1 2 p _ rfl (by omega) (by omega) (by omega) (by simp)).mono ?_
  rintro e w' ⟨p', us, rfl, he, hf, hb, _⟩
  rw [ral.elems_build, top3 1 (by omega), top3 2 (by omega)] at he
  exact ⟨p', us, rfl, he, hf, hb⟩
theorem Same_121 (B : Nat) (w : World) (b : Nat) (u : Ver) (p : Option Addr) (us : List (BT Int)) (h : FS B w b 3 [u, (p, us)]) (he : elems us = [0, 1, 1]) :
    Calls Tryd.prog 18 #[.pointer (some ⟨b, 0, none⟩), .int .i64 1, .int .i64 2, .int .i64 1] w (RetSame w true) := by
  refine Same_in B w b 3 _ h 1 2 1 p us rfl (by omega) (by omega) (by omega) true ?_
  have t1 : Top (elems us) 1 1 := .root (by rw [he]; rfl)
  have t2 : Top (elems us) 2 1 := .step (b := 1) (by rw [he]; rfl) (by omega) t1
  rw [top_eq t1, top_eq t2]
  rfl
theorem Same_021 (B : Nat) (w : World) (b : Nat) (u : Ver) (p : Option Addr) (h : FS B w b 3 [(p, build (upTo 3)), u]) :
    Calls Tryd.prog 18 #[.pointer (some ⟨b, 0, none⟩), .int .i64 0, .int .i64 2, .int .i64 1] w (RetSame w false) := by
  refine Same_in B w b 3 _ h 0 2 1 p _ rfl (by omega) (by omega) (by omega) false ?_
  rw [ral.elems_build, top3 1 (by omega), top3 2 (by omega)]
  rfl

set_option maxHeartbeats 2000000 in
theorem grouped_any (w : World) : Calls Tryd.prog 14 #[] w (Yes w) := by
  go_enter Tryd.func14, Tryd.ntmps14
  go_wp2_with fail
  refine (New_three w).mono ?_
  rintro e w1 ⟨b1, p1, rfl, hv1, hb1⟩
  have HV1 := Lib.hid hv1
  have Hb1 := Lib.hid hb1
  clear hv1 hb1
  go_wp2_with fail
  refine (Join_012 _ _ _ _ HV1.out Hb1.out.size).mono ?_
  rintro e w2 ⟨p2, us, rfl, he2, hv2, hb2⟩
  have HV2 := Lib.hid hv2
  have Hb2 := Lib.hid (Hb1.out.trans hb2)
  have HE := Lib.hid he2
  clear hv2 hb2 he2
  go_wp2_with fail
  refine (Same_121 _ _ _ _ _ _ HV2.out HE.out).mono ?_
  rintro e w3 ⟨rfl, hb3⟩
  have HV3 := Lib.hid (HV2.out.up hb3)
  have Hb3 := Lib.hid (Hb2.out.trans (hb3.mono Hb2.out.size))
  clear hb3
  go_wp2_with fail
  refine (Same_021 _ _ _ _ _ HV3.out).mono ?_
  rintro e w4 ⟨rfl, hb4⟩
  have Hb4 := Lib.hid (Hb3.out.trans (hb4.mono Hb3.out.size))
  clear hb4
  go_wp2_with fail
  go_ret
  exact ⟨rfl, Hb4.out⟩
end Go.Proofs.YthlcjhkelcfnoaaDoor.find
