/- Package vers: Get; Set, whatever the arguments; 'versed' is true. -/
import Derived.Test.YthlcjhkelcfnoaaDoorVers2
namespace Go.Proofs.YthlcjhkelcfnoaaDoor.vers
open Go.RowKit
open ral (Sp WF total elems build setS)

set_option maxHeartbeats 2000000 in
theorem Get_none (B : Nat) (w : World) (b N : Nat) (vs : List Ver) (h : VS 53 B w b N vs) (v i : Int) (hv : v < 0 ∨ (vs.length : Int) ≤ v) :
    Calls Tryd.prog 8 #[.pointer (some ⟨b, 0, none⟩), .int .i64 v, .int .i64 i] w (RetErr (.int .i64 0) 2 w) := by
  obtain ⟨a, c, hb⟩ := h.form
  have HV := Lib.hid (version_out w b vs.length a c v hb hv)
  clear hb hv h
  go_enter Tryd.func8, Tryd.ntmps8
  go_wp2_with fail
  refine HV.out.mono ?_
  rintro e w1 ⟨rfl, hb1⟩
  have Hb1 := Lib.hid hb1
  clear hb1
  go_wp2_with fail
  go_ret2
  exact ⟨rfl, belowTrans Hb1.out (belowAlloc _ _)⟩

set_option maxHeartbeats 2000000 in
theorem Get_range (B : Nat) (w : World) (b N : Nat) (vs : List Ver) (h : VS 53 B w b N vs) (k : Nat) (i : Int) (hk : k < vs.length) (hi : i < 0 ∨ (N : Int) ≤ i) :
    Calls Tryd.prog 8 #[.pointer (some ⟨b, 0, none⟩), .int .i64 (k : Nat), .int .i64 i] w (RetErr (.int .i64 0) 1 w) := by
  obtain ⟨⟨p, ts⟩, hkv⟩ : ∃ y, vs[k]? = some y := ⟨_, List.getElem?_eq_getElem hk⟩
  have hm := List.mem_of_getElem? hkv
  obtain ⟨g, c, hb, _, _, hc⟩ := h.at (by omega)
  obtain ⟨hsp, _, htot⟩ := h.sp _ hm
  have htot' : total ts = N := htot
  have hc1 := (hc k p ts hkv).2
  rw [htot'] at hc1
  have HV := Lib.hid (version_in w b vs.length g c k p (N : Nat) hb hk (hc k p ts hkv).1 hc1)
  clear hb hc h hsp htot hkv hm htot' hc1
  go_enter Tryd.func8, Tryd.ntmps8
  go_wp2_with fail
  refine HV.out.mono ?_
  rintro e w1 ⟨rfl, hb1⟩
  have HI := Lib.hid (ral.At_out (w1.alloc (.cells #[.pointer p, .int .i64 (N : Nat)] 49)) p N i hi)
  have Hb1 := Lib.hid hb1
  clear hb1 hi
  go_wp2_with fail
  refine HI.out.mono ?_
  rintro e w2 ⟨rfl, hb2⟩
  have Hb2 := Lib.hid hb2
  clear hb2
  go_wp2_with fail
  go_ret2
  exact ⟨rfl, belowTrans (belowTrans Hb1.out (belowAlloc _ _)) Hb2.out⟩

def RetInt (v : Int) (w : World) (e : Ending) (w' : World) : Prop := e = .returned (.tuple #[.int .i64 v, .nilIface]) ∧ Below w.heap.size w w'
set_option maxHeartbeats 2000000 in
theorem Get_in (B : Nat) (w : World) (b N : Nat) (vs : List Ver) (h : VS 53 B w b N vs) (k i : Nat) (p : Option Addr) (ts : List (BT Int)) (hkv : vs[k]? = some (p, ts)) (hi : i < N) (hN : N ≤ 5000) :
    Calls Tryd.prog 8 #[.pointer (some ⟨b, 0, none⟩), .int .i64 (k : Nat), .int .i64 (i : Nat)] w (RetInt ((elems ts).getD i 0) w) := by
  have hk : k < vs.length := (List.getElem?_eq_some_iff.1 hkv).1
  have hm := List.mem_of_getElem? hkv
  obtain ⟨g, c, hb, _, _, hc⟩ := h.at (by omega)
  obtain ⟨hsp, hwf, htot⟩ := h.sp _ hm
  have htot' : total ts = N := htot
  have hc1 := (hc k p ts hkv).2
  rw [htot'] at hc1
  obtain ⟨u, hu⟩ : ∃ u, u = (elems ts).getD i 0 := ⟨_, rfl⟩
  rw [← hu]
  have HV := Lib.hid (version_in w b vs.length g c k p (N : Nat) hb hk (hc k p ts hkv).1 hc1)
  have HS := Lib.hid (And.intro hsp (And.intro hwf (And.intro htot' hu.symm)))
  clear hb hc h hsp htot hkv hm htot' hc1 hwf hu
  go_enter Tryd.func8, Tryd.ntmps8
  go_wp2_with fail
  refine HV.out.mono ?_
  rintro e w1 ⟨rfl, hb1⟩
  have h2 := belowTrans hb1 (belowAlloc _ (.cells #[.pointer p, .int .i64 (N : Nat)] 49))
  have HI := Lib.hid (ral.At_in B _ p ts N i u (Sp.up h2 HS.out.1) HS.out.2.1 HS.out.2.2.1 hi (by omega) HS.out.2.2.2)
  have H2 := Lib.hid h2
  clear hb1 h2
  go_wp2_with fail
  refine HI.out.mono ?_
  rintro e w2 ⟨rfl, hb2⟩
  have Hb2 := Lib.hid hb2
  clear hb2
  go_wp2_with fail
  go_ret2
  exact ⟨rfl, belowTrans H2.out Hb2.out⟩

/-- Set, whatever the arguments: no version changes, at most one is new -/
def RetAny (B : Nat) (w : World) (b N : Nat) (vs : List Ver) (e : Ending) (w' : World) : Prop :=
  ∃ (v' : Int) (err : Value) (us : List Ver), e = .returned (.tuple #[.int .i64 v', err]) ∧ us.length ≤ 1 ∧ VS 53 B w' b N (vs ++ us) ∧ Below B w w' ∧ KeepT [53, 49] w w'
theorem Set_any (B : Nat) (w : World) (b N : Nat) (vs : List Ver) (h : VS 53 B w b N vs) (hB : B ≤ w.heap.size) (v i x : Int) (hN : N ≤ 5000) (hl : vs.length < 5000) :
    Calls Tryd.prog 9 #[.pointer (some ⟨b, 0, none⟩), .int .i64 v, .int .i64 i, .int .i64 x] w (RetAny B w b N vs) := by
  have herr : ∀ c e w', RetErr (.int .i64 0) c w e w' → RetAny B w b N vs e w' := by
    rintro c e w' ⟨rfl, hb⟩
    exact ⟨0, _, [], rfl, by simp, by simpa using h.up hb, hb.mono hB, KeepT.of hb⟩
  by_cases hv : v < 0 ∨ (vs.length : Int) ≤ v
  · exact (Set_none B w b N vs h v i x hv).mono fun e w' he => herr _ e w' he
  · obtain ⟨k, rfl⟩ : ∃ k : Nat, v = (k : Nat) := ⟨v.toNat, by omega⟩
    have hk : k < vs.length := by omega
    by_cases hi : i < 0 ∨ (N : Int) ≤ i
    · exact (Set_range B w b N vs h k i x hk hi).mono fun e w' he => herr _ e w' he
    · obtain ⟨j, rfl⟩ : ∃ j : Nat, i = (j : Nat) := ⟨i.toNat, by omega⟩
      obtain ⟨⟨p, ts⟩, hkv⟩ : ∃ y, vs[k]? = some y := ⟨_, List.getElem?_eq_getElem hk⟩
      refine (Set_in B w b N vs h hB k j x p ts hkv (by omega) hN hl).mono ?_
      rintro e w' ⟨p', rfl, hv', hb, hkp⟩
      exact ⟨_, _, [(p', setS ts j x)], rfl, by simp, hv', hb, hkp⟩

def Yes (w : World) (e : Ending) (w' : World) : Prop := e = .returned (.bool true) ∧ Below w.heap.size w w'
theorem New_two (w : World) : Calls Tryd.prog 6 #[.int .i64 2] w (RetNew 53 w 2 [0, 0]) := New_in w 2 (by omega)
theorem Set_05 (B : Nat) (w : World) (b : Nat) (p : Option Addr) (ts : List (BT Int)) (h : VS 53 B w b 2 [(p, ts)]) (hB : B ≤ w.heap.size) :
    Calls Tryd.prog 9 #[.pointer (some ⟨b, 0, none⟩), .int .i64 0, .int .i64 1, .int .i64 5] w fun e w' => ∃ p' us, e = .returned (.tuple #[.int .i64 1, .nilIface]) ∧ VS 53 B w' b 2 [(p, ts), (p', us)] ∧ Below B w w' := by
  refine (Set_in B w b 2 _ h hB 0 1 5 p ts rfl (by omega) (by omega) (by simp)).mono ?_
  rintro e w' ⟨p', rfl, hv, hb, _⟩
  exact ⟨p', _, rfl, hv, hb⟩
theorem Get_01 (B : Nat) (w : World) (b : Nat) (p : Option Addr) (v : Ver) (h : VS 53 B w b 2 [(p, build [0, 0]), v]) :
    Calls Tryd.prog 8 #[.pointer (some ⟨b, 0, none⟩), .int .i64 0, .int .i64 1] w (RetInt 0 w) := by
  refine (Get_in B w b 2 _ h 0 1 p (build [0, 0]) rfl (by omega) (by omega)).mono ?_
  rintro e w' ⟨rfl, hb⟩
  refine ⟨?_, hb⟩
  rw [ral.elems_build]
  rfl
theorem Len_two (B : Nat) (w : World) (b N : Nat) (u v : Ver) (h : VS 53 B w b N [u, v]) :
    Calls Tryd.prog 11 #[.pointer (some ⟨b, 0, none⟩)] w fun e w' => e = .returned (.int .i64 2) ∧ w = w' := Len_vs B w b N _ h

set_option maxHeartbeats 2000000 in
theorem versed_any (w : World) : Calls Tryd.prog 5 #[] w (Yes w) := by
  go_enter Tryd.func5, Tryd.ntmps5
  go_wp2_with fail
  refine (New_two w).mono ?_
  rintro e w1 ⟨b1, p1, rfl, hv1, hb1⟩
  have HV1 := Lib.hid hv1
  have Hb1 := Lib.hid hb1
  clear hv1 hb1
  go_wp2_with fail
  refine (Set_05 _ _ _ _ _ HV1.out Hb1.out.size).mono ?_
  rintro e w2 ⟨p2, us, rfl, hv2, hb2⟩
  have HV2 := Lib.hid hv2
  have Hb2 := Lib.hid (Hb1.out.trans hb2)
  clear hv2 hb2
  go_wp2_with fail
  refine (Get_01 _ _ _ _ _ HV2.out).mono ?_
  rintro e w3 ⟨rfl, hb3⟩
  have HV3 := Lib.hid (HV2.out.up hb3)
  have Hb3 := Lib.hid (Hb2.out.trans (hb3.mono Hb2.out.size))
  clear hb3
  go_wp2_with ((with_reducible refine (Len_two _ _ _ _ _ _ HV3.out).mono ?_); rintro e w4 ⟨rfl, rfl⟩)
  go_ret
  exact ⟨rfl, Hb3.out⟩
end Go.Proofs.YthlcjhkelcfnoaaDoor.vers
