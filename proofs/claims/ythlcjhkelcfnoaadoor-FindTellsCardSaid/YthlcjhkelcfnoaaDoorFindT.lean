/- What finds tell: the reference's TopOf, finds that fail, the rows of all versions. -/
import Derived.Test.YthlcjhkelcfnoaaDoorFind4
import Derived.Test.YthlcjhkelcfnoaaDoorVersT
namespace Go.Proofs.YthlcjhkelcfnoaaDoor.find
open Go.RowKit
open ral (elems setS total WF build)
open vers (Ver Lists)
theorem reads_all {w : World} {a : Option Addr} {xs : List Int} (h : Reads w a xs) (hl : 0 < xs.length) : ∃ b o, a = some ⟨b, o, none⟩ ∧ ∀ i, i < xs.length → w.cell? ⟨b, o + i, none⟩ = some (.int .i64 (xs.getD i 0)) := by
  rcases h with h | ⟨b, o, ha, hc⟩
  · rw [h] at hl; simp at hl
  · exact ⟨b, o, ha, hc⟩
theorem par_lt {N : Nat} {xs : List Int} (hp : Par N xs) {a b : Nat} (ha : a < N) (hb : xs.getD a 0 = (b : Int)) : b ≤ a := by
  have := (hp.2 a ha).2
  rw [hb] at this
  omega
set_option maxHeartbeats 1000000 in
theorem TopOf_cells (g o c N a r : Nat) (xs : List Int) (w : World) (hp : Par N xs) (ha : a < N) (ht : Top xs a r) (hc : ∀ i, i < N → w.cell? ⟨g, o + i, none⟩ = some (.int .i64 (xs.getD i 0))) :
    Calls Tryd.prog 16 #[.slice (some ⟨g, o, none⟩) N c, .int .i64 (a : Nat)] w fun e w' => e = .returned (.int .i64 (r : Nat)) ∧ w = w' := by
  have HC := Lib.hid (And.intro hc hp)
  have HT := Lib.hid ht
  clear hc hp ht
  go_enter Tryd.func16, Tryd.ntmps16
  go_wp2_with fail
  go_loopw [1] (fun av wr => ∃ a : Nat, av = .int .i64 a ∧ a < N ∧ Hid (Top xs a r) ∧ wr = w) (fun av _ => (intOf av).toNat)
  case atStart => exact ⟨a, rfl, ha, HT, rfl⟩
  case round =>
    obtain ⟨a, rfl, ha, HT, rfl⟩ := hrel
    have a0 : (0 : Int) ≤ (a : Int) := by omega
    have a1 : (a : Int) < (N : Int) := by omega
    have c1 := HC.out.1 a ha
    cases HT.out with
    | root h =>
      rw [h] at c1
      go_wp2_with fail
      go_ret
      exact ⟨rfl, rfl⟩
    | @step _ b _ h hne h2 =>
      rw [h] at c1
      have hlt := par_lt HC.out.2 ha h
      have hb : b < N := by omega
      have hneq : ¬ ((b : Int) = (a : Int)) := by omega
      have H2 := Lib.hid h2
      clear h h2 HT
      go_wp2_with fail
      go_roundw
      case rel => exact ⟨b, rfl, hb, H2, by first | rfl | trivial⟩
      case measure => simp [intOf]; omega
theorem TopOf_any (a : Option Addr) (c N x r : Nat) (xs : List Int) (w : World) (hp : Par N xs) (hx : x < N) (hr : top xs x = r) (hc : Reads w a xs) :
    Calls Tryd.prog 16 #[.slice a N c, .int .i64 (x : Nat)] w fun e w' => e = .returned (.int .i64 (r : Nat)) ∧ Below w.heap.size w w' := by
  obtain ⟨g, o, rfl, hc2⟩ := reads_all hc (by rw [hp.1]; omega)
  refine (TopOf_cells g o c N x r xs w hp hx (by rw [← hr]; exact top_spec hp hx) (by rw [← hp.1]; exact hc2)).mono ?_
  rintro e w' ⟨rfl, rfl⟩
  exact ⟨rfl, Below.refl _ _⟩

set_option maxHeartbeats 2000000 in
theorem Find_none (w : World) (b : Nat) (v x c : Int)
    (hV : Calls Tryd.prog 28 #[.pointer (some ⟨b, 0, none⟩), .int .i64 v, .slice (some ⟨w.heap.size, 0, none⟩) 1 1] (w.alloc (.cells #[.int .i64 x] 3)) (RetVer (w.alloc (.cells #[.int .i64 x] 3)) (noVer c))) :
    Calls Tryd.prog 17 #[.pointer (some ⟨b, 0, none⟩), .int .i64 v, .int .i64 x] w (RetErr (.int .i64 0) c w) := by
  have HV := Lib.hid hV
  clear hV
  go_enter Tryd.func17, Tryd.ntmps17
  go_wp2_with fail
  refine HV.out.mono ?_
  rintro e w1 ⟨rfl, hb1⟩
  have Hb1 := Lib.hid (belowTrans (belowAlloc w _) hb1)
  clear hb1
  unfold noVer
  go_wp2_with fail
  go_ret2
  exact ⟨rfl, belowTrans Hb1.out (belowAlloc _ _)⟩
theorem Find_out (B : Nat) (w : World) (b N : Nat) (vs : List Ver) (h : FS B w b N vs) (v x : Int) (hv : v < 0 ∨ (vs.length : Int) ≤ v) :
    Calls Tryd.prog 17 #[.pointer (some ⟨b, 0, none⟩), .int .i64 v, .int .i64 x] w (RetErr (.int .i64 0) 2 w) :=
  Find_none w b v x 2 (version_out B _ b N vs (h.up (belowAlloc _ _)) v _ hv)
theorem Find_bad (B : Nat) (w : World) (b N : Nat) (vs : List Ver) (h : FS B w b N vs) (k : Nat) (hk : k < vs.length) (x : Int) (hx : x < 0 ∨ (N : Int) ≤ x) :
    Calls Tryd.prog 17 #[.pointer (some ⟨b, 0, none⟩), .int .i64 (k : Nat), .int .i64 x] w (RetErr (.int .i64 0) 1 w) :=
  Find_none w b _ x 1 (version_bad B _ b N vs (h.up (belowAlloc _ _)) k hk _ 1 1 0 [x] (reads_one w x) rfl (by omega) (by omega) hx fun i hi => by omega)

theorem Len_fs (B : Nat) (w : World) (b N : Nat) (vs : List Ver) (h : FS B w b N vs) :
    Calls Tryd.prog 20 #[.pointer (some ⟨b, 0, none⟩)] w fun e w' => e = .returned (.int .i64 (vs.length : Nat)) ∧ w = w' := by
  obtain ⟨a, c, hb⟩ := h.form
  have k0 := two_c1 hb
  clear h hb
  go_enter Tryd.func20, Tryd.ntmps20
  go_wp2_with fail
  go_ret
  exact ⟨rfl, rfl⟩

/-- the versions, and the reference's rows -/
structure FR (w : World) (B b N : Nat) (vs : List Ver) (av : Value) (W : World) : Prop where
  s : FS B W b N vs
  r : AllR W w.heap.size N (vs.map fun v => elems v.2) av
  b : Below w.heap.size w W
  lo : w.heap.size ≤ B
  bz : B ≤ W.heap.size
theorem FR.up {w : World} {B b N : Nat} {vs : List Ver} {av : Value} {W W' : World} (h : FR w B b N vs av W) (hb : Below W.heap.size W W') : FR w B b N vs av W' := ⟨h.s.up hb, h.r.up hb, h.b.trans (hb.mono h.b.size), h.lo, Nat.le_trans h.bz hb.size⟩
theorem FR.form {w : World} {B b N : Nat} {vs : List Ver} {av : Value} {W : World} (h : FR w B b N vs av W) : ∃ a cap, av = .slice a vs.length cap := by
  obtain ⟨a, cap, e⟩ := h.r.form
  exact ⟨a, cap, by rw [e, List.length_map]⟩
/-- a version's row -/
theorem FR.at {w : World} {B b N : Nat} {vs : List Ver} {av : Value} {W : World} (h : FR w B b N vs av W) {k : Nat} {p : Option Addr} {ts : List (BT Int)} (hk : vs[k]? = some (p, ts)) :
    ∃ g cap a c, av = .slice (some ⟨g, 0, none⟩) vs.length cap ∧ W.cell? ⟨g, k, none⟩ = some (.slice a N c) ∧ OwnI 3 W w.heap.size (.slice a N c) (elems ts) := by
  obtain ⟨g, cap, a, c, h1, h2, h3⟩ := h.r.at (k := k) (by rw [List.length_map]; exact (List.getElem?_eq_some_iff.1 hk).1)
  rw [vers.getD_map vs k p ts hk] at h3
  rw [List.length_map] at h1
  exact ⟨g, cap, a, c, h1, h2, h3⟩
theorem FR.par {w : World} {B b N : Nat} {vs : List Ver} {av : Value} {W : World} (h : FR w B b N vs av W) {k : Nat} {p : Option Addr} {ts : List (BT Int)} (hk : vs[k]? = some (p, ts)) : Par N (elems ts) := h.s.par _ (List.mem_of_getElem? hk)
theorem FR.app {w : World} {B b N : Nat} {vs : List Ver} {av : Value} {W : World} {p : Option Addr} {us : List (BT Int)} {a : Option Addr} {c : Nat} (hs : FS B W b N (vs ++ [(p, us)])) (hr : AllR W w.heap.size N (vs.map fun v => elems v.2) av) (hb : Below w.heap.size w W) (hlo : w.heap.size ≤ B) (hbz : B ≤ W.heap.size)
    (hx : OwnI 3 W w.heap.size (.slice a N c) (elems us)) : ∃ cs, W.ownsRow w.heap.size 22 1 av vs.length cs ∧ ∀ av' W', W.grownBy W' av.ownBlock → W'.ownsRow w.heap.size 22 1 av' (vs.length + 1) (cs ++ [.slice a N c]) → FR w B b N (vs ++ [(p, us)]) av' W' := by
  obtain ⟨cs, ho, hc⟩ := hr
  rw [List.length_map] at ho
  refine ⟨cs, ho, fun av' W' hg ho' => ?_⟩
  have hk := vers.keepGrown ho hg
  refine ⟨hs.keep hk (by decide) (by decide) (by decide) (by decide), ?_, Below.grown hb hg hb.size fun k e => (World.ownsRow.lt ho k e).1, hlo, Nat.le_trans hbz hg.size⟩
  rw [List.map_append]
  refine AllR.app hc (by rw [List.length_map]; simpa using ho.1) hx hk ?_
  rw [List.length_map]
  exact ho'
theorem allR_first {w : World} {B N G : Nat} {a : Option Addr} {c : Nat} {xs : List Int} (hG : B ≤ G) (h : w.heap[G]? = some (.cells #[.slice a N c] 22 (0, 0))) (ho : OwnI 3 w B (.slice a N c) xs) :
    AllR w B N [xs] (.slice (some ⟨G, 0, none⟩) 1 1) := by
  refine ⟨[.slice a N c], vers.own_new hG h rfl, fun j hj => ?_⟩
  obtain rfl : j = 0 := by simpa using hj
  exact ⟨_, _, rfl, ho⟩
/-- Put as the law calls it -/
theorem Put_join (a : Option Addr) (c N x y : Nat) (l : List Int) (w : World) (hl : l.length = N) (hN : N ≤ 5000) (hx : x < N) (hy : y < N) (hr : Reads w a l) :
    Calls Tryd.prog 10 #[.slice a N c, .int .i64 (max (x : Int) (y : Int)), .int .i64 (min (x : Int) (y : Int))] w fun e w' => ∃ a' c', e = .returned (.slice a' N c') ∧ OwnI 3 w' w.heap.size (.slice a' N c') (join l x y) ∧ Below w.heap.size w w' := by
  have h := put_any a c N (max x y) l (min (x : Int) (y : Int)) w hl (by omega) (by omega) hr
  rw [show ((max x y : Nat) : Int) = max (x : Int) (y : Int) by omega] at h
  rw [show min (x : Int) (y : Int) = ((min x y : Nat) : Int) by omega] at h ⊢
  exact h
end Go.Proofs.YthlcjhkelcfnoaaDoor.find
