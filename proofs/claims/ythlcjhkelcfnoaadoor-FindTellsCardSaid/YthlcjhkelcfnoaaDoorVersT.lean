/- Rows of versions: the start, a round's facts. -/
import Derived.Test.YthlcjhkelcfnoaaDoorVers3
import Derived.Test.YthlcjhkelcfnoaaDoorErrIs
import Derived.Test.YthlcjhkelcfnoaaDoorAllR
import Derived.Test.YthlcjhkelcfnoaaDoorSame
import Derived.Test.YthlcjhkelcfnoaaDoorGrow4
namespace Go.Proofs.YthlcjhkelcfnoaaDoor.vers
open Go.RowKit
open ral (elems setS total WF)
theorem made_list (z : Value) (N : Nat) : (madeCells #[z] N).toList = List.replicate N z := by
  apply List.ext_getElem?
  intro i
  rw [Array.getElem?_toList]
  by_cases h : i < N
  · rw [made_at z N i h]; simp [h]
  · have h1 : (madeCells #[z] N).size = N := by simp [madeCells]
    rw [Array.getElem?_eq_none (by omega), List.getElem?_eq_none (by simp; omega)]
theorem ownI_made {w : World} {B N g : Nat} (hB : B ≤ g) (h : w.heap[g]? = some (.cells (madeCells #[.int .i64 0] N) 3 (0, 0))) (hN : N ≤ 5000) : OwnI 3 w B (.slice (some ⟨g, 0, none⟩) N N) (List.replicate N 0) := by
  have h1 : (madeCells #[Value.int .i64 0] N).size = N := by simp [madeCells]
  unfold OwnI
  rw [List.length_replicate, List.map_replicate]
  refine ⟨by simp, .inr ⟨g, N, _, rfl, hB, h, Nat.le_refl _, by unfold maxLen; omega, by omega, ?_⟩⟩
  rw [made_list, Nat.mul_one, List.take_of_length_le (by simp)]
theorem allR_start {w : World} {B N g G : Nat} (hB : B ≤ g) (hG : B ≤ G) (h : w.heap[g]? = some (.cells (madeCells #[.int .i64 0] N) 3 (0, 0))) (h2 : w.heap[G]? = some (.cells #[.slice (some ⟨g, 0, none⟩) N N] 22 (0, 0))) (hN : N ≤ 5000) :
    AllR w B N [List.replicate N 0] (.slice (some ⟨G, 0, none⟩) 1 1) := by
  refine ⟨[.slice (some ⟨g, 0, none⟩) N N], own_new hG h2 rfl, fun j hj => ?_⟩
  obtain rfl : j = 0 := by simpa using hj
  exact ⟨_, _, rfl, ownI_made hB h hN⟩
theorem keepGrown {E base n sz : Nat} {v : Value} {xs : List Value} {w w1 : World} (hown : w.ownsRow base E sz v n xs) (hg : w.grownBy w1 v.ownBlock) : KeepT [E] w w1 := by
  intro k c ty fz hk hn
  have hb := (Array.getElem?_eq_some_iff.1 hk).1
  refine (hg.block k hb ?_).trans hk
  intro e
  rcases hown.2 with ⟨rfl, _⟩ | ⟨g, cap, cur, rfl, _, hgc, _⟩
  · cases e
  · cases e
    rw [hgc] at hk
    cases hk
    simp at hn
theorem ownI_lower {E B B' : Nat} {v : Value} {xs : List Int} {w : World} (h : OwnI E w B v xs) (hb : B' ≤ B) : OwnI E w B' v xs := ownsRow_lower h hb
/-- the versions, and the reference's rows -/
structure VR (w : World) (B b N : Nat) (vs : List Ver) (av : Value) (W : World) : Prop where
  s : VS 53 B W b N vs
  r : AllR W w.heap.size N (vs.map fun v => elems v.2) av
  b : Below w.heap.size w W
  lo : w.heap.size ≤ B
  bz : B ≤ W.heap.size
theorem VR.up {w : World} {B b N : Nat} {vs : List Ver} {av : Value} {W W' : World} (h : VR w B b N vs av W) (hb : Below W.heap.size W W') : VR w B b N vs av W' := ⟨h.s.up hb, h.r.up hb, h.b.trans (hb.mono h.b.size), h.lo, Nat.le_trans h.bz hb.size⟩
theorem VR.form {w : World} {B b N : Nat} {vs : List Ver} {av : Value} {W : World} (h : VR w B b N vs av W) : ∃ a cap, av = .slice a vs.length cap := by
  obtain ⟨a, cap, e⟩ := h.r.form
  exact ⟨a, cap, by rw [e, List.length_map]⟩
theorem getD_map (vs : List Ver) (k : Nat) (p : Option Addr) (ts : List (BT Int)) (hk : vs[k]? = some (p, ts)) : (vs.map fun v => elems v.2).getD k [] = elems ts := by
  simp [List.getD_eq_getElem?_getD, hk]
/-- a version's row -/
theorem VR.at {w : World} {B b N : Nat} {vs : List Ver} {av : Value} {W : World} (h : VR w B b N vs av W) {k : Nat} {p : Option Addr} {ts : List (BT Int)} (hk : vs[k]? = some (p, ts)) :
    ∃ g cap a c, av = .slice (some ⟨g, 0, none⟩) vs.length cap ∧ W.cell? ⟨g, k, none⟩ = some (.slice a N c) ∧ OwnI 3 W w.heap.size (.slice a N c) (elems ts) := by
  obtain ⟨g, cap, a, c, h1, h2, h3⟩ := h.r.at (k := k) (by rw [List.length_map]; exact (List.getElem?_eq_some_iff.1 hk).1)
  rw [getD_map vs k p ts hk] at h3
  rw [List.length_map] at h1
  exact ⟨g, cap, a, c, h1, h2, h3⟩
/-- how many there are in a version -/
theorem VR.len {w : World} {B b N : Nat} {vs : List Ver} {av : Value} {W : World} (h : VR w B b N vs av W) {k : Nat} {p : Option Addr} {ts : List (BT Int)} (hk : vs[k]? = some (p, ts)) : (elems ts).length = N := by
  rw [ral.length_elems]; exact (h.s.sp _ (List.mem_of_getElem? hk)).2.2
theorem VR.app {w : World} {B b N : Nat} {vs : List Ver} {av : Value} {W : World} {p : Option Addr} {us : List (BT Int)} {a : Option Addr} {c : Nat} (hs : VS 53 B W b N (vs ++ [(p, us)])) (hr : AllR W w.heap.size N (vs.map fun v => elems v.2) av) (hb : Below w.heap.size w W) (hlo : w.heap.size ≤ B) (hbz : B ≤ W.heap.size)
    (hx : OwnI 3 W w.heap.size (.slice a N c) (elems us)) : ∃ cs, W.ownsRow w.heap.size 22 1 av vs.length cs ∧ ∀ av' W', W.grownBy W' av.ownBlock → W'.ownsRow w.heap.size 22 1 av' (vs.length + 1) (cs ++ [.slice a N c]) → VR w B b N (vs ++ [(p, us)]) av' W' := by
  obtain ⟨cs, ho, hc⟩ := hr
  rw [List.length_map] at ho
  refine ⟨cs, ho, fun av' W' hg ho' => ?_⟩
  have hk := keepGrown ho hg
  refine ⟨hs.keep hk (by decide) (by decide) (by decide) (by decide), ?_, Below.grown hb hg hb.size fun k e => (World.ownsRow.lt ho k e).1, hlo, Nat.le_trans hbz hg.size⟩
  rw [List.map_append]
  refine AllR.app hc (by rw [List.length_map]; simpa using ho.1) hx hk ?_
  rw [List.length_map]
  exact ho'
/-- what Put tells, and it in a box -/
def kPut (B N : Nat) (xs : List Int) : grow.Kept := ⟨fun v W => ∃ a c, v = .slice a N c ∧ OwnI 3 W B (.slice a N c) xs, fun _ _ _ hb ⟨a, c, e, h⟩ => ⟨a, c, e, h.up hb⟩⟩
def kOne (D B N : Nat) (xs : List Int) : grow.Kept := ⟨fun v W => ∃ a c g, v = .slice (some ⟨g, 0, none⟩) 1 1 ∧ D ≤ g ∧ W.heap[g]? = some (.cells #[.slice a N c] 22 (0, 0)) ∧ OwnI 3 W B (.slice a N c) xs, fun _ _ _ hb ⟨a, c, g, e, hg, h1, h2⟩ => ⟨a, c, g, e, hg, upb hb h1, h2.up hb⟩⟩
theorem reads_at {w : World} {a : Option Addr} {xs : List Int} (h : Reads w a xs) {k : Nat} (hk : k < xs.length) : ∃ b o, a = some ⟨b, o, none⟩ ∧ w.cell? ⟨b, o + k, none⟩ = some (.int .i64 (xs.getD k 0)) := by
  rcases h with h | ⟨b, o, ha, hc⟩
  · rw [h] at hk; simp at hk
  · exact ⟨b, o, ha, hc k hk⟩
end Go.Proofs.YthlcjhkelcfnoaaDoor.vers
