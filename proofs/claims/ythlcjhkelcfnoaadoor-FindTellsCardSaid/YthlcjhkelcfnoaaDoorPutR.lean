/- The reference's Put: a copy of a list with one number changed. -/
import Derived.Test.YthlcjhkelcfnoaaDoorCat
import Derived.Laws.OwnMore
namespace Go.Proofs.YthlcjhkelcfnoaaDoor
open Go.RowKit
theorem set_map (xs : List Int) (i : Nat) (x : Int) : (xs.map (Value.int .i64)).set i (.int .i64 x) = (xs.set i x).map (Value.int .i64) := by rw [List.map_set]
set_option maxHeartbeats 2000000 in
theorem put_any (a : Option Addr) (c n i : Nat) (l : List Int) (x : Int) (w : World) (hl : l.length = n) (hn : n ≤ 17592186043000) (hi : i < n) (hr : Reads w a l) :
    Calls Tryd.prog 10 #[.slice a n c, .int .i64 (i : Nat), .int .i64 x] w fun e w' => ∃ a' c', e = .returned (.slice a' n c') ∧ OwnI 3 w' w.heap.size (.slice a' n c') (l.set i x) ∧ Below w.heap.size w w' := by
  subst hl
  have hc : a = none → c = 0 := by
    intro h
    rcases hr with h1 | ⟨b, o, h1, _⟩
    · rw [h1] at hi; simp at hi
    · rw [h] at h1; cases h1
  have HC := Lib.hid (cat_any a c l w (by omega) hr hc)
  clear hr hc
  have i0 : (0 : Int) ≤ (i : Int) := by omega
  have i1 : (i : Int) < (l.length : Int) := by omega
  go_enter Tryd.func10, Tryd.ntmps10
  go_wp2_with fail
  refine HC.out.mono ?_
  rintro e w1 ⟨a1, c1, rfl, ho, hb⟩
  obtain ⟨a2, c2, e2, -, hrd, hg⟩ := ho.form
  cases e2
  have hz : ∃ g, a1 = some ⟨g, 0, none⟩ := by
    rcases hrd with h1 | ⟨b, o, h1, _⟩
    · rw [h1] at hi; simp at hi
    · obtain ⟨g, hg1, -⟩ := hg _ h1
      exact ⟨g, by rw [h1, hg1]⟩
  obtain ⟨g, rfl⟩ := hz
  have hs := World.ownsRow.stored (h := ho) i (.int .i64 x)
  have hcell : ∃ u, w1.cell? ⟨g, i, none⟩ = some u := by
    have h1 := World.ownsRow.cellAt ho i (by omega)
    exact ⟨_, by rw [h1, List.getElem?_map, List.getElem?_eq_getElem hi]; rfl⟩
  obtain ⟨u, hu⟩ := hcell
  have hf : w1.frozen? ⟨g, i, none⟩ = false := World.ownsRow.frozenAt ho i
  have hgb : w.heap.size ≤ g := (ho.block g rfl).1
  have HF : Hid (OwnI 3 (w1.setCell ⟨g, i, none⟩ (.int .i64 x)) w.heap.size (.slice (some ⟨g, 0, none⟩) l.length c1) (l.set i x) ∧ Below w.heap.size w (w1.setCell ⟨g, i, none⟩ (.int .i64 x))) := by
    refine Lib.hid ⟨?_, hb.setCell (show w.heap.size ≤ (⟨g, i, none⟩ : Addr).block from hgb) _⟩
    unfold OwnI
    rw [List.length_set, ← set_map]
    exact hs.1
  clear hs ho hb hrd hg hgb HC
  go_wp2_with fail
  go_ret
  exact ⟨_, _, rfl, HF.out.1, HF.out.2⟩
end Go.Proofs.YthlcjhkelcfnoaaDoor
