/- A key is put into no node. -/
import Derived.Test.YtenaddjnaeebbaaHamtPut
namespace Go.Proofs.Ytenaddjnaeebbaa.hamt
open Go.RowKit

def RetNew (d : Nat) (k v : Int) (w : World) (e : Ending) (w' : World) : Prop := ∃ b, e = .returned (.pointer (some ⟨b, 0, none⟩)) ∧ HN (fun x => w.heap.size ≤ x) w' d b [(k, v)] ∧ Below w.heap.size w w'
abbrev zeroN : Array Value := #[.int .u32 0, .slice none 0 0, .slice none 0 0, .int .i64 0]
theorem dis_one (p : Int × Int) : Dis [p] := List.pairwise_singleton _ _
theorem lk_one (k v j : Int) : lkI [(k, v)] j = if j = k then some v else lkI [] j := by
  simp only [lkI]
  by_cases e : j = k
  · simp [e]
  · rw [if_neg (Ne.symm e), if_neg e]
set_option maxRecDepth 100000 in
set_option maxHeartbeats 4000000 in
theorem nil_bot (k v : Int) (w0 : World) :
    Calls Try.prog 29 #[.pointer none, .int .i64 k, .int .i64 v, .int .i64 35] w0 (RetNew 0 k v w0) := by
  have hz := heap_alloc_new w0 (.cells zeroN 62)
  have hbz := belowAlloc w0 (.cells zeroN 62)
  have h0 : (w0.alloc (.cells zeroN 62)).heap.size = w0.heap.size + 1 := by simp
  have hbb : Below w0.heap.size w0 ((w0.alloc (.cells zeroN 62)).alloc (.cells zeroN 62)) := belowTrans hbz (belowAlloc _ _)
  have hO0 := Out.new (w0.alloc (.cells zeroN 62)) zeroN
  rw [h0] at hO0
  have hz2 := upb (belowAlloc (w0.alloc (.cells zeroN 62)) (.cells zeroN 62)) hz
  have HC := Lib.hid (CloneP 0 0 (.slice none 0 0) [] ((w0.alloc (.cells zeroN 62)).alloc (.cells zeroN 62)) (World.ownsRow_nil _ _ _ _) (fun u hu => by cases hu) (by omega))
  have HZ := Lib.hid (And.intro hz (And.intro hbz hz2))
  have k0 := node_c0 hz
  have k1 := node_c1 hz
  have k2 := node_c2 hz
  have k3 := node_c3 hz
  have k2b := node_c2 hz2
  have HO := Lib.hid hO0
  clear hz hbz h0 hO0 hz2 hbb
  go_enter Try.func29, Try.ntmps29
  go_wp2_with fail
  refine HC.out.mono ?_
  rintro e w1 ⟨a1, c1, rfl, ho1, hb1⟩
  obtain ⟨wz, hwz⟩ : ∃ W, W = w0.alloc (.cells zeroN 62) := ⟨_, rfl⟩
  rw [← hwz] at HZ HO ho1 hb1
  have hz1 := upb hb1 HZ.out.2.2
  have hO1 := HO.out.up hb1
  have g2 := node_c2 hO1.blk
  have f2 := node_f (o := 2) hO1.blk
  have hR1 := rowKeep (ownsRow_lower ho1 HO.out.bel.size) (hO1.keep 2 (.slice a1 0 c1)) (by decide)
  have hzz := hO1.keep 2 (.slice a1 0 c1)
  have hO2 := hO1.set 2 (.slice a1 0 c1)
  have hz2 : (w1.setCell ⟨w0.heap.size + 1, 2, none⟩ (.slice a1 0 c1)).heap[w0.heap.size]? = some (.cells zeroN 62 (0, 0)) := (Below.heap_setCell _ _ _ _ (by simp)).trans hz1
  obtain ⟨w2, hw2⟩ : ∃ W, W = w1.setCell ⟨w0.heap.size + 1, 2, none⟩ (.slice a1 0 c1) := ⟨_, rfl⟩
  rw [← hw2] at hR1 hO2 hz2
  have HF := Lib.hid (find_walk w0.heap.size 0 (.slice none 0 0) none 0 0 [] k w2 hz2 rfl (by omega) (.inl rfl) none (fun j hj => by simp at hj))
  have HO2 := Lib.hid (And.intro hO2 hR1)
  have HW2 := Lib.hid hw2
  have HBZ := Lib.hid HZ.out.2.1
  clear hz1 hO1 hR1 hzz hO2 hz2 hw2 ho1 hb1 HC HO k2b k0 k1 k2 k3 HZ hwz
  go_wp2_with fail
  rw [← HW2.out]
  clear g2 f2
  refine HF.out.mono ?_
  rintro e w3 ⟨rfl, hb3⟩
  rw [show idxV none = -1 from rfl]
  have hO3 := HO2.out.1.up hb3
  have hR3 := rowUp HO2.out.2 hb3
  have g2 := node_c2 hO3.blk
  clear HW2 HO2 hb3 HF
  obtain ⟨i0, hi, hz0, hz1, hz2⟩ := info_parts infoP
  have Hi := Lib.hid (And.intro hi (And.intro hz0 (And.intro hz1 hz2)))
  have HR3 := Lib.hid (And.intro hO3 hR3)
  have hsz := hO3.bel.size
  clear hi hz0 hz1 hz2 hO3 hR3
  go_wp2_with (at_builtin; obtain ⟨hi, hz0, hz1, hz2⟩ := Hi.out; refine wpList_append_own _ rfl _ _ 28 rfl wz.heap.size 31 i0 (.agg #[.int .i64 0, .int .i64 0]) 2 16 Try.underlying28 hi hz0 hz1 hz2 rfl (by decide) _ _ _ rfl (World.ownsRow.alloc HR3.out.2 _) ⟨w3.heap.size, 0, none⟩ 1 1 [.int .i64 k, .int .i64 v] rfl rfl ?c1 ?c2 ?c3 ?c4 ?c5 ?_)
  case c1 => exact World.news_of_block (cs := #[.int .i64 k, .int .i64 v]) (t := 31) (fr := (0, 0)) (heap_alloc_new _ _)
  case c2 => simp [Value.oneCell']
  case c3 => unfold maxLen; omega
  case c4 => omega
  case c5 => simp; omega
  intro v5 w5 hown hgrow _
  have hO5 := (HR3.out.1.up (belowAlloc w3 (.cells #[.int .i64 k, .int .i64 v] 31))).grown (rowUp HR3.out.2 (belowAlloc w3 _)) (by decide) hgrow
  obtain ⟨a5, c5, rfl⟩ := rowVal hown
  have g2b := node_c2 hO5.blk
  have f2b := node_f (o := 2) hO5.blk
  have hO6 := hO5.set 2 (.slice a5 1 c5)
  have hR6 := rowKeep hown (hO5.keep 2 (.slice a5 1 c5)) (by decide)
  obtain ⟨w6, hw6⟩ : ∃ W, W = w5.setCell ⟨w0.heap.size + 1, 2, none⟩ (.slice a5 1 c5) := ⟨_, rfl⟩
  rw [← hw6] at hO6
  have hR6' : w6.ownsRow wz.heap.size 31 2 (.slice a5 1 c5) 1 [.int .i64 k, .int .i64 v] := by rw [hw6]; simpa using hR6
  have HW6 := Lib.hid hw6
  have g3b := node_c3 hO5.blk
  have f3b := node_f (o := 3) hO5.blk
  have hO7 := hO6.set 3 (.int .i64 1)
  have hR7 := rowKeep hR6' (hO6.keep 3 (.int .i64 1)) (by decide)
  have hBz : w0.heap.size ≤ wz.heap.size := HBZ.out.size
  have HF7 : Hid (RetNew 0 k v w0 (.returned (.pointer (some ⟨w0.heap.size + 1, 0, none⟩))) (w6.setCell ⟨w0.heap.size + 1, 3, none⟩ (.int .i64 1))) := by
    refine Lib.hid ⟨_, rfl, ⟨Nat.le_trans hBz hO7.hG, by simp, dis_one _, .slice a5 1 c5, hO7.blk, OwnP.lower hR7 (Nat.zero_le _), fun g e => Nat.le_trans hBz (World.ownsRow.lt hR7 g e).1⟩, belowTrans HBZ.out hO7.bel⟩
  clear hown hgrow hO5 hO6 hR6 hR6' hO7 hR7 hw6 HR3 g2
  go_wp2_with fail
  go_ret
  rw [← HW6.out]
  exact HF7.out
end Go.Proofs.Ytenaddjnaeebbaa.hamt
