/- lis.Longest of 1, 2: two places. -/
import Derived.Test.YtcjhbpnmkahkeaaLisL
namespace Go.Proofs.Ytcjhbpnmkahkeaa.lis
open Go.RowKit Go Go.Shelf

def Out (w1 : World) (t : Nat) (v : Value) (wr : World) : Prop := ∃ ys : List Int, ys.length = t ∧ OwnI 3 wr w1.heap.size v ys ∧ Below w1.heap.size w1 wr
theorem Out.app {w1 wr w2 : World} {t : Nat} {v v' : Value} {x : Int} {ys : List Int} {o : Obj} (hy : ys.length = t) (ho : OwnI 3 wr w1.heap.size v ys) (hb : Below w1.heap.size w1 wr) (h : w2.ownsRow w1.heap.size 3 1 v' (ys.length + 1) (ys.map (Value.int .i64) ++ [.int .i64 x])) (hg : (wr.alloc o).grownBy w2 v.ownBlock) : Out w1 (t + 1) v' w2 := by
  refine ⟨ys ++ [x], by simp [hy], ?_, ?_⟩
  · unfold OwnI
    rw [List.length_append, List.length_singleton, List.map_append]
    exact h
  · exact Below.grown (hb.trans ((belowAlloc wr o).mono hb.size)) hg (Nat.le_trans hb.size (belowAlloc wr o).size) (fun b hb => (ho.block b hb).1)
set_option maxHeartbeats 4000000 in
set_option maxRecDepth 100000 in
theorem longest_two (b c : Nat) (w : World) (hr : Reads w (some ⟨b, 0, none⟩) [1, 2]) :
    Calls Try.prog 50 #[.slice (some ⟨b, 0, none⟩) 2 c] w fun e w' => (∃ a c', e = .returned (.slice a 2 c')) ∧ Below w.heap.size w w' := by
  obtain ⟨i0, hi, hz0, hz1, hz2⟩ := info_parts infoInt
  have hd := dealt_any (some ⟨b, 0, none⟩) c [1, 2] w (by decide) hr (fun h => by cases h)
  clear hr
  have HDD := Lib.hid hd
  clear hd
  go_enter Try.func50, Try.ntmps50
  go_wp2_with fail
  refine HDD.out.mono ?_
  rintro e w1 ⟨v, vb, cs, rfl, hrow, hap, hb⟩
  have e1 : piles [1, 2] ([1, 2] : List Int).length = [[0], [1]] := piles_two
  have e2 : backs [1, 2] ([1, 2] : List Int).length = [-1, 0] := backs_two
  rw [e1] at hrow hap
  rw [e2] at hap
  have hrow' : w1.ownsRow w.heap.size 22 1 v 2 cs := hrow
  obtain ⟨gp, cp, rfl, hg1, hg2⟩ := hrow'.form (by omega)
  have ho0 : OwnI 3 w1 w.heap.size vb [-1, 0] := hap.own 0 (by decide)
  have ho2 : OwnI 3 w1 w.heap.size (cs.getD 1 nilS) [1] := hap.own 2 (by decide)
  obtain ⟨a0, c0, rfl, _, hr0, hf0⟩ := ho0.form
  obtain ⟨a2, c2, hcs, _, hr2, hf2⟩ := ho2.form
  have hcl : cs.length = 2 := by have := hrow'.1; omega
  have k1 : w1.cell? ⟨gp, 1, none⟩ = some (.slice a2 1 c2) := by
    rw [World.ownsRow.cellAt hrow' 1 (by omega)]
    rw [List.getD_eq_getElem?_getD, List.getElem?_eq_getElem (by omega)] at hcs
    rw [List.getElem?_eq_getElem (by omega)]
    exact congrArg some hcs
  rcases hr0 with h | ⟨b0, o0, rfl, hr0⟩
  · cases h
  rcases hr2 with h | ⟨b2, o2, rfl, hr2⟩
  · cases h
  have k2 := hr2 0 (by decide)
  have k3 := hr0 0 (by decide)
  have k4 := hr0 1 (by decide)
  rw [Nat.add_zero] at k2 k3
  have k2' : w1.cell? ⟨b2, o2, none⟩ = some (.int .i64 1) := k2
  have k3' : w1.cell? ⟨b0, o0, none⟩ = some (.int .i64 (-1)) := k3
  have k4' : w1.cell? ⟨b0, o0 + 1, none⟩ = some (.int .i64 0) := k4
  have hb0 := World.block_lt_of_cell? w1 _ k3'
  have Hb := Lib.hid hb
  have K3 := Lib.hid k3'
  have K4 := Lib.hid k4'
  clear hcs hr0 hr2 k2 k3 k4 ho0 ho2 hrow hrow' hap hf0 hf2 hb e1 e2 HDD hcl k3' k4'
  go_wp2_with fail
  go_loopw [5, 6] (fun s5 s6 wr => ∃ vo, vo = s5 ∧ (s6 = .int .i64 1 ∧ Hid (Out w1 0 vo wr) ∨ s6 = .int .i64 0 ∧ Hid (Out w1 1 vo wr) ∨ s6 = .int .i64 (-1) ∧ Hid (Out w1 2 vo wr))) (fun _ s6 _ => (intOf s6 + 1).toNat)
  case atStart => exact ⟨_, rfl, .inl ⟨rfl, Lib.hid ⟨[], rfl, World.ownsRow_nil _ _ _ _, Below.refl _ _⟩⟩⟩
  case round =>
    obtain ⟨vo, rfl, h⟩ := hrel
    rcases h with ⟨rfl, H⟩ | ⟨rfl, H⟩ | ⟨rfl, H⟩
    · obtain ⟨ys, hy, ho, hbo⟩ := H.out
      have Hoa := Lib.hid (OwnI.up ho (belowAlloc wr (.cells #[.int .i64 1] 3)))
      have Ho := Lib.hid ho
      have Hy := Lib.hid hy
      have Hbo := Lib.hid hbo
      clear H ho hbo hy
      go_wp2_with (at_builtin; refine wpList_append_own _ rfl (.tmp 29) (.tmp 31) 22 rfl w1.heap.size 3 i0 (.int .i64 0) 1 8 Try.underlying22 hi hz0 hz1 hz2 rfl (by decide) vo ys.length (ys.map (Value.int .i64)) rfl Hoa.out ⟨wr.heap.size, 0, none⟩ 1 1 [.int .i64 _] rfl rfl (World.news_of_block (heap_alloc_new _ _)) (by simp [Value.oneCell']) (by rw [Hy.out]; decide) (by rw [Hy.out]; decide) (Nat.le_trans Hbo.out.size (belowAlloc _ _).size) ?_)
      intro v' w2 hown hgrow hnil
      have hout := Out.app Hy.out Ho.out Hbo.out hown hgrow
      have kk : w2.cell? ⟨b0, o0 + 1, none⟩ = some (.int .i64 0) := by
        rw [hout.choose_spec.2.2.cell (p := ⟨b0, o0 + 1, none⟩) hb0]
        exact K4.out
      have Hout := Lib.hid hout
      clear hown hgrow hnil hout
      go_wp2_with fail
      exact ⟨⟨_, rfl, .inr (.inl ⟨rfl, Hout⟩)⟩, by decide⟩
    · obtain ⟨ys, hy, ho, hbo⟩ := H.out
      have Hoa := Lib.hid (OwnI.up ho (belowAlloc wr (.cells #[.int .i64 0] 3)))
      have Ho := Lib.hid ho
      have Hy := Lib.hid hy
      have Hbo := Lib.hid hbo
      clear H ho hbo hy
      go_wp2_with (at_builtin; refine wpList_append_own _ rfl (.tmp 29) (.tmp 31) 22 rfl w1.heap.size 3 i0 (.int .i64 0) 1 8 Try.underlying22 hi hz0 hz1 hz2 rfl (by decide) vo ys.length (ys.map (Value.int .i64)) rfl Hoa.out ⟨wr.heap.size, 0, none⟩ 1 1 [.int .i64 _] rfl rfl (World.news_of_block (heap_alloc_new _ _)) (by simp [Value.oneCell']) (by rw [Hy.out]; decide) (by rw [Hy.out]; decide) (Nat.le_trans Hbo.out.size (belowAlloc _ _).size) ?_)
      intro v' w2 hown hgrow hnil
      have hout := Out.app Hy.out Ho.out Hbo.out hown hgrow
      have kk : w2.cell? ⟨b0, o0, none⟩ = some (.int .i64 (-1)) := by
        rw [hout.choose_spec.2.2.cell (p := ⟨b0, o0, none⟩) hb0]
        exact K3.out
      have Hout := Lib.hid hout
      clear hown hgrow hnil hout
      go_wp2_with fail
      exact ⟨⟨_, rfl, .inr (.inr ⟨rfl, Hout⟩)⟩, by decide⟩
    · obtain ⟨ys, hy, ho, hbo⟩ := H.out
      have ho' := ho
      unfold OwnI at ho'
      rw [hy] at ho'
      obtain ⟨g, cg, rfl, hg3, hg4⟩ := ho'.form (by omega)
      have hrev := revI.rev_some w1.heap.size wr g 2 cg ys hy (by omega) hg3 hbo.size ho'
      have Hbo := Lib.hid hbo
      clear H ho hbo hy ho'
      go_wp2_with fail
      refine hrev.mono ?_
      rintro e w3 ⟨rfl, hf⟩
      have Hf := Lib.hid hf
      clear hf hrev
      go_wp2_with fail
      go_ret
      exact ⟨⟨_, _, rfl⟩, Hb.out.trans ((Hbo.out.trans Hf.out.bel).mono Hb.out.size)⟩
end Go.Proofs.Ytcjhbpnmkahkeaa.lis
