/- A key is put into a node at the bottom, and into none. -/
import Derived.Test.YtenaddjnaeebbaaHamtO
namespace Go.Proofs.Ytenaddjnaeebbaa.hamt
open Go.RowKit

/-- what Put leaves -/
def RetPut (S : Nat → Prop) (d : Nat) (L : PL) (k v : Int) (w : World) (e : Ending) (w' : World) : Prop := ∃ b L', e = .returned (.pointer (some ⟨b, 0, none⟩)) ∧ HN (fun x => S x ∨ w.heap.size ≤ x) w' d b L' ∧ PutOf L k v L' ∧ Below w.heap.size w w'
theorem getD_mem {L : PL} {i : Nat} (h : i < L.length) : L.getD i (0, 0) ∈ L := by
  rw [List.getD_eq_getElem?_getD, List.getElem?_eq_getElem h]; exact List.getElem_mem _
set_option maxRecDepth 100000 in
set_option maxHeartbeats 4000000 in
theorem put_bot (S : Nat → Prop) (b : Nat) (L : PL) (k v : Int) (w : World) (h : HN S w 0 b L) (hn : L.length ≤ 8796093022000) :
    Calls Try.prog 29 #[.pointer (some ⟨b, 0, none⟩), .int .i64 k, .int .i64 v, .int .i64 35] w (RetPut S 0 L k v w) := by
  obtain ⟨hBb, hne, hdis, pv, hb, ho, hgS⟩ := h
  obtain ⟨ap, cp, hpv, hpn, hrd, hgp⟩ := ho.form
  subst hpv
  obtain ⟨n, hln⟩ : ∃ n, L.length = n := ⟨_, rfl⟩
  rw [hln] at hb hn ho
  obtain ⟨r, hr⟩ := idx_exists L k
  have hO0 := Out.new w #[.int .u32 0, .slice none 0 0, .slice ap n cp, .int .i64 (n : Nat)]
  have hb0 := belowAlloc w (.cells #[.int .u32 0, .slice none 0 0, .slice ap n cp, .int .i64 (n : Nat)] 62)
  have hb' : w.heap[b]? = some (.cells #[.int .u32 0, .slice none 0 0, .slice ap n cp, .int .i64 (n : Nat)] 62 (0, 0)) := hb
  have HC := Lib.hid (CloneP 0 n (.slice ap n cp) (cellsP L) _ (by rw [← hln] at ho ⊢; exact rowUp ho hb0) (cellsP_one L) (by omega))
  have HF := Lib.hid (fun W (hW : Below w.heap.size w W) => find_walk b 0 (.slice none 0 0) ap cp n L k W (upb hW hb) hln (by omega) (hrd.up hW) r hr)
  have k0 := node_c0 hb'
  have k1 := node_c1 hb'
  have k2 := node_c2 hb'
  have k3 := node_c3 hb'
  have k2b := upc hb0 k2
  have HO := Lib.hid hO0
  have HL := Lib.hid (And.intro hln (And.intro hdis hr))
  clear hb hb' ho hO0 hpn hrd hgp hne hln hdis hr hb0
  go_enter Try.func29, Try.ntmps29
  go_wp2_with fail
  refine HC.out.mono ?_
  rintro e w1 ⟨a1, c1, rfl, ho1, hb1⟩
  have hO1 := HO.out.up hb1
  have g2 := node_c2 hO1.blk
  have f2 := node_f (o := 2) hO1.blk
  have hP1 : OwnP (w1.setCell ⟨w.heap.size, 2, none⟩ (.slice a1 n c1)) w.heap.size (.slice a1 n c1) L := by
    have h := rowKeep (ownsRow_lower ho1 (HO.out.bel.size)) (hO1.keep 2 (.slice a1 n c1)) (by decide)
    rw [← HL.out.1] at h ⊢
    exact h
  have hO2 := hO1.set 2 (.slice a1 n c1)
  obtain ⟨w2, hw2⟩ : ∃ W, W = w1.setCell ⟨w.heap.size, 2, none⟩ (.slice a1 n c1) := ⟨_, rfl⟩
  rw [← hw2] at hP1 hO2
  have HO2 := Lib.hid (And.intro hO2 hP1)
  have HW2 := Lib.hid hw2
  clear ho1 hb1 hO1 hw2 HC HO k2b k0 k1 k2 k3 hO2 hP1
  go_wp2_with fail
  rw [← HW2.out]
  clear g2 f2
  refine (HF.out w2 HO2.out.1.bel).mono ?_
  rintro e w3 ⟨rfl, hb3⟩
  have hO3 := HO2.out.1.up hb3
  have hP3 := HO2.out.2.up hb3
  have g2 := node_c2 hO3.blk
  clear HW2 HO2 hb3 HF
  cases r with
  | some i =>
    obtain ⟨hi, hik, _⟩ := HL.out.2.2
    rw [HL.out.1] at hi
    have i0 : (0 : Int) ≤ (i : Int) := by omega
    have i1 : (i : Int) < (n : Int) := by omega
    obtain ⟨q, qo, hqa, z1, z2⟩ := hP3.reads.at (k := i) (by rw [HL.out.1]; exact hi)
    obtain ⟨a', c', he, _, _, hg'⟩ := hP3.form
    rw [HL.out.1] at he
    cases he
    obtain ⟨g, hgq, hgB, hgl⟩ := hg' _ hqa
    subst hqa
    obtain ⟨rfl, rfl⟩ : q = g ∧ qo = 0 := by cases hgq; exact ⟨rfl, rfl⟩
    rw [Nat.zero_add] at z2
    have hR3 : w3.ownsRow w.heap.size 31 2 (.slice (some ⟨q, 0, none⟩) n c1) n (cellsP L) := by have h := hP3; unfold OwnP at h; rwa [HL.out.1] at h
    have hst := World.ownsRow.stored (h := hR3) (i * 2 + 1) (.int .i64 v)
    have hfz : w3.frozen? ⟨q, i * 2 + 1, none⟩ = false := World.ownsRow.frozenAt hR3 _
    have hq : (q : Nat) ≠ w.heap.size := by
      rintro rfl
      obtain ⟨_, h | ⟨g, cap, cur, hv, _, hgc, _⟩⟩ := hR3
      · cases h.1
      · cases hv
        rw [hO3.blk] at hgc
        cases hgc
    have hO4 : Out w w.heap.size #[.int .u32 0, .slice none 0 0, .slice (some ⟨q, 0, none⟩) n c1, .int .i64 (n : Nat)] (w3.setCell ⟨q, i * 2 + 1, none⟩ (.int .i64 v)) := ⟨hO3.bel.setCell (p := ⟨q, i * 2 + 1, none⟩) hgB _, Nat.le_refl _, (Below.heap_setCell _ _ _ _ (Ne.symm hq)).trans hO3.blk⟩
    have hP4 : OwnP (w3.setCell ⟨q, i * 2 + 1, none⟩ (.int .i64 v)) w.heap.size (.slice (some ⟨q, 0, none⟩) n c1) (L.set i (k, v)) := by
      unfold OwnP
      rw [List.length_set, cellsP_set L i k v (by rw [HL.out.1]; exact hi) hik]
      rw [HL.out.1]
      exact hst.1
    obtain ⟨w4, hw4⟩ : ∃ W, W = w3.setCell ⟨q, i * 2 + 1, none⟩ (.int .i64 v) := ⟨_, rfl⟩
    rw [← hw4] at hO4 hP4
    have HW4 := Lib.hid hw4
    have g2b := node_c2 hO4.blk
    have g3b := node_c3 hO4.blk
    have f3b := node_f (o := 3) hO4.blk
    have hO5 := hO4.set 3 (.int .i64 (n : Nat))
    have hP5 : OwnP (w4.setCell ⟨w.heap.size, 3, none⟩ (.int .i64 (n : Nat))) w.heap.size (.slice (some ⟨q, 0, none⟩) n c1) (L.set i (k, v)) := hP4.keep (hO4.keep 3 (.int .i64 (n : Nat))) (by decide)
    have HF5 : Hid (RetPut S 0 L k v w (.returned (.pointer (some ⟨w.heap.size, 0, none⟩))) (w4.setCell ⟨w.heap.size, 3, none⟩ (.int .i64 (n : Nat)))) := by
      obtain ⟨hp1, hp2⟩ := putOf_set (v := v) HL.out.2.1 HL.out.2.2
      refine Lib.hid ⟨_, _, rfl, ⟨.inr (Nat.le_refl _), hp1.ne, hp2, .slice (some ⟨q, 0, none⟩) n c1, ?_, hP5.lower (Nat.zero_le _), fun g e => .inr (hP5.block g e).1⟩, hp1, hO5.bel⟩
      have h := hO5.blk
      rw [List.length_set, HL.out.1]
      exact h
    have g3 := node_c3 hO3.blk
    have f3 := node_f (o := 3) hO3.blk
    have hq2 : ¬ (w.heap.size = q) := Ne.symm hq
    clear hst hR3 hO3 hP3 hO4 hP4 hO5 hP5 hw4 hg' hgq hgB hgl hik g2b g3b f3b
    rw [show idxV (some i) = (i : Int) from rfl]
    go_wp2_with fail
    go_ret
    rw [← HW4.out]
    exact HF5.out
  | none =>
    rw [show idxV none = -1 from rfl]
    have hR3 : w3.ownsRow w.heap.size 31 2 (.slice a1 n c1) n (cellsP L) := by have h := hP3; unfold OwnP at h; rwa [HL.out.1] at h
    obtain ⟨i0, hi, hz0, hz1, hz2⟩ := info_parts infoP
    have Hi := Lib.hid (And.intro hi (And.intro hz0 (And.intro hz1 hz2)))
    have HR3 := Lib.hid (And.intro hO3 hR3)
    have hsz := hO3.bel.size
    clear hi hz0 hz1 hz2 hO3 hP3 hR3
    go_wp2_with (at_builtin; obtain ⟨hi, hz0, hz1, hz2⟩ := Hi.out; refine wpList_append_own _ rfl _ _ 28 rfl w.heap.size 31 i0 (.agg #[.int .i64 0, .int .i64 0]) 2 16 Try.underlying28 hi hz0 hz1 hz2 rfl (by decide) _ _ _ rfl (World.ownsRow.alloc HR3.out.2 _) ⟨w3.heap.size, 0, none⟩ 1 1 [.int .i64 k, .int .i64 v] rfl rfl ?c1 ?c2 ?c3 ?c4 ?c5 ?_)
    case c1 => exact World.news_of_block (cs := #[.int .i64 k, .int .i64 v]) (t := 31) (fr := (0, 0)) (heap_alloc_new _ _)
    case c2 => simp [Value.oneCell']
    case c3 => unfold maxLen; omega
    case c4 => omega
    case c5 => simp; omega
    intro v5 w5 hown hgrow _
    have hO5 := (HR3.out.1.up (belowAlloc w3 (.cells #[.int .i64 k, .int .i64 v] 31))).grown (rowUp HR3.out.2 (belowAlloc w3 _)) (by decide) hgrow
    obtain ⟨a5, c5, rfl⟩ := rowVal hown
    have g2b := node_c2 hO5.blk
    have f2b := node_f (o := 2) hO5.blk
    have hO6 := hO5.set 2 (.slice a5 (n + 1) c5)
    have hR6 := rowKeep hown (hO5.keep 2 (.slice a5 (n + 1) c5)) (by decide)
    obtain ⟨w6, hw6⟩ : ∃ W, W = w5.setCell ⟨w.heap.size, 2, none⟩ (.slice a5 (n + 1) c5) := ⟨_, rfl⟩
    rw [← hw6] at hO6 hR6
    have HW6 := Lib.hid hw6
    have g3b := node_c3 hO5.blk
    have f3b := node_f (o := 3) hO5.blk
    have hO7 := hO6.set 3 (.int .i64 ((n + 1 : Nat) : Int))
    have hR7 := rowKeep hR6 (hO6.keep 3 (.int .i64 ((n + 1 : Nat) : Int))) (by decide)
    have HF7 : Hid (RetPut S 0 L k v w (.returned (.pointer (some ⟨w.heap.size, 0, none⟩))) (w6.setCell ⟨w.heap.size, 3, none⟩ (.int .i64 ((n + 1 : Nat) : Int)))) := by
      have hp1 := putOf_app (v := v) HL.out.2.2
      have hll : (L ++ [(k, v)]).length = n + 1 := by rw [List.length_append, HL.out.1]; rfl
      refine Lib.hid ⟨_, L ++ [(k, v)], rfl, ⟨.inr (Nat.le_refl _), hp1.ne, dis_app HL.out.2.1 HL.out.2.2, .slice a5 (n + 1) c5, ?_, ?_, fun g e => .inr (World.ownsRow.lt hR7 g e).1⟩, hp1, hO7.bel⟩
      · have h := hO7.blk
        rw [hll]
        exact h
      · refine OwnP.lower (B := w.heap.size) ?_ (Nat.zero_le _)
        unfold OwnP
        rw [hll, cellsP_append]
        exact hR7
    clear hown hgrow hO5 hO6 hR6 hO7 hR7 hw6 HR3 g2
    go_wp2_with fail
    go_ret
    rw [← HW6.out]
    exact HF7.out
end Go.Proofs.Ytenaddjnaeebbaa.hamt
