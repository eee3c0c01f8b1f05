/- A key is dropped: what is left; at the bottom. -/
import Derived.Test.YtenaddjnaeebbaaHamtNil2
namespace Go.Proofs.Ytenaddjnaeebbaa.hamt
open Go.RowKit

theorem mask_not {ks : List Kid} {m y : Nat} (hy : y < 32) (hm : MaskOf m ks) {pre mid post : List Kid} (hs : Split ks y pre mid post) : MaskOf (m &&& (4294967295 - 2 ^ y)) (pre ++ [] ++ post) := by
  refine hm.drop hs (Nat.lt_of_le_of_lt Nat.and_le_left hm.lt) fun i => ?_
  have h : (4294967295 - 2 ^ y).testBit i = (decide (i < 32) && !(2 ^ y).testBit i) := by
    have hp : 2 ^ y < 2 ^ 32 := Nat.pow_lt_pow_right (by decide) hy
    rw [show 4294967295 - 2 ^ y = 2 ^ 32 - (2 ^ y + 1) by omega]
    exact Nat.testBit_two_pow_sub_succ hp i
  rw [Nat.testBit_and, h, Nat.testBit_two_pow]
  by_cases hi : i < 32
  · by_cases e : i = y
    · subst e; simp
    · simp [hi, e, Ne.symm e]
  · have : m.testBit i = false := Nat.testBit_lt_two_pow (Nat.lt_of_lt_of_le hm.lt (Nat.pow_le_pow_right (by decide) (by omega)))
    rw [this]; simp
/-- a node, or none -/
def HQ (S : Nat → Prop) (w : World) (d : Nat) (p : Option Addr) (L : PL) : Prop := (p = none ∧ L = []) ∨ ∃ b, p = some ⟨b, 0, none⟩ ∧ HN S w d b L
theorem HQ.up {S : Nat → Prop} {w w' : World} {d : Nat} {p : Option Addr} {L : PL} (h : HQ S w d p L) (hb : Below w.heap.size w w') : HQ S w' d p L := by
  rcases h with h | ⟨b, e, h⟩
  · exact .inl h
  · exact .inr ⟨b, e, h.up hb⟩
theorem HQ.mono {S S' : Nat → Prop} (hs : ∀ x, S x → S' x) {w : World} {d : Nat} {p : Option Addr} {L : PL} (h : HQ S w d p L) : HQ S' w d p L := by
  rcases h with h | ⟨b, e, h⟩
  · exact .inl h
  · exact .inr ⟨b, e, h.mono hs⟩
def RetDrop (S : Nat → Prop) (d : Nat) (L : PL) (k : Int) (w : World) (e : Ending) (w' : World) : Prop := ∃ p L', e = .returned (.pointer p) ∧ HQ (fun x => S x ∨ w.heap.size ≤ x) w' d p L' ∧ DropOf L k L' ∧ Dis L' ∧ Below w.heap.size w w'
set_option maxHeartbeats 1000000 in
theorem size_walk (S : Nat → Prop) (w : World) (d : Nat) (p : Option Addr) (L : PL) (h : HQ S w d p L) :
    Calls Try.prog 30 #[.pointer p] w fun e w' => e = .returned (.int .i64 (L.length : Nat)) ∧ w = w' := by
  rcases h with ⟨rfl, rfl⟩ | ⟨b, rfl, h⟩
  · go_enter Try.func30, Try.ntmps30
    go_wp2_with fail
    go_ret
    exact ⟨rfl, rfl⟩
  · obtain ⟨m, kv, pv, hc⟩ := h.cells
    have k3 := node_c3 hc
    clear hc h
    go_enter Try.func30, Try.ntmps30
    go_wp2_with fail
    go_ret
    exact ⟨rfl, rfl⟩
theorem idx_lk {L : PL} {k : Int} (h : Idx L k none) : lkI L k = none := lkI_none (idx_none h)
set_option maxRecDepth 100000 in
set_option maxHeartbeats 4000000 in
theorem drop_bot (S : Nat → Prop) (b : Nat) (L : PL) (k : Int) (w : World) (h : HN S w 0 b L) (hn : L.length ≤ 8796093022000) :
    Calls Try.prog 40 #[.pointer (some ⟨b, 0, none⟩), .int .i64 k, .int .i64 35] w (RetDrop S 0 L k w) := by
  have HH := Lib.hid h
  obtain ⟨hBb, hne, hdis, pv, hb, ho, hgS⟩ := h
  obtain ⟨ap, cp, hpv, hpn, hrd, hgp⟩ := ho.form
  subst hpv
  obtain ⟨n, hln⟩ : ∃ n, L.length = n := ⟨_, rfl⟩
  rw [hln] at hb hn ho
  have hn0 : 0 < n := by rw [← hln]; exact List.length_pos_iff.2 hne
  obtain ⟨r, hr⟩ := idx_exists L k
  have hO0 := Out.new w #[.int .u32 0, .slice none 0 0, .slice ap n cp, .int .i64 (n : Nat)]
  have hb0 := belowAlloc w (.cells #[.int .u32 0, .slice none 0 0, .slice ap n cp, .int .i64 (n : Nat)] 62)
  have hb' : w.heap[b]? = some (.cells #[.int .u32 0, .slice none 0 0, .slice ap n cp, .int .i64 (n : Nat)] 62 (0, 0)) := hb
  have HF := Lib.hid (fun W (hW : Below w.heap.size w W) => find_walk b 0 (.slice none 0 0) ap cp n L k W (upb hW hb) hln (by omega) (hrd.up hW) r hr)
  have HC := Lib.hid (fun W (hW : Below w.heap.size w W) => CloneP 0 n (.slice ap n cp) (cellsP L) W (by rw [← hln] at ho ⊢; exact rowUp ho hW) (cellsP_one L) (by omega))
  have k0 := node_c0 hb'
  have k1 := node_c1 hb'
  have k2 := node_c2 hb'
  have k3 := node_c3 hb'
  have HO := Lib.hid hO0
  have HL := Lib.hid (And.intro hln (And.intro hdis (And.intro hr hb')))
  clear hb hb' ho hO0 hpn hrd hgp hne hln hdis hr hgS
  go_enter Try.func40, Try.ntmps40
  go_wp2_with fail
  refine (HF.out _ hb0).mono ?_
  rintro e w1 ⟨rfl, hb1⟩
  have hO1 := HO.out.up hb1
  have HO1 := Lib.hid hO1
  clear HO hb1 hb0 k0 k1 k2 k3
  cases r with
  | none =>
    rw [show idxV none = -1 from rfl]
    have HF1 : Hid (RetDrop S 0 L k w (.returned (.pointer (some ⟨b, 0, none⟩))) w1) := Lib.hid ⟨_, L, rfl, .inr ⟨b, rfl, (HH.out.up hO1.bel).mono fun x hx => .inl hx⟩, dropOf_none (idx_lk HL.out.2.2.1), HL.out.2.1, hO1.bel⟩
    clear hO1
    go_wp2_with fail
    go_ret
    exact HF1.out
  | some i =>
    have hi : i < n := by have h := HL.out.2.2.1.1; rw [HL.out.1] at h; exact h
    have i0 : (0 : Int) ≤ (i : Int) := by omega
    have hwi : IntKind.i64.wrap ((i : Int) + 1) = (i : Int) + 1 := IntWalk.i64_in _ (by omega)
    have k2 := node_c2 (upb hO1.bel HL.out.2.2.2)
    rw [show idxV (some i) = (i : Int) from rfl]
    clear hO1
    go_wp2_with fail
    refine (HC.out w1 HO1.out.bel).mono ?_
    rintro e w2 ⟨a2, c2, rfl, ho2, hb2⟩
    obtain ⟨R, hR⟩ : ∃ g, a2 = some ⟨g, 0, none⟩ := by
      rcases ho2.2 with ⟨_, h0⟩ | ⟨g, cap, cur, hv, _⟩
      · omega
      · cases hv; exact ⟨g, rfl⟩
    subst hR
    have hR2 := ownsRow_lower ho2 HO1.out.bel.size
    have HD := Lib.hid (DeleteP w.heap.size n i (i + 1) R c2 (cellsP L) w2 hR2 (cellsP_one L) (by omega) hi rfl)
    have HO2 := Lib.hid (And.intro (HO1.out.up hb2) hR2)
    clear ho2 hb2 hR2 HC k2 HO1 HF
    go_wp2_with fail
    refine HD.out.mono ?_
    rintro e w3 ⟨rfl, ho3, hg3⟩
    have hO3 := HO2.out.1.grown HO2.out.2 (by decide) hg3
    have hcut := dropOf_cut HL.out.2.1 HL.out.2.2.1
    have hO4 := hO3.set 2 (.slice (some ⟨R, 0, none⟩) (n - 1) c2)
    have hR4 := rowKeep ho3 (hO3.keep 2 (.slice (some ⟨R, 0, none⟩) (n - 1) c2)) (by decide)
    obtain ⟨n1, hn1⟩ : ∃ q, q = n - 1 := ⟨_, rfl⟩
    have hw1 : IntKind.i64.wrap ((n : Int) - 1) = (n1 : Int) := by rw [IntKind.wrap_i64]; omega
    rw [← hn1] at hO4 hR4 ⊢
    have hO5 := hO4.set 3 (.int .i64 (n1 : Nat))
    have hR5 := rowKeep hR4 (hO4.keep 3 (.int .i64 (n1 : Nat))) (by decide)
    obtain ⟨W, hW⟩ : ∃ W, W = (w3.setCell ⟨w.heap.size, 2, none⟩ (.slice (some ⟨R, 0, none⟩) n1 c2)).setCell ⟨w.heap.size, 3, none⟩ (.int .i64 (n1 : Nat)) := ⟨_, rfl⟩
    rw [← hW] at hO5 hR5
    have hll : (L.take i ++ L.drop (i + 1)).length = n1 := by have h := hcut.2.2; rw [HL.out.1] at h; omega
    have hce : (cellsP L).take (i * 2) ++ (cellsP L).drop ((i + 1) * 2) = cellsP (L.take i ++ L.drop (i + 1)) := by rw [cellsP_append, cellsP_take, cellsP_drop]
    rw [hce] at hR5
    have g2 := node_c2 hO3.blk
    have g3 := node_c3 hO3.blk
    have f2 := node_f (o := 2) hO3.blk
    have f3 := node_f (o := 3) hO3.blk
    by_cases h1 : n1 = 0
    · have HF5 : Hid (RetDrop S 0 L k w (.returned (.pointer none)) W) := Lib.hid ⟨none, _, rfl, .inl ⟨rfl, List.eq_nil_of_length_eq_zero (by rw [hll]; exact h1)⟩, hcut.1, hcut.2.1, hO5.bel⟩
      have hz : ((n1 : Nat) : Int) = 0 := by omega
      clear hO3 hO4 hR4 hO5 hR5 hcut ho3 hg3 hll hce hn1 h1
      go_wp2_with fail
      go_ret
      have hF := HF5.out
      rw [hW, hz] at hF
      exact hF
    · have HF5 : Hid (RetDrop S 0 L k w (.returned (.pointer (some ⟨w.heap.size, 0, none⟩))) W) := by
        refine Lib.hid ⟨_, _, rfl, .inr ⟨_, rfl, .inr (Nat.le_refl _), ?_, hcut.2.1, .slice (some ⟨R, 0, none⟩) n1 c2, ?_, ?_, fun g e => .inr (World.ownsRow.lt hR5 g e).1⟩, hcut.1, hcut.2.1, hO5.bel⟩
        · intro e; rw [e] at hll; exact h1 hll.symm
        · rw [hll]; exact hO5.blk
        · refine OwnP.lower (B := w.heap.size) ?_ (Nat.zero_le _)
          unfold OwnP
          rw [hll]
          exact hR5
      have hz : ¬ (((n1 : Nat) : Int) = 0) := by omega
      clear hO3 hO4 hR4 hO5 hR5 hcut ho3 hg3 hll hce hn1 h1
      go_wp2_with fail
      go_ret
      have hF := HF5.out
      rw [hW] at hF
      exact hF
end Go.Proofs.Ytenaddjnaeebbaa.hamt
