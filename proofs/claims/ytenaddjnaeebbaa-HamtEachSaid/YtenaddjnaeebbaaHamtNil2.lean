/- A key is put into no node, above the bottom. -/
import Derived.Test.YtenaddjnaeebbaaHamtNode
namespace Go.Proofs.Ytenaddjnaeebbaa.hamt
open Go.RowKit

theorem split_nil (y : Nat) : Split [] y [] [] [] := ⟨rfl, (fun _ h => by cases h), (fun _ h => by cases h), Nat.zero_le _, (fun _ h => by cases h)⟩
set_option maxRecDepth 100000 in
set_option maxHeartbeats 8000000 in
theorem nil_node (d u : Nat) (k v : Int) (w0 : World) (hu : u + 5 * (d + 1) = 35)
    (ihn : ∀ W, Calls Try.prog 29 #[.pointer none, .int .i64 k, .int .i64 v, .int .i64 ((u : Int) + 5)] W (RetNew d k v W)) :
    Calls Try.prog 29 #[.pointer none, .int .i64 k, .int .i64 v, .int .i64 (u : Nat)] w0 (RetNew (d + 1) k v w0) := by
  have hu5 : 35 - 5 * (d + 1) = u := by omega
  obtain ⟨y, hy⟩ : ∃ y, y = wy u k := ⟨_, rfl⟩
  have hyl : y < 32 := by rw [hy]; exact wy_lt u k
  obtain ⟨z, hz⟩ : ∃ z, z = 2 ^ y := ⟨_, rfl⟩
  have hzl := pow_lt y hyl
  rw [← hz] at hzl
  have hzn := heap_alloc_new w0 (.cells zeroN 62)
  have hbz := belowAlloc w0 (.cells zeroN 62)
  have h0 : (w0.alloc (.cells zeroN 62)).heap.size = w0.heap.size + 1 := by simp
  have hO0 := Out.new (w0.alloc (.cells zeroN 62)) zeroN
  rw [h0] at hO0
  have hz2 := upb (belowAlloc (w0.alloc (.cells zeroN 62)) (.cells zeroN 62)) hzn
  have HWay := Lib.hid (fun W => way_walk k u (by omega) W)
  have HSp := Lib.hid (spot_walk w0.heap.size 0 y (.slice none 0 0) (.slice none 0 0) 0 _ hz2 hyl (by decide))
  rw [Nat.zero_and, Nat.zero_testBit, show ones 0 = 0 from by decide, ← hz] at HSp
  rw [← hy, ← hz] at HWay
  have hu0 : (0 : Int) ≤ (u : Int) := by omega
  have hu1 : (u : Int) < 35 := by omega
  have hw5 : IntKind.i64.wrap ((u : Int) + 5) = (u : Int) + 5 := IntWalk.i64_in _ (by omega)
  have k0 := node_c0 hzn
  have k1 := node_c1 hzn
  have k2 := node_c2 hzn
  have k3 := node_c3 hzn
  have HO := Lib.hid hO0
  have HZ := Lib.hid (And.intro hbz hz2)
  have HI := Lib.hid (And.intro hy (And.intro hyl (And.intro hz hu5)))
  clear hzn hbz h0 hO0 hz2 hy hyl hz hu5
  go_enter Try.func29, Try.ntmps29
  go_wp2_with fail
  refine (HWay.out _).mono ?_
  rintro e w' ⟨rfl, rfl⟩
  go_wp2_with fail
  refine HSp.out.mono ?_
  rintro e w1 ⟨rfl, hb1⟩
  obtain ⟨w, hwz⟩ : ∃ W, W = w0.alloc (.cells zeroN 62) := ⟨_, rfl⟩
  have HW0 : Hid (w0.heap.size + 1 = w.heap.size) := Lib.hid (by rw [hwz]; simp)
  rw [← hwz] at HZ HO hb1
  have hO1 := Lib.hid (HO.out.up hb1)
  have k1 := node_c1 (upb hb1 HZ.out.2)
  have HBZ := Lib.hid HZ.out.1
  clear hb1 HO HSp HWay k0 k2 k3 HZ
  have HC := Lib.hid (CloneK 0 0 (.slice none 0 0) [] w1 (World.ownsRow_nil _ _ _ _) (fun u hu => by cases hu) (by omega))
  go_wp2_with fail
  refine HC.out.mono ?_
  rintro e w2 ⟨a2, c2, rfl, ho2, hb2⟩
  have hO2 := Lib.hid (hO1.out.up hb2)
  have HR2 := Lib.hid (And.intro ho2 hb2.size)
  clear ho2 hb2 HC k1
  go_wp2_with fail
  refine (ihn w2).mono ?_
  rintro e w3 ⟨b3, rfl, h3, hb3⟩
  have HN3 := Lib.hid h3
  have hO3 := Lib.hid (hO2.out.up hb3)
  have HR3 := Lib.hid (rowUp HR2.out.1 hb3)
  have HS3 := Lib.hid (And.intro hb3.size HR2.out.2)
  have HL3 := Lib.hid (World.ownsRow.lt HR2.out.1)
  clear h3 hb3 hO2 HR2
  have hb4 := belowAlloc w3 (.cells #[.pointer (some ⟨b3, 0, none⟩)] 23)
  have HIns := Lib.hid (Insert_any w1.heap.size 0 0 w3.heap.size (.slice a2 0 c2) (.pointer (some ⟨b3, 0, none⟩)) [] _ (rowUp HR3.out hb4) (Nat.le_trans (Nat.le_trans HS3.out.2 HS3.out.1) hb4.size) (Nat.le_refl _) (heap_alloc_new w3 _) (fun e => by have := (HL3.out _ e).2; have := HS3.out.1; omega) rfl (fun u hu => by cases hu) (by omega))
  clear hb4
  go_wp2_with fail
  refine HIns.out.mono ?_
  rintro e w5 ⟨a5, c5, rfl, ho5, hg5⟩
  have hO4 := hO3.out.up (belowAlloc w3 (.cells #[.pointer (some ⟨b3, 0, none⟩)] 23))
  have hR4 := ownsRow_lower (rowUp HR3.out (belowAlloc w3 (.cells #[.pointer (some ⟨b3, 0, none⟩)] 23))) hO1.out.bel.size
  have hO5 := hO4.grown hR4 (by decide) hg5
  have h35 : ∀ x, w2.heap.size ≤ x → x < w3.heap.size → w5.heap[x]? = w3.heap[x]? := fun x hx hl => by
    refine (hg5.block x (by simp; omega) (fun e => ?_)).trans ((belowAlloc w3 (.cells #[.pointer (some ⟨b3, 0, none⟩)] 23)).block x hl)
    have := (HL3.out x e.symm).2
    omega
  have hwG : w0.heap.size + 1 < w2.heap.size := Nat.lt_of_lt_of_le hO1.out.lt HS3.out.2
  have hor : bits .or .u32 0 (z : Int) = (z : Int) := by simpa using u32_or_nat 0 z (by decide) (by omega)
  obtain ⟨W, hW⟩ : ∃ W, W = ((w5.setCell ⟨w0.heap.size + 1, 1, none⟩ (.slice a5 1 c5)).setCell ⟨w0.heap.size + 1, 0, none⟩ (.int .u32 (z : Nat))).setCell ⟨w0.heap.size + 1, 3, none⟩ (.int .i64 ((1 : Nat) : Int)) := ⟨_, rfl⟩
  have HF : Hid (RetNew (d + 1) k v w0 (.returned (.pointer (some ⟨w0.heap.size + 1, 0, none⟩))) W) := by
    have hO6 := hO5.set 1 (.slice a5 1 c5)
    have hO7 := hO6.set 0 (.int .u32 (z : Nat))
    have hO8 := hO7.set 3 (.int .i64 ((1 : Nat) : Int))
    have hR8 := rowKeep (rowKeep (rowKeep (ownsRow_lower ho5 hO1.out.bel.size) (hO5.keep 1 (.slice a5 1 c5)) (by decide)) (hO6.keep 0 (.int .u32 (z : Nat))) (by decide)) (hO7.keep 3 (.int .i64 ((1 : Nat) : Int))) (by decide)
    rw [← hW] at hO8 hR8
    have h3W : ∀ x, w2.heap.size ≤ x → x < w3.heap.size → W.heap[x]? = w3.heap[x]? := fun x hx hl => by
      have hxG : x ≠ w0.heap.size + 1 := by omega
      rw [hW, Below.heap_setCell _ _ _ _ hxG, Below.heap_setCell _ _ _ _ hxG, Below.heap_setCell _ _ _ _ hxG]
      exact h35 x hx hl
    have hkn := HN3.out.there.frame (fun x hx hl => h3W x hx.1 hl)
    obtain ⟨hy, hyl, hz, hu5⟩ := HI.out
    have hat : At (wy u) y [(y, b3, [(k, v)])] := At.single (fun p hp => by obtain rfl := List.mem_singleton.1 hp; exact hy.symm) (by simp) (dis_one _)
    have hm2 := MaskOf.nil.set hyl (split_nil y) b3 [(k, v)]
    rw [← hz, Nat.zero_or] at hm2
    have h := node_new (S := fun x => w0.heap.size ≤ x) (S' := fun x => w0.heap.size ≤ x) (d := d) (n' := 1) (w := w) hu5 (Kids.nil _) (split_nil y) hyl hat hm2 (by simp) (by simp [flat]) hO8 hR8 (fun x hx => hx.elim id (fun h => by have := HW0.out; omega)) (fun e he => by cases he) (fun e he => by
      obtain rfl := List.mem_singleton.1 he
      exact hkn.mono fun x hx => by have := hx.1; omega)
    refine Lib.hid ⟨_, rfl, by simpa [flat] using h, ?_⟩
    exact HBZ.out.trans (hO8.bel.mono HBZ.out.size)
  have g1 := node_c1 hO5.blk
  have g0 := node_c0 hO5.blk
  have g3 := node_c3 hO5.blk
  have f1 := node_f (o := 1) hO5.blk
  have f0 := node_f (o := 0) hO5.blk
  have f3 := node_f (o := 3) hO5.blk
  clear hO4 hR4 hO5 ho5 hg5 h35 HN3 hO3 HR3 HIns
  go_wp2_with fail
  go_ret
  have hF := HF.out
  rw [hW] at hF
  exact hF

/-- a key is put, whatever the level -/
theorem nil_any (k v : Int) : ∀ (d u : Nat) (w : World), u + 5 * d = 35 → Calls Try.prog 29 #[.pointer none, .int .i64 k, .int .i64 v, .int .i64 (u : Nat)] w (RetNew d k v w)
  | 0, u, w, hu => by
    obtain rfl : u = 35 := by omega
    exact nil_bot k v w
  | d + 1, u, w, hu => nil_node d u k v w hu fun W => by
    have h := nil_any k v d (u + 5) W (by omega)
    exact h
theorem put_any (k v : Int) : ∀ (d u : Nat) (S : Nat → Prop) (b : Nat) (L : PL) (w : World), u + 5 * d = 35 → HN S w d b L → L.length ≤ 8796093022000 →
    Calls Try.prog 29 #[.pointer (some ⟨b, 0, none⟩), .int .i64 k, .int .i64 v, .int .i64 (u : Nat)] w (RetPut S d L k v w)
  | 0, u, S, b, L, w, hu, h, hn => by
    obtain rfl : u = 35 := by omega
    exact put_bot S b L k v w h hn
  | d + 1, u, S, b, L, w, hu, h, hn => put_node S d u b L k v w hu h hn (fun W => by
      have h := nil_any k v d (u + 5) W (by omega)
      exact h) fun T b L W h hn => by
      have h := put_any k v d (u + 5) T b L W (by omega) h hn
      exact h
end Go.Proofs.Ytenaddjnaeebbaa.hamt
