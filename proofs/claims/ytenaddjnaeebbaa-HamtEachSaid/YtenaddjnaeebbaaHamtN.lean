/- Nodes of 32 ways in memory; the place of a way. -/
import Derived.Test.YtenaddjnaeebbaaHamtB
import Derived.Test.YtenaddjnaeebbaaGatherP
namespace Go.Proofs.Ytenaddjnaeebbaa.hamt
open Go.RowKit

/-- a node's cells -/
def nodeC (m : Nat) (kv pv : Value) (n : Nat) : Array Value := #[.int .u32 (m : Nat), kv, pv, .int .i64 (n : Nat)]
theorem node_c0 {w : World} {b : Nat} {v0 v1 v2 v3 : Value} {t : Nat} (h : w.heap[b]? = some (.cells #[v0, v1, v2, v3] t (0, 0))) : w.cell? ⟨b, 0, none⟩ = some v0 := by simp [World.cell?, h]
theorem node_c1 {w : World} {b : Nat} {v0 v1 v2 v3 : Value} {t : Nat} (h : w.heap[b]? = some (.cells #[v0, v1, v2, v3] t (0, 0))) : w.cell? ⟨b, 1, none⟩ = some v1 := by simp [World.cell?, h]
theorem node_c2 {w : World} {b : Nat} {v0 v1 v2 v3 : Value} {t : Nat} (h : w.heap[b]? = some (.cells #[v0, v1, v2, v3] t (0, 0))) : w.cell? ⟨b, 2, none⟩ = some v2 := by simp [World.cell?, h]
theorem node_c3 {w : World} {b : Nat} {v0 v1 v2 v3 : Value} {t : Nat} (h : w.heap[b]? = some (.cells #[v0, v1, v2, v3] t (0, 0))) : w.cell? ⟨b, 3, none⟩ = some v3 := by simp [World.cell?, h]
theorem node_f {w : World} {b o : Nat} {c : Array Value} {t : Nat} (h : w.heap[b]? = some (.cells c t (0, 0))) : w.frozen? ⟨b, o, none⟩ = false := by simp [World.frozen?, h]
theorem node_set {w : World} {b o : Nat} {c : Array Value} {t : Nat} {u : Value} (h : w.heap[b]? = some (.cells c t (0, 0))) : (w.setCell ⟨b, o, none⟩ u).heap[b]? = some (.cells (c.setIfInBounds o u) t (0, 0)) := by
  have hb := (Array.getElem?_eq_some_iff.1 h).1
  simp [World.setCell, Array.getElem?_modify, h]

def ptr (e : Kid) : Value := .pointer (some ⟨e.2.1, 0, none⟩)
/-- block b of w has a node under which L lies; d levels are under it; each block is one of S -/
def HN (S : Nat → Prop) (w : World) : Nat → Nat → PL → Prop
  | 0, b, L => S b ∧ L ≠ [] ∧ Dis L ∧ ∃ pv, w.heap[b]? = some (.cells (nodeC 0 (.slice none 0 0) pv L.length) 62 (0, 0)) ∧ OwnP w 0 pv L ∧ ∀ g, pv.ownBlock = some g → S g
  | d + 1, b, L => S b ∧ L ≠ [] ∧ ∃ ks m kv, L = flat ks ∧ Kids (wy (35 - 5 * (d + 1))) ks ∧ MaskOf m ks ∧ w.heap[b]? = some (.cells (nodeC m kv (.slice none 0 0) L.length) 62 (0, 0)) ∧
      w.ownsRow 0 23 1 kv ks.length (ks.map ptr) ∧ (∀ g, kv.ownBlock = some g → S g) ∧ ∀ e ∈ ks, HN S w d e.2.1 e.2.2
theorem row_frame {w w' : World} {E sz n : Nat} {v : Value} {xs : List Value} (h : w.ownsRow 0 E sz v n xs) (hw : ∀ g, v.ownBlock = some g → g < w.heap.size → w'.heap[g]? = w.heap[g]?) : w'.ownsRow 0 E sz v n xs := by
  refine ⟨h.1, ?_⟩
  rcases h.2 with h' | ⟨g, cap, cur, rfl, hg, hc, r⟩
  · exact .inl h'
  · exact .inr ⟨g, cap, cur, rfl, hg, (hw g rfl (Array.getElem?_eq_some_iff.1 hc).1).trans hc, r⟩
theorem HN.frame {S : Nat → Prop} {w w' : World} (hw : ∀ x, S x → x < w.heap.size → w'.heap[x]? = w.heap[x]?) : ∀ {d b : Nat} {L : PL}, HN S w d b L → HN S w' d b L
  | 0, _, _, ⟨hB, hn, hd, pv, h, ho, hg⟩ => ⟨hB, hn, hd, pv, (hw _ hB (Array.getElem?_eq_some_iff.1 h).1).trans h, row_frame ho fun g e hl => hw g (hg g e) hl, hg⟩
  | _ + 1, _, _, ⟨hB, hn, ks, m, kv, e, hks, hm, h, ho, hg, hkid⟩ => ⟨hB, hn, ks, m, kv, e, hks, hm, (hw _ hB (Array.getElem?_eq_some_iff.1 h).1).trans h, row_frame ho (fun g e hl => hw g (hg g e) hl), hg, fun x hx => HN.frame hw (hkid x hx)⟩
theorem HN.up {S : Nat → Prop} {w w' : World} {d b : Nat} {L : PL} (h : HN S w d b L) (hb : Below w.heap.size w w') : HN S w' d b L := h.frame fun x _ hl => hb.block x hl
theorem HN.mono {S S' : Nat → Prop} {w : World} (hs : ∀ x, S x → S' x) : ∀ {d b : Nat} {L : PL}, HN S w d b L → HN S' w d b L
  | 0, _, _, ⟨hB, hn, hd, pv, h, ho, hg⟩ => ⟨hs _ hB, hn, hd, pv, h, ho, fun g e => hs g (hg g e)⟩
  | _ + 1, _, _, ⟨hB, hn, ks, m, kv, e, hks, hm, h, ho, hg, hkid⟩ => ⟨hs _ hB, hn, ks, m, kv, e, hks, hm, h, ho, fun g e => hs g (hg g e), fun x hx => HN.mono hs (hkid x hx)⟩
/-- each block is there -/
theorem HN.there {S : Nat → Prop} {w : World} : ∀ {d b : Nat} {L : PL}, HN S w d b L → HN (fun x => S x ∧ x < w.heap.size) w d b L
  | 0, _, _, ⟨hB, hn, hd, pv, h, ho, hg⟩ => ⟨⟨hB, (Array.getElem?_eq_some_iff.1 h).1⟩, hn, hd, pv, h, ho, fun g e => ⟨hg g e, (World.ownsRow.lt ho g e).2⟩⟩
  | _ + 1, _, _, ⟨hB, hn, ks, m, kv, e, hks, hm, h, ho, hg, hkid⟩ => ⟨⟨hB, (Array.getElem?_eq_some_iff.1 h).1⟩, hn, ks, m, kv, e, hks, hm, h, ho, fun g e => ⟨hg g e, (World.ownsRow.lt ho g e).2⟩, fun x hx => HN.there (hkid x hx)⟩
theorem HN.ne {S : Nat → Prop} {w : World} : ∀ {d b : Nat} {L : PL}, HN S w d b L → L ≠ []
  | 0, _, _, h => h.2.1
  | _ + 1, _, _, h => h.2.1
theorem HN.dis {S : Nat → Prop} {w : World} : ∀ {d b : Nat} {L : PL}, HN S w d b L → Dis L
  | 0, _, _, h => h.2.2.1
  | _ + 1, _, _, ⟨_, _, _, _, _, e, hks, _⟩ => by rw [e]; exact hks.flat_dis
theorem HN.cells {S : Nat → Prop} {w : World} : ∀ {d b : Nat} {L : PL}, HN S w d b L → ∃ m kv pv, w.heap[b]? = some (.cells (nodeC m kv pv L.length) 62 (0, 0))
  | 0, _, _, ⟨_, _, _, _, h, _⟩ => ⟨_, _, _, h⟩
  | _ + 1, _, _, ⟨_, _, _, _, _, _, _, _, h, _⟩ => ⟨_, _, _, h⟩

theorem u32_minus (z : Nat) (h0 : 0 < z) (h : z ≤ 4294967296) : IntKind.u32.wrap ((z : Int) - 1) = ((z - 1 : Nat) : Int) := by
  simp [IntKind.wrap, IntKind.bits, IntKind.signed]
  omega
set_option maxHeartbeats 1000000 in
theorem spot_walk (b m y : Nat) (kv pv : Value) (n : Nat) (w : World) (hb : w.heap[b]? = some (.cells (nodeC m kv pv n) 62 (0, 0))) (hy : y < 32) (hm : m < 4294967296) :
    Calls Try.prog 37 #[.pointer (some ⟨b, 0, none⟩), .int .u32 (2 ^ y : Nat)] w fun e w' => e = .returned (.tuple #[.int .i64 (ones (m &&& (2 ^ y - 1)) : Nat), .bool (m.testBit y)]) ∧ Below w.heap.size w w' := by
  have hz0 : 0 < 2 ^ y := Nat.two_pow_pos y
  have hz1 : 2 ^ y < 4294967296 := Nat.lt_of_le_of_lt (Nat.pow_le_pow_right (by decide) (show y ≤ 31 by omega)) (by decide)
  have hc := and_pow_pos m y
  obtain ⟨z, hz⟩ : ∃ z, z = 2 ^ y := ⟨_, rfl⟩
  rw [← hz] at hz0 hz1 hc ⊢
  have e1 := u32_minus z hz0 (by omega)
  have e2 := u32_and_nat m (z - 1) hm (by omega)
  have e3 := u32_and_nat m z hm hz1
  have hx : m &&& (z - 1) < 4294967296 := Nat.lt_of_le_of_lt Nat.and_le_left hm
  obtain ⟨x, hx'⟩ : ∃ x, x = m &&& (z - 1) := ⟨_, rfl⟩
  obtain ⟨q, hq⟩ : ∃ q, q = m &&& z := ⟨_, rfl⟩
  obtain ⟨zm, hzm⟩ : ∃ q, q = z - 1 := ⟨_, rfl⟩
  rw [← hzm] at e1 e2 hx hx'
  rw [← hx'] at e2 hx
  rw [← hq] at hc e3
  rw [show m &&& (z - 1) = x by rw [hx', hzm]]
  obtain ⟨c, hc'⟩ : ∃ c, c = m.testBit y := ⟨_, rfl⟩
  rw [← hc'] at hc ⊢
  have k0 := node_c0 hb
  have HO := Lib.hid (fun W => ones_walk x W hx)
  have HB := Lib.hid hb
  have HC := Lib.hid hc
  clear hx' hq hz hzm hc' hc hb hz0 hz1 hy hm hx
  go_enter Try.func37, Try.ntmps37
  go_wp2_with fail
  go_region_held3 (fun w' => w'.cell? ⟨b, 0, none⟩ = some (.int .u32 (m : Nat))) (first | exact kd | go_keep)
    (first | (go_at_call 53; refine (HO.out _).mono ?_; rintro e w1 ⟨rfl, hb1⟩; have hbz := belowTrans (belowDrew w) hb1; have kd := upc hbz (node_c0 HB.out); have HZ := Lib.hid hbz; clear hb1 hbz))
  go_wp2_with fail
  go_ret2
  exact ⟨by simp [← HC.out], HZ.out⟩
end Go.Proofs.Ytenaddjnaeebbaa.hamt
