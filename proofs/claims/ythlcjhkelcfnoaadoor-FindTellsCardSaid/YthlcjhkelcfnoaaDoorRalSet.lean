/- The walks of package ral: another number at a place. -/
import Derived.Test.YthlcjhkelcfnoaaDoorRalAt
namespace Go.Proofs.YthlcjhkelcfnoaaDoor.ral
open Go.RowKit

/-- p leads to the tree t, each of whose blocks is of S -/
def InS (S : Nat → Prop) (w : World) : Option Addr → BT Int → Prop
  | p, .nil => p = none
  | p, .node a l r => ∃ b pl pr, p = some ⟨b, 0, none⟩ ∧ S b ∧ w.heap[b]? = some (.cells #[.int .i64 a, .pointer pl, .pointer pr] 80 (0, 0)) ∧ InS S w pl l ∧ InS S w pr r
theorem InS.of {B : Nat} {w : World} {t : BT Int} : ∀ {p : Option Addr}, In B w p t → InS (fun b => B ≤ b ∧ b < w.heap.size) w p t := by
  induction t with
  | nil => intro p h; exact h
  | node a l r ihl ihr =>
    rintro p ⟨b, pl, pr, rfl, hB, hc, hl, hr⟩
    exact ⟨b, pl, pr, rfl, ⟨hB, (Array.getElem?_eq_some_iff.1 hc).1⟩, hc, ihl hl, ihr hr⟩
theorem InS.to {B : Nat} {S : Nat → Prop} {w : World} (hS : ∀ b, S b → B ≤ b) {t : BT Int} : ∀ {p : Option Addr}, InS S w p t → In B w p t := by
  induction t with
  | nil => intro p h; exact h
  | node a l r ihl ihr =>
    rintro p ⟨b, pl, pr, rfl, hB, hc, hl, hr⟩
    exact ⟨b, pl, pr, rfl, hS b hB, hc, ihl hl, ihr hr⟩
theorem InS.imp {S S' : Nat → Prop} {w w' : World} (hS : ∀ b, b < w.heap.size → S b → S' b ∧ w'.heap[b]? = w.heap[b]?) {t : BT Int} : ∀ {p : Option Addr}, InS S w p t → InS S' w' p t := by
  induction t with
  | nil => intro p h; exact h
  | node a l r ihl ihr =>
    rintro p ⟨b, pl, pr, rfl, hB, hc, hl, hr⟩
    have h := hS b (Array.getElem?_eq_some_iff.1 hc).1 hB
    exact ⟨b, pl, pr, rfl, h.1, h.2.trans hc, ihl hl, ihr hr⟩
theorem InS.up {S : Nat → Prop} {w w' : World} {t : BT Int} {p : Option Addr} (h : InS S w p t) (hb : Below w.heap.size w w') : InS S w' p t :=
  h.imp fun b hlt hs => ⟨hs, hb.block b hlt⟩
theorem InS.old {S : Nat → Prop} {w : World} {t : BT Int} {p : Option Addr} (h : InS S w p t) : InS (fun b => S b ∧ b < w.heap.size) w p t :=
  h.imp fun _ hlt hs => ⟨⟨hs, hlt⟩, rfl⟩

def RetT (S : Nat → Prop) (w : World) (t : BT Int) (e : Ending) (w' : World) : Prop := ∃ p, e = .returned (.pointer p) ∧ InS (fun b => S b ∨ w.heap.size ≤ b) w' p t ∧ Below w.heap.size w w'

theorem three_set1 {w : World} {b : Nat} {u v x v' : Value} {t : Nat} (h : w.heap[b]? = some (.cells #[u, v, x] t (0, 0))) : (w.setCell ⟨b, 1, none⟩ v').heap[b]? = some (.cells #[u, v', x] t (0, 0)) := by
  have hb := (Array.getElem?_eq_some_iff.1 h).1
  simp [World.setCell, Array.getElem?_modify, h]
theorem three_set2 {w : World} {b : Nat} {u v x v' : Value} {t : Nat} (h : w.heap[b]? = some (.cells #[u, v, x] t (0, 0))) : (w.setCell ⟨b, 2, none⟩ v').heap[b]? = some (.cells #[u, v, v'] t (0, 0)) := by
  have hb := (Array.getElem?_eq_some_iff.1 h).1
  simp [World.setCell, Array.getElem?_modify, h]
theorem three_c {w : World} {b : Nat} {u v x : Value} {t : Nat} (h : w.heap[b]? = some (.cells #[u, v, x] t (0, 0))) : w.cell? ⟨b, 1, none⟩ = some v ∧ w.cell? ⟨b, 2, none⟩ = some x ∧ ∀ o, w.frozen? ⟨b, o, none⟩ = false := by
  refine ⟨?_, ?_, fun o => ?_⟩ <;> simp [World.cell?, World.frozen?, h]

set_option maxHeartbeats 4000000 in
theorem tree_with (x : Int) (t : BT Int) : ∀ (S : Nat → Prop) (w : World) (p : Option Addr) (n i : Nat), InS S w p t → Perf t → t.size = n → i < n → n ≤ 1152921504606844000 →
    Calls Tryd.prog 41 #[.pointer p, .int .i64 (n : Nat), .int .i64 (i : Nat), .int .i64 x] w (RetT S w (setT t i x)) := by
  induction t with
  | nil => intro S w p n i _ _ hs hi; simp only [BT.size] at hs; omega
  | node a l r ihl ihr =>
    intro S w p n i h hp hs hi hn
    obtain ⟨b, pl, pr, rfl, hB, hb, hl, hr⟩ := h
    have k0 := t0 hb
    have k1 := t1 hb
    have k2 := t2 hb
    have hsl : l.size = n / 2 := by have h := hp.1; simp only [BT.size] at hs; omega
    have hsr : r.size = n / 2 := by have h := hp.1; omega
    have hn0 : (0 : Int) ≤ (n : Int) := by omega
    have HP := Lib.hid hp
    have Hsl := Lib.hid hsl
    have Hsr := Lib.hid hsr
    have h1 := belowAlloc w (.cells #[.int .i64 a, .pointer pl, .pointer pr] 80)
    have hl1 := hl.old.up h1
    have hr1 := hr.old.up h1
    have hnew := heap_alloc_new w (.cells #[.int .i64 a, .pointer pl, .pointer pr] 80)
    by_cases h0 : i = 0
    · subst h0
      have HL := Lib.hid hl
      have HR := Lib.hid hr
      clear hl hr hb hp hsl hsr hs ihl ihr hl1 hr1 hnew h1
      go_enter Tryd.func41, Tryd.ntmps41
      go_wp2_with fail
      go_ret
      have h2 := belowAlloc w (.cells #[.int .i64 x, .pointer pl, .pointer pr] 80)
      refine ⟨_, rfl, ?_, h2⟩
      simp only [setT]
      exact ⟨w.heap.size, pl, pr, rfl, .inr (Nat.le_refl _), heap_alloc_new _ _, HL.out.imp fun b hlt hs => ⟨.inl hs, h2.block b hlt⟩, HR.out.imp fun b hlt hs => ⟨.inl hs, h2.block b hlt⟩⟩
    · have g0 : (1 : Int) ≤ (i : Int) := by omega
      have e0 : ((i : Nat) : Int) - 1 = ((i - 1 : Nat) : Int) := by omega
      by_cases hlt : i ≤ n / 2
      · have g1 : (i : Int) ≤ (n : Int) / 2 := by omega
        have hc := ihl _ _ pl (n / 2) (i - 1) hl1 hp.2.1 hsl (by omega) (by omega)
        have e2 : (((n / 2 : Nat)) : Int) = (n : Int) / 2 := by omega
        rw [← e0, e2] at hc
        have k1w := upc h1 k1
        have HC := Lib.hid hc
        have HR := Lib.hid hr1
        have HN := Lib.hid hnew
        have H1 := Lib.hid h1
        clear hc hl hr hb hp hsl hsr hs ihl ihr hl1 hr1 hnew h1 e0 e2 HP
        go_enter Tryd.func41, Tryd.ntmps41
        go_wp2_with ((with_reducible refine HC.out.mono ?_); rintro e w1 ⟨q, rfl, hq, hb1⟩; have hk := upb hb1 HN.out; have hk3 := three_c hk; obtain ⟨c1, c2, cf⟩ := hk3)
        go_ret
        have h3 := three_set1 (v' := .pointer q) hk
        refine ⟨_, rfl, ?_, (belowSet (a := ⟨w.heap.size, 1, none⟩) (belowTrans H1.out hb1) (Nat.le_refl _) _)⟩
        have hsz := hb1.size
        simp only [World.size_alloc] at hsz
        rw [setT, if_neg h0, if_pos (by rw [Hsl.out]; exact hlt)]
        refine ⟨w.heap.size, q, pr, rfl, .inr (Nat.le_refl _), h3, hq.imp fun b hlt hs => ?_, HR.out.imp fun b hlt hs => ⟨.inl hs.1, ?_⟩⟩
        · simp only [World.size_alloc] at hs
          rcases hs with hs | hs
          · exact ⟨.inl hs.1, Below.heap_setCell _ _ _ _ (by have := hs.2; simp; omega)⟩
          · exact ⟨.inr (by omega), Below.heap_setCell _ _ _ _ (by simp; omega)⟩
        · exact (Below.heap_setCell _ _ _ _ (by have := hs.2; simp; omega)).trans (hb1.block b hlt)
      · have g1 : ¬ ((i : Int) ≤ (n : Int) / 2) := by omega
        have g2 : (0 : Int) ≤ (i : Int) - 1 - (n : Int) / 2 := by omega
        have g3 : (i : Int) - 1 - (n : Int) / 2 ≤ 1152921504606844000 := by omega
        have hc := ihr _ _ pr (n / 2) (i - 1 - n / 2) hr1 hp.2.2 hsr (by omega) (by omega)
        have e1 : (((i - 1 - n / 2 : Nat)) : Int) = (i : Int) - 1 - (n : Int) / 2 := by omega
        have e2 : (((n / 2 : Nat)) : Int) = (n : Int) / 2 := by omega
        rw [e1, e2] at hc
        have k2w := upc h1 k2
        have HC := Lib.hid hc
        have HL := Lib.hid hl1
        have HN := Lib.hid hnew
        have H1 := Lib.hid h1
        clear hc hl hr hb hp hsl hsr hs ihl ihr hl1 hr1 hnew h1 e0 e1 e2 HP
        go_enter Tryd.func41, Tryd.ntmps41
        go_wp2_with ((with_reducible refine HC.out.mono ?_); rintro e w1 ⟨q, rfl, hq, hb1⟩; have hk := upb hb1 HN.out; have hk3 := three_c hk; obtain ⟨c1, c2, cf⟩ := hk3)
        go_ret
        have h3 := three_set2 (v' := .pointer q) hk
        refine ⟨_, rfl, ?_, (belowSet (a := ⟨w.heap.size, 2, none⟩) (belowTrans H1.out hb1) (Nat.le_refl _) _)⟩
        have hsz := hb1.size
        simp only [World.size_alloc] at hsz
        rw [setT, if_neg h0, if_neg (by rw [Hsl.out]; exact hlt), Hsl.out]
        refine ⟨w.heap.size, pl, q, rfl, .inr (Nat.le_refl _), h3, HL.out.imp fun b hlt hs => ⟨.inl hs.1, ?_⟩, hq.imp fun b hlt hs => ?_⟩
        · exact (Below.heap_setCell _ _ _ _ (by have := hs.2; simp; omega)).trans (hb1.block b hlt)
        · simp only [World.size_alloc] at hs
          rcases hs with hs | hs
          · exact ⟨.inl hs.1, Below.heap_setCell _ _ _ _ (by have := hs.2; simp; omega)⟩
          · exact ⟨.inr (by omega), Below.heap_setCell _ _ _ _ (by simp; omega)⟩
end Go.Proofs.YthlcjhkelcfnoaaDoor.ral
