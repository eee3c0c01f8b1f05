/- The walks of package ral: what tells: Ints, Len. -/
import Derived.Test.YthlcjhkelcfnoaaDoorRalOf
import Derived.Test.YthlcjhkelcfnoaaDoorCat
import Derived.Test.YthlcjhkelcfnoaaDoorGather
import Derived.Deep.AppendLies
import Derived.Deep.RegionLaw
import Derived.Laws.EntriesVeiled
import Derived.Deep.LoopGhost
namespace Go.Proofs.YthlcjhkelcfnoaaDoor.ral
open Go.RowKit

section
variable {w : World} {b : Nat} {x : Int} {q r : Option Addr} (h : w.heap[b]? = some (.cells #[.int .i64 x, .pointer q, .pointer r] 80 (0, 0)))
include h
theorem t0 : w.cell? ⟨b, 0, none⟩ = some (.int .i64 x) := by simp [World.cell?, h]
theorem t1 : w.cell? ⟨b, 1, none⟩ = some (.pointer q) := by simp [World.cell?, h]
theorem t2 : w.cell? ⟨b, 2, none⟩ = some (.pointer r) := by simp [World.cell?, h]
end

def fW (W O : Nat) : Value := .func (.func 35) #[] #[.pointer (some ⟨O, 0, none⟩), .pointer (some ⟨W, 0, none⟩)]
abbrev St (W O base : Nat) (w0 : World) := WState (fW W O) 78 22 3 W O base w0
def RetSt (W O base : Nat) (w0 : World) (xs : List Int) (e : Ending) (w' : World) : Prop := e = .returned (.tuple #[]) ∧ St W O base w0 xs w'

set_option maxHeartbeats 1000000 in
theorem walk_any (W O base B : Nat) (w0 : World) (t : BT Int) : ∀ (p : Option Addr) (w : World) (xs : List Int), In B w0 p t → St W O base w0 xs w → xs.length + t.size ≤ 17592186044416 →
    Calls Tryd.prog 35 #[.pointer p, .pointer (some ⟨O, 0, none⟩), .pointer (some ⟨W, 0, none⟩)] w (RetSt W O base w0 (xs ++ pre t)) := by
  induction t with
  | nil =>
    intro p w xs h hs hn
    obtain rfl : p = none := h
    go_enter Tryd.func35, Tryd.ntmps35
    go_wp2
    go_end0
    exact ⟨rfl, by simpa [pre] using hs⟩
  | node x l r ihl ihr =>
    intro p w xs h hs hn
    obtain ⟨i0, hi, hz0, hz1, hz2⟩ := info_parts infoInt
    obtain ⟨b, pl, pr, rfl, hBb, hb, hl, hr⟩ := h
    have hlr : xs.length + 1 + l.size + r.size ≤ 17592186044416 := by simp only [BT.size] at hn; omega
    have k0 := upc hs.bel (t0 hb)
    obtain ⟨v, hv, hown⟩ := hs.cO
    have kO := cell_of_one hv
    have lO : O < w.heap.size := Nat.lt_of_lt_of_le hs.hOb hs.hb
    have lB : base ≤ w.heap.size := hs.hb
    have Hs := Lib.hid hs
    have Hb := Lib.hid hb
    have Hv := Lib.hid hv
    have Ho := Lib.hid hown
    have Hi := Lib.hid (And.intro hi (And.intro hz0 (And.intro hz1 hz2)))
    clear hs hb hi hz0 hz1 hz2 hn hv hown
    go_enter Tryd.func35, Tryd.ntmps35
    go_wp2_with fail
    go_region_law ((obtain ⟨hi, hz0, hz1, hz2⟩ := Hi.out; refine step_append_lies _ rfl (.tmp 6) (.tmp 11) 22 rfl base 3 i0 (.int .i64 0) 1 8 Tryd.underlying22 hi hz0 hz1 hz2 rfl (by decide) v xs.length (xs.map (Value.int .i64)) rfl (by exact (Ho.out.alloc _).drew) ⟨w.heap.size, 0, none⟩ 1 1 [.int .i64 x] rfl rfl (World.news_of_block (cs := #[.int .i64 x]) (t := 3) (fr := (0, 0)) (heap_alloc_new _ _)) (by simp [Value.oneCell']) (by omega) (by unfold maxLen; omega) (by omega) (by simp; omega) (w.heap.size + 1) (by simp) ?_; intro g cap w2 hown2 hgrow hat hlt; clear hi hz0 hz1 hz2 hat hlt; have hg2 : (w.alloc (.cells #[.int .i64 x] 3)).grownBy w2 v.ownBlock := ⟨hgrow.os, hgrow.tape, hgrow.output, hgrow.size, hgrow.block⟩; have hO2 := grow_other Ho.out hg2 Hs.out.hOb Hv.out; have kO2 := cell_of_one hO2; have fO2 := free_of_one hO2; have Hn := Lib.hid (WState.next Hs.out Hv.out Ho.out hown2 hg2); clear hown2 hgrow hg2 hO2))
    all_goals
      clear kO2 fO2 kO k0
      obtain ⟨w3, hw3⟩ : ∃ w3, w3 = w2.setCell ⟨O, 0, none⟩ (.slice (some ⟨g, 0, none⟩) (xs.length + 1) cap) := ⟨_, rfl⟩
      rw [← hw3] at Hn ⊢
      clear hw3
      have hs3 := Hn.out
      have k3 := upc hs3.bel (t1 Hb.out)
      have k4 := upc hs3.bel (t2 Hb.out)
      have kW := cell_of_one hs3.cW
      unfold fW at kW
      clear hs3
      go_wp2_with fail
      go_region_held3 (fun w' => w'.cell? ⟨W, 0, none⟩ = some (.func (.func 35) #[] #[.pointer (some ⟨O, 0, none⟩), .pointer (some ⟨W, 0, none⟩)]) ∧ w'.cell? ⟨b, 1, none⟩ = some (.pointer pl)) (go_keep)
        (first | (go_at_call 35; refine (ihl _ _ (xs ++ [x]) hl (by exact Hn.out.drewN 1) (by simp; omega)).mono ?_; rintro e w4 ⟨rfl, hs4⟩; have kW4 := cell_of_one hs4.cW; unfold fW at kW4; have k34 := upc hs4.bel (t1 Hb.out); have k44 := upc hs4.bel (t2 Hb.out)))
      go_wp2_with fail
      have Hs4 := Lib.hid hs4
      clear hs4 k3 k4 kW k34
      go_region_held3 (fun w' => w'.cell? ⟨W, 0, none⟩ = some (.func (.func 35) #[] #[.pointer (some ⟨O, 0, none⟩), .pointer (some ⟨W, 0, none⟩)]) ∧ w'.cell? ⟨b, 2, none⟩ = some (.pointer pr)) (go_keep)
        (first | (go_at_call 35; refine (ihr _ _ (xs ++ [x] ++ pre l) hr (by exact Hs4.out.drewN 1) (by simp [length_pre]; omega)).mono ?_; rintro e w5 ⟨rfl, hs5⟩; have kW5 := cell_of_one hs5.cW; unfold fW at kW5; have k45 := upc hs5.bel (t2 Hb.out)))
      go_wp2_with fail
      go_end0
      exact ⟨rfl, by simpa [pre] using hs5⟩

set_option maxHeartbeats 1000000 in
theorem ints_sp (B : Nat) (w : World) (p : Option Addr) (nv : Int) (ts : List (BT Int)) (h : Sp B w p ts) (hn : total ts ≤ 17592186044416) :
    Calls Tryd.prog 27 #[.agg #[.pointer p, .int .i64 nv]] w (RetI 3 w (elems ts)) := by
  have hst := WState.start w (.cells #[.pointer p, .int .i64 nv] 49) (fW (w.heap.size + 1 + 1) (w.heap.size + 1)) 78 22 3
  unfold fW at hst
  have Hst := Lib.hid hst
  have Hp := Lib.hid h
  clear hst h
  go_enter Tryd.func27, Tryd.ntmps27
  go_wp2_with fail
  go_loopg [5] ts.length (fun k pv wr => ∃ (rest : List (BT Int)) (q : Option Addr) (xs : List Int), pv = .pointer q ∧ k = rest.length ∧ Hid (St (w.heap.size + 1 + 1) (w.heap.size + 1) (w.heap.size + 3) w xs wr ∧ Sp B w q rest ∧ xs ++ elems rest = elems ts))
  case atStart => exact ⟨ts, p, [], rfl, rfl, Lib.hid ⟨by have h := Hst.out; unfold St fW; simpa using h, Hp.out, rfl⟩⟩
  case round =>
    obtain ⟨rest, q, xs, rfl, hk, HR⟩ := hrel
    cases rest with
    | nil =>
      obtain ⟨hs, hq, he⟩ := HR.out
      obtain rfl : q = none := hq
      obtain ⟨v, kO, ho⟩ := hs.done
      obtain rfl : xs = elems ts := by simpa [elems] using he
      have Ho := Lib.hid ho
      have Hb := Lib.hid hs.bel
      clear hs ho HR hk he
      go_wp2_with fail
      go_ret
      exact RetI.mk (by simpa [OwnI] using Ho.out) Hb.out
    | cons t rest =>
      obtain ⟨hs, ⟨b, q1, r1, rfl, hB, hb, hq1, hr1⟩, he⟩ := HR.out
      have k1 := upc hs.bel (s1 hb)
      have kW := cell_of_one hs.cW
      unfold fW at kW
      have hlen : xs.length + t.size ≤ 17592186044416 := by
        have h := congrArg List.length he
        rw [List.length_append, length_elems, length_elems] at h
        simp only [total] at h
        omega
      have hk1 : rest.length < gk := by rw [hk]; simp
      have Hs := Lib.hid hs
      have Hb := Lib.hid hb
      have Hq := Lib.hid hq1
      have Hr := Lib.hid hr1
      have He := Lib.hid he
      clear hs hb hq1 hr1 he hk HR
      go_wp2_with fail
      go_region_held3 (fun w' => w'.cell? ⟨w.heap.size + 1 + 1, 0, none⟩ = some (.func (.func 35) #[] #[.pointer (some ⟨w.heap.size + 1, 0, none⟩), .pointer (some ⟨w.heap.size + 1 + 1, 0, none⟩)]) ∧ w'.cell? ⟨b, 1, none⟩ = some (.pointer q1)) (go_keep)
        (first | (go_at_call 35; refine (walk_any (w.heap.size + 1 + 1) (w.heap.size + 1) (w.heap.size + 3) B w t _ _ xs Hq.out (by exact Hs.out.drewN 1) hlen).mono ?_; rintro e w4 ⟨rfl, hs4⟩; have kW4 := cell_of_one hs4.cW; unfold fW at kW4; have k14 := upc hs4.bel (s1 Hb.out); have k24 := upc hs4.bel (s2 Hb.out)))
      have Hs4 := Lib.hid hs4
      clear hs4 kW k1 kW4 k14
      go_wp2_with fail
      go_roundg rest.length
      case measure => exact hk1
      case rel => exact ⟨rest, r1, xs ++ pre t, rfl, rfl, Lib.hid ⟨Hs4.out, Hr.out, by rw [List.append_assoc]; exact He.out⟩⟩

theorem ints_any (B : Nat) (w : World) (p : Option Addr) (nv : Int) (xs : List Int) (h : Has B w p xs) (hn : xs.length ≤ 17592186044416) :
    Calls Tryd.prog 27 #[.agg #[.pointer p, .int .i64 nv]] w (RetI 3 w xs) := by
  obtain ⟨ts, rfl, h⟩ := h
  exact ints_sp B w p nv ts h (by rwa [length_elems] at hn)

end Go.Proofs.YthlcjhkelcfnoaaDoor.ral
