/- The walks of package red: what tells. -/
import Derived.Test.YtcjhbpnmkahkeaaRed
import Derived.Test.YtcjhbpnmkahkeaaCat
import Derived.Test.YtcjhbpnmkahkeaaGather
import Derived.Deep.AppendLies
import Derived.Deep.RegionLaw
import Derived.Laws.EntriesVeiled
namespace Go.Proofs.Ytcjhbpnmkahkeaa.red
open Go.RowKit

/-- what is told of a tree -/
def ints (t : BT A) : List Int := t.inorder.map key
theorem ints_nil : ints (.nil : BT A) = [] := rfl
theorem ints_node (x : A) (l r : BT A) : ints (.node x l r) = ints l ++ key x :: ints r := by simp [ints, BT.inorder]
theorem ints_length (t : BT A) : (ints t).length = t.size := by rw [ints, List.length_map, BT.length_inorder]
def fW (W O : Nat) : Value := .func (.func 75) #[] #[.pointer (some ⟨W, 0, none⟩), .pointer (some ⟨O, 0, none⟩)]
abbrev St (W O base : Nat) (w0 : World) := WState (fW W O) 110 22 3 W O base w0

def RetSt (W O base : Nat) (w0 : World) (xs : List Int) (e : Ending) (w' : World) : Prop := e = .returned (.tuple #[]) ∧ St W O base w0 xs w'

set_option maxHeartbeats 1000000 in
theorem walk_any (W O base B : Nat) (w0 : World) (t : BT A) : ∀ (p : Option Addr) (w : World) (xs : List Int), In B w0 p t → St W O base w0 xs w → xs.length + t.size ≤ 17592186044416 →
    Calls Try.prog 75 #[.pointer p, .pointer (some ⟨W, 0, none⟩), .pointer (some ⟨O, 0, none⟩)] w (RetSt W O base w0 (xs ++ ints t)) := by
  induction t with
  | nil =>
    intro p w xs h hs hn
    obtain rfl : p = none := h
    go_enter Try.func75, Try.ntmps75
    go_wp2
    go_end0
    exact ⟨rfl, by simpa [ints_nil] using hs⟩
  | node x l r ihl ihr =>
    intro p w xs h hs hn
    obtain ⟨i0, hi, hz0, hz1, hz2⟩ := info_parts infoInt
    obtain ⟨b, pl, pr, rfl, hBb, hb, hl, hr⟩ := h
    have hlr : xs.length + l.size + 1 + r.size ≤ 17592186044416 := by simp only [BT.size] at hn; omega
    have k0 := upc hs.bel (cx hb)
    have k3 := upc hs.bel (cl hb)
    have k4 := upc hs.bel (cr hb)
    have kW := cell_of_one hs.cW
    unfold fW at kW
    have Hs := Lib.hid hs
    have Hb := Lib.hid hb
    have Hi := Lib.hid (And.intro hi (And.intro hz0 (And.intro hz1 hz2)))
    clear hs hb hi hz0 hz1 hz2 hn
    go_enter Try.func75, Try.ntmps75
    go_wp2_with fail
    go_region_held3 (fun w' => w'.cell? ⟨W, 0, none⟩ = some (.func (.func 75) #[] #[.pointer (some ⟨W, 0, none⟩), .pointer (some ⟨O, 0, none⟩)]) ∧ w'.cell? ⟨b, 3, none⟩ = some (.pointer pl)) (go_keep)
      (first | (go_at_call 75; refine (ihl _ _ xs hl (by exact Hs.out.drewN 1) (by omega)).mono ?_; rintro e w1 ⟨rfl, hs1⟩; have kW1 := cell_of_one hs1.cW; unfold fW at kW1; have k01 := upc hs1.bel (cx Hb.out); have k31 := upc hs1.bel (cl Hb.out); have k41 := upc hs1.bel (cr Hb.out)))
    go_wp2_with fail
    have hlen : (xs ++ ints l).length = xs.length + l.size := by rw [List.length_append, ints_length]
    obtain ⟨ys, hys⟩ : ∃ ys, ys = xs ++ ints l := ⟨_, rfl⟩
    rw [← hys] at hs1 hlen
    obtain ⟨v, hv, hown⟩ := hs1.cO
    have kO := cell_of_one hv
    have lO : O < w1.heap.size := Nat.lt_of_lt_of_le hs1.hOb hs1.hb
    have lB : base ≤ w1.heap.size := hs1.hb
    have l4 : ys.length + 1 ≤ 17592186044416 := by omega
    have l5 : ys.length + 1 + r.size ≤ 17592186044416 := by omega
    have HY := Lib.hid hys
    have Hs1 := Lib.hid hs1
    have Hv := Lib.hid hv
    have Ho := Lib.hid hown
    clear hys hs1 hv hown hlen
    go_region_law ((obtain ⟨hi, hz0, hz1, hz2⟩ := Hi.out; refine step_append_lies _ rfl (.tmp 12) (.tmp 17) 22 rfl base 3 i0 (.int .i64 0) 1 8 Try.underlying22 hi hz0 hz1 hz2 rfl (by decide) v ys.length (ys.map (Value.int .i64)) rfl (by exact (Ho.out.alloc _).drew) ⟨w1.heap.size, 0, none⟩ 1 1 [.int .i64 (key x)] rfl rfl (World.news_of_block (cs := #[.int .i64 (key x)]) (t := 3) (fr := (0, 0)) (heap_alloc_new _ _)) (by simp [Value.oneCell']) (by omega) (by unfold maxLen; omega) (by omega) (by simp; omega) (w1.heap.size + 1) (by simp) ?_; intro g cap w2 hown2 hgrow hat hlt; clear hi hz0 hz1 hz2 hat hlt; have hg2 : (w1.alloc (.cells #[.int .i64 (key x)] 3)).grownBy w2 v.ownBlock := ⟨hgrow.os, hgrow.tape, hgrow.output, hgrow.size, hgrow.block⟩; have hO2 := grow_other Ho.out hg2 Hs1.out.hOb Hv.out; have kO2 := cell_of_one hO2; have fO2 := free_of_one hO2; have Hn := Lib.hid (WState.next Hs1.out Hv.out Ho.out hown2 hg2); clear hown2 hgrow hg2 hO2))
    all_goals
      clear kO2 fO2 kO k01 k31 k41 kW1 k0 k3 k4 kW
      obtain ⟨w3, hw3⟩ : ∃ w3, w3 = w2.setCell ⟨O, 0, none⟩ (.slice (some ⟨g, 0, none⟩) (ys.length + 1) cap) := ⟨_, rfl⟩
      rw [← hw3] at Hn ⊢
      clear hw3
      have hs3 := Hn.out
      have k4 := upc hs3.bel (cr Hb.out)
      have kW := cell_of_one hs3.cW
      unfold fW at kW
      clear hs3
      go_wp2_with fail
      go_region_held3 (fun w' => w'.cell? ⟨W, 0, none⟩ = some (.func (.func 75) #[] #[.pointer (some ⟨W, 0, none⟩), .pointer (some ⟨O, 0, none⟩)]) ∧ w'.cell? ⟨b, 4, none⟩ = some (.pointer pr)) (go_keep)
        (first | (go_at_call 75; refine (ihr _ _ (ys ++ [key x]) hr (by exact Hn.out.drewN 1) (by simp; omega)).mono ?_; rintro e w4 ⟨rfl, hs4⟩; have kW4 := cell_of_one hs4.cW; unfold fW at kW4; have k44 := upc hs4.bel (cr Hb.out)))
      go_wp2_with fail
      go_end0
      refine ⟨rfl, ?_⟩
      rw [ints_node, ← List.append_assoc, ← HY.out]
      simpa using hs4

set_option maxHeartbeats 1000000 in
theorem ints_any (B : Nat) (w : World) (p : Option Addr) (t : BT A) (h : In B w p t) (hn : t.size ≤ 17592186044416) :
    Calls Try.prog 42 #[.agg #[.pointer p]] w (RetI 3 w (ints t)) := by
  have hw := walk_any (w.heap.size + 1 + 1) (w.heap.size + 1) (w.heap.size + 3) B w t p _ [] h (WState.start w (.cells #[.pointer p] 61) (fW (w.heap.size + 1 + 1) (w.heap.size + 1)) 110 22 3) (by simpa using hn)
  unfold fW at hw
  go_enter Try.func42, Try.ntmps42
  go_wp2_with fail
  refine hw.mono ?_
  rintro e w1 ⟨rfl, hs⟩
  obtain ⟨v, kO, ho⟩ := hs.done
  have Ho := Lib.hid ho
  have hB := hs.bel
  clear hs ho
  go_wp2_with fail
  go_ret
  exact RetI.mk (by simpa [OwnI] using Ho.out) hB
end Go.Proofs.Ytcjhbpnmkahkeaa.red
