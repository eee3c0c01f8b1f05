/- The walks of package pair, the third part: Ints takes all, one by one. -/
import Derived.Test.YtcjhbpnmkahkeaaPair3
import Derived.Test.YtcjhbpnmkahkeaaGather
import Derived.Test.YtcjhbpnmkahkeaaFill
import Derived.Deep.LoopGhost
namespace Go.Proofs.Ytcjhbpnmkahkeaa.pair
open Go.RowKit

/-- what holds at a round's head: what has come, what is at hand, what is still in the heap -/
def Head (w0 : World) (t : BT A) (k : Nat) (hs : Bool) (G : Nat) (q : Option Addr) (y : Int) (m : Nat) (v : Value) (wr : World) : Prop :=
  ∃ (acc : List Int) (u : BT A), acc.length = m ∧ acc ++ (if hs then y :: ints u else []) = ints t ∧ k = (if hs then 1 + hsz u else 0) ∧ wr.ownsRow w0.heap.size 3 1 v m (acc.map (Value.int .i64)) ∧
    Below w0.heap.size w0 wr ∧ w0.heap.size ≤ G ∧ wr.heap[G]? = some (.cells #[.pointer q, .int .i64 (hsz u : Nat)] 38 (0, 0)) ∧ In 0 wr q u ∧ v.ownBlock ≠ some G

set_option maxHeartbeats 4000000 in
theorem ints_any (B : Nat) (w : World) (p : Option Addr) (t : BT A) (h : In B w p t) (hn : hsz t ≤ 17592186044416) :
    Calls Try.prog 25 #[.agg #[.pointer p, .int .i64 (hsz t : Nat)]] w (RetI 3 w (ints t)) := by
  obtain ⟨W, hW⟩ : ∃ W, W = (w.alloc (.cells #[.pointer p, .int .i64 (hsz t : Nat)] 38)) := ⟨_, rfl⟩
  have hbW : Below w.heap.size w W := by rw [hW]; exact belowAlloc _ _
  have hP := Pop_any W p _ t ((h.lower (Nat.zero_le _)).up hbW) (by omega) rfl
  have HP := Lib.hid hP
  have HW := Lib.hid hW
  have HbW := Lib.hid hbW
  obtain ⟨i0, hi, hz0, hz1, hz2⟩ := info_parts infoInt
  have Hi := Lib.hid (And.intro hi (And.intro hz0 (And.intro hz1 hz2)))
  clear hP hW hbW h hi hz0 hz1 hz2
  go_enter Try.func25, Try.ntmps25
  go_wp2_with fail
  rw [← HW.out]
  refine HP.out.mono ?_
  rintro e w1 ⟨q, n1, u, y, hs, rfl, he, hk, rfl, hq, hb1⟩
  have hh : Head w t (hsz t) hs w1.heap.size q y 0 (.slice none 0 0) (w1.alloc (.cells #[.pointer q, .int .i64 (hsz u : Nat)] 38)) :=
    ⟨[], u, rfl, he, hk.symm, World.ownsRow_nil _ _ _ _, (belowTrans HbW.out hb1).alloc (by have h1 := HbW.out.size; have h2 := hb1.size; omega) _, by have h1 := HbW.out.size; have h2 := hb1.size; omega, heap_alloc_new _ _, hq.up (belowAlloc _ _), by simp [Value.ownBlock]⟩
  have HH := Lib.hid hh
  clear hh he hk hq hb1
  go_wp2_with fail
  go_loopg [3, 4, 5, 6] (hsz t) (fun k v x gp has wr => ∃ (hs : Bool) (G : Nat) (q : Option Addr) (y : Int) (m : Nat), x = .int .i64 y ∧ gp = .pointer (some ⟨G, 0, none⟩) ∧ has = .bool hs ∧ Hid (Head w t k hs G q y m v wr))
  case atStart => exact ⟨hs, w1.heap.size, q, y, 0, rfl, rfl, rfl, HH⟩
  case round =>
    obtain ⟨hs2, G, q2, y2, m, rfl, rfl, rfl, Hh⟩ := hrel
    cases hs2
    · have hfin : Hid (OwnI 3 wr w.heap.size u3 (ints t) ∧ Below w.heap.size w wr) := Lib.hid (by
        obtain ⟨acc, u', hm, hi, _, hr, hb, _⟩ := Hh.out
        have e : acc = ints t := by simpa using hi
        rw [e] at hr hm
        rw [OwnI, hm]
        exact ⟨hr, hb⟩)
      clear Hh
      go_wp2_with fail
      go_ret
      exact RetI.mk hfin.out.1 hfin.out.2
    · obtain ⟨acc, u', hm, hi, hk, hr, hb, hG, hc, hin, hne⟩ := Hh.out
      have hlen : m + 1 + hsz u' = hsz t := by
        have h := congrArg List.length hi
        rw [List.length_append, if_pos rfl, List.length_cons, ints_length, ints_length, hm] at h
        omega
      have hm1 : m + 1 ≤ 17592186044416 := by omega
      have hus : hsz u' ≤ 17592186044416 := by omega
      have hi' : (acc ++ [y2]) ++ ints u' = ints t := by rw [← hi]; simp
      have hws : w.heap.size ≤ wr.heap.size := hb.size
      have Ho := Lib.hid hr
      have Hb := Lib.hid hb
      have Hc := Lib.hid hc
      have Hin := Lib.hid hin
      have Hne := Lib.hid hne
      have Hm := Lib.hid hm
      have HI := Lib.hid hi'
      have HK := Lib.hid hk
      clear hr hb hc hin hne hm hi hi' hk Hh hlen
      go_wp2_with (at_builtin; obtain ⟨hi, hz0, hz1, hz2⟩ := Hi.out; refine wpList_append_own _ rfl (.tmp 20) (.tmp 22) 22 rfl w.heap.size 3 i0 (.int .i64 0) 1 8 Try.underlying22 hi hz0 hz1 hz2 rfl (by decide) _ m _ rfl (Ho.out.alloc _) ⟨wr.heap.size, 0, none⟩ 1 1 [.int .i64 y2] rfl rfl (cell_one_new _ _ _) (by simp [Value.oneCell']) (by unfold maxLen; omega) (by omega) (by simp; omega) ?_; intro v' w2 hown' hgrow hnil; clear hnil hi hz0 hz1 hz2; have hc2 := ((hgrow.block G (by have h := (Array.getElem?_eq_some_iff.1 Hc.out).1; simp; omega) (fun e => Hne.out e.symm)).trans (Below.heap_alloc wr _ G (Array.getElem?_eq_some_iff.1 Hc.out).1)).trans Hc.out; have kc2 := two_c0 hc2; have kd2 := two_c1 hc2; have Hown := Lib.hid hown'; have Hgrow := Lib.hid hgrow; clear hown' hgrow hc2)
      have hgrow := Hgrow.out
      have hb2 := Below.grown (belowTrans Hb.out (belowAlloc _ _)) hgrow (by simp; omega) (fun b hb => (Ho.out.lt b hb).1)
      have hin2 := Hin.out.grown Ho.out hgrow (by decide)
      have hP2 := Pop_any (w2.alloc (.cells #[.pointer q2, .int .i64 (hsz u' : Nat)] 38)) q2 _ u' (hin2.up (belowAlloc _ _)) hus rfl
      have hws2 : w.heap.size ≤ w2.heap.size := hb2.size
      have Hb2 := Lib.hid hb2
      have HP2 := Lib.hid hP2
      clear hb2 hin2 hP2 hgrow Hgrow
      go_wp2_with fail
      refine HP2.out.mono ?_
      rintro e w4 ⟨q4, n4, u4, y4, hs4, rfl, he4, hk4, rfl, hq4, hb4⟩
      have hc4 := upb hb4 (heap_alloc_new w2 (.cells #[.pointer q2, .int .i64 (hsz u' : Nat)] 38))
      have kc4 := two_c0 hc4
      have kd4 := two_c1 hc4
      have fc4 := two_f (o := 0) hc4
      have fd4 := two_f (o := 1) hc4
      have hlt := (fun b hb => (Hown.out.lt b hb).2)
      have hh : Head w t (hsz u') hs4 w2.heap.size q4 y4 (m + 1) v' ((w4.setCell ⟨w2.heap.size, 0, none⟩ (.pointer q4)).setCell ⟨w2.heap.size, 1, none⟩ (.int .i64 (hsz u4 : Nat))) := by
        refine ⟨acc ++ [y2], u4, by simp [Hm.out], ?_, hk4.symm, ?_, ?_, hws2, two_set hc4, hq4.store2 hc4 (by decide), fun e => by have h := hlt _ e; omega⟩
        · rw [he4]
          exact HI.out
        · rw [List.map_append]
          have h := rowUp Hown.out (belowTrans (belowAlloc w2 (.cells #[.pointer q2, .int .i64 (hsz u' : Nat)] 38)) hb4)
          exact ownsRow_setCell_other (ownsRow_setCell_other h (fun e => by have h := hlt _ e; simp at h) _) (fun e => by have h := hlt _ e; simp at h) _
        · exact belowSet2 (belowTrans Hb2.out (belowTrans (belowAlloc _ _) hb4)) hws2 _ _
      have Hh := Lib.hid hh
      have hk5 : hsz u' < gk := by have h := HK.out; simp at h; omega
      clear hh he4 hk4 hq4 hb4 hc4 hlt kc2 kd2
      go_wp2_with fail
      go_roundg (hsz u')
      case measure => exact hk5
      case rel => exact ⟨hs4, w2.heap.size, q4, y4, m + 1, rfl, rfl, rfl, Hh⟩
end Go.Proofs.Ytcjhbpnmkahkeaa.pair
