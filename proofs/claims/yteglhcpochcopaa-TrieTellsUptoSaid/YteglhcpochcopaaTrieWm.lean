/- Tries: Words, Under. -/
import Derived.Test.YteglhcpochcopaaTrieWo
import Derived.Test.YteglhcpochcopaaTrieDr
namespace Go.Proofs.Yteglhcpochcopaa.trie
open Go.RowKit

set_option maxHeartbeats 4000000 in
theorem Words_any (w : World) (p : Option Addr) (t : TT) (n : Nat) (h : In w t p) (hc : cnt t ≤ most) (hd : Deep t n) (hn : n ≤ 9223372036854775807) :
    Calls Try.prog 14 #[.agg #[.pointer p]] w (RetW w (words t [])) := by
  have h1 := belowAlloc w (.cells #[.pointer p] 26)
  have hz := heap_alloc_new w (.cells #[.pointer p] 26)
  obtain ⟨W, hW⟩ : ∃ W, W = w.alloc (.cells #[.pointer p] 26) := ⟨_, rfl⟩
  rw [← hW] at h1 hz
  have kz := cell_of_one hz
  have hC := words_any W t W p n [] (.slice none 0 0) [] ⟨h.up h1, Below.refl _ _, World.ownsRow_nil _ _ _ _, by simpa using hc, hd, by simpa using hn⟩
  rw [show sv [] = .string { data := #[] } from rfl] at hC
  have HC := Lib.hid (And.intro hC h1)
  have HW := Lib.hid hW
  clear hW hz h1 h hc hd hn hC
  go_enter Try.func14, Try.ntmps14
  go_wp2_with fail
  rw [← HW.out]
  go_wp2_with fail
  refine HC.out.1.mono ?_
  rintro e w1 ⟨v, rfl, ho, hg⟩
  have HF := Lib.hid (And.intro ho hg)
  clear ho hg
  go_wp2_with fail
  go_ret
  refine RetW.mk ?_ (belowTrans HC.out.2 (HF.out.2.to (Below.refl _ _) fun k hk => by cases hk))
  have := HF.out.1
  simpa using OwnW.lower this HC.out.2.size
set_option maxHeartbeats 4000000 in
theorem Under_any (w : World) (p : Option Addr) (t : TT) (s : Wd) (n : Nat) (h : In w t p) (hc : cnt t ≤ most) (hd : Deep t n) (hn : s.length + n ≤ 9223372036854775807) :
    Calls Try.prog 15 #[.agg #[.pointer p], sv s] w (RetW w (words (under t s) s)) := by
  have h1 := belowAlloc w (.cells #[.pointer p] 26)
  have hz := heap_alloc_new w (.cells #[.pointer p] 26)
  obtain ⟨W, hW⟩ : ∃ W, W = w.alloc (.cells #[.pointer p] 26) := ⟨_, rfl⟩
  rw [← hW] at h1 hz
  have kz := cell_of_one hz
  have hU := under_any W t p s (h.up h1)
  have hcu : cnt (under t s) ≤ most := Nat.le_trans (cnt_under t s) hc
  have hC : ∀ (V : World) (q : Option Addr), In V (under t s) q → Calls Try.prog 23 #[.pointer q, sv s, .slice none 0 0] V (RetWs V V (.slice none 0 0) ([] ++ words (under t s) s)) := fun V q hq =>
    words_any V (under t s) V q n s (.slice none 0 0) [] ⟨hq, Below.refl _ _, World.ownsRow_nil _ _ _ _, by simpa using hcu, deep_under s hd, hn⟩
  obtain ⟨xs, hxs⟩ : ∃ xs, xs = sv s := ⟨_, rfl⟩
  rw [← hxs] at hU hC ⊢
  have HC := Lib.hid (And.intro hU (And.intro h1 hC))
  have HW := Lib.hid hW
  clear hW hz h1 h hc hd hn hC hU hcu hxs
  go_enter Try.func15, Try.ntmps15
  go_wp2_with fail
  rw [← HW.out]
  go_wp2_with fail
  refine HC.out.1.mono ?_
  rintro e w1 ⟨q, rfl, hq, hb1⟩
  have HQ := Lib.hid (And.intro (HC.out.2.2 w1 q hq) (belowTrans HC.out.2.1 hb1))
  clear hq hb1
  go_wp2_with fail
  refine HQ.out.1.mono ?_
  rintro e w2 ⟨v, rfl, ho, hg⟩
  have HF := Lib.hid (And.intro ho hg)
  clear ho hg
  go_wp2_with fail
  go_ret
  refine RetW.mk ?_ (belowTrans HQ.out.2 (HF.out.2.to (Below.refl _ _) fun k hk => by cases hk))
  have := HF.out.1
  simpa using OwnW.lower this HQ.out.2.size
end Go.Proofs.Yteglhcpochcopaa.trie
