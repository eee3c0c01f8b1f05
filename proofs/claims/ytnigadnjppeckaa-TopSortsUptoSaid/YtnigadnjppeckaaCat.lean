import Derived.Test.YtnigadnjppeckaaRowI
import Derived.Laws.AppendOwnNone
namespace Go.Proofs.Ytnigadnjppeckaa
open Go.RowKit

set_option maxHeartbeats 400000 in
theorem cat_some (x : Addr) (c : Nat) (xs : List Int) (w : World) (hb : xs.length * 8 ≤ 140737488351232)
    (hc' : ∀ j u, (xs.map (Value.int .i64))[j]? = some u → w.cell? (x.add j) = some u) :
    Calls Try.prog 9 #[.slice (some x) xs.length c, .slice none 0 0] w (RetI 3 w xs) := by
  obtain ⟨i0, hi, hz0, hz1, hz2⟩ := info_parts infoInt
  have Hc := Lib.hid hc'
  clear hc'
  go_enter Try.func9, Try.ntmps9
  go_wp2_with (at_builtin; refine wpList_append_own _ rfl (.tmp 6) (.tmp 7) 22 rfl w.heap.size 3 i0 (.int .i64 0) 1 8 Try.underlying22 hi hz0 hz1 hz2 rfl (by decide) _ 0 [] rfl (World.ownsRow_nil _ _ _ _) x xs.length c (xs.map (Value.int .i64)) rfl ?c1 Hc.out (ints_oneCell _ _) ?c2 ?c3 (Nat.le_refl _) ?_)
  case c1 => simp
  case c2 => unfold maxLen; omega
  case c3 => omega
  intro v' w1 hown hgrow hnil
  try simp only [Nat.zero_add, List.nil_append] at hown
  have Hn := Lib.hid hnil
  clear hnil
  have Hb := Below.grown (Below.refl w.heap.size w) hgrow (Nat.le_refl _) (by simp [Value.ownBlock])
  have Ho := Lib.hid hown
  clear hown hgrow
  go_wp2_with (at_builtin; refine wpList_append_own_none rfl (.tmp 9) (.tmp 10) 22 rfl w.heap.size 3 i0 1 Try.underlying22 hi v' _ _ rfl Ho.out rfl ?_)
  go_ret
  exact RetI.mk Ho.out Hb
set_option maxHeartbeats 400000 in
theorem cat_none (w : World) :
    Calls Try.prog 9 #[.slice none 0 0, .slice none 0 0] w (RetI 3 w []) := by
  obtain ⟨i0, hi, hz0, hz1, hz2⟩ := info_parts infoInt
  have Ho := Lib.hid (World.ownsRow_nil w w.heap.size 3 1)
  go_enter Try.func9, Try.ntmps9
  go_wp2_with (at_builtin; refine wpList_append_own_none rfl (.tmp 6) (.tmp 7) 22 rfl w.heap.size 3 i0 1 Try.underlying22 hi (.slice none 0 0) _ _ rfl Ho.out rfl ?_)
  go_wp2_with (at_builtin; refine wpList_append_own_none rfl (.tmp 9) (.tmp 10) 22 rfl w.heap.size 3 i0 1 Try.underlying22 hi (.slice none 0 0) _ _ rfl Ho.out rfl ?_)
  go_ret
  exact RetI.mk Ho.out (Below.refl _ _)

theorem cat_any (a : Option Addr) (c : Nat) (xs : List Int) (w : World) (hb : xs.length * 8 ≤ 140737488351232) (hr : Reads w a xs) (hn : a = none → c = 0) :
    Calls Try.prog 9 #[.slice a xs.length c, .slice none 0 0] w (RetI 3 w xs) := by
  cases a with
  | none =>
    obtain rfl := hn rfl
    rcases hr with rfl | ⟨b', o', h, _⟩
    · exact cat_none w
    · cases h
  | some x =>
    refine cat_some x c xs w hb ?_
    rcases hr with rfl | ⟨b', o', h, hc⟩
    · intro j u hu
      simp at hu
    · cases h
      exact cells_of_reads hc
end Go.Proofs.Ytnigadnjppeckaa
