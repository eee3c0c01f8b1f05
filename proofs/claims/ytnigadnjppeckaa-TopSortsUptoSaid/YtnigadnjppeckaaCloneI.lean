/- slices.Clone of a row of numbers: the library's own text. (Printed by ci.py.) -/
import Derived.Test.YtnigadnjppeckaaMore
import Derived.Test.YtnigadnjppeckaaTwo
import Derived.Test.YtnigadnjppeckaaRows
import Derived.Test.YtnigadnjppeckaaGather
import Derived.Test.YtnigadnjppeckaaCat
import Derived.Test.YtnigadnjppeckaaAppRow
import Derived.Lib.SliceRun
import Derived.BigGuard
namespace Go.Proofs.Ytnigadnjppeckaa.cloneI
open Go.RowKit
theorem addr_add (b o i : Nat) : (⟨b, o, none⟩ : Addr).add i = ⟨b, o + i, none⟩ := by unfold Addr.add; split <;> simp_all
set_option maxRecDepth 100000 in
set_option maxHeartbeats 2000000 in
theorem clone_any (w : World) (a : Option Addr) (c : Nat) (ps : List Int) (hr : Reads w a ps) (hnone : a = none → c = 0) (hn : ps.length ≤ 17592186044400) :
    Calls Try.prog 111 #[.slice a ps.length c] w (RetI 3 w ps) := by
  obtain ⟨i0, hi, hz0, hz1, hz2⟩ := info_parts infoInt
  cases a with
  | none =>
    have hps : ps = [] := by
      rcases hr with h | ⟨b, o, h, _⟩
      · exact h
      · cases h
    subst hps
    obtain rfl : c = 0 := hnone rfl
    clear hi hz0 hz1 hz2 hr hnone
    have hnil : ∀ W, (binOp .eql 22 (.slice none 0 0) (.slice none 0 0)).run Try.prog W = .ok (.bool true) W := fun W => Lib.run_eql_slice_nil W 22 3 none 0 0 0 0 Try.underlying22
    go_enter Try.func111, Try.ntmps111
    go_wp2_with fail
    go_ret
    exact RetI.mk (World.ownsRow_nil _ _ _ _) (Below.refl _ _)
  | some ad =>
    have hnil : ∀ W, (binOp .eql 22 (.slice (some ad) ps.length c) (.slice none 0 0)).run Try.prog W = .ok (.bool false) W := fun W => Lib.run_eql_slice_nil W 22 3 (some ad) ps.length c 0 0 Try.underlying22
    have hsome : ∀ y, (some ad : Option Addr) = some y → ∀ j u, (ps.map (Value.int .i64))[j]? = some u → (w.alloc (.cells #[] 3)).cell? (y.add j) = some u := by
      intro y hy j u hu
      cases hy
      have hj : j < ps.length := by have := (List.getElem?_eq_some_iff.1 hu).1; simpa using this
      rcases hr with h | ⟨b, o, h, h3⟩
      · rw [h] at hj; simp at hj
      · cases h
        rw [addr_add]
        refine upc (belowAlloc _ _) ?_
        rw [h3 j hj]
        rw [List.getElem?_map, List.getElem?_eq_getElem hj] at hu
        simpa [List.getD_eq_getElem?_getD, hj] using hu
    have Hsome := Lib.hid hsome
    have Hi := Lib.hid (And.intro hi (And.intro hz0 (And.intro hz1 hz2)))
    have Hown := Lib.hid (own_empty (w := w) (E := 3) (s := 1) (heap_alloc_new w (.cells #[] 3)))
    clear hi hz0 hz1 hz2 hr hnone hsome
    go_enter Try.func111, Try.ntmps111
    go_wp2_with (at_builtin; obtain ⟨hi, hz0, hz1, hz2⟩ := Hi.out; refine wpList_append_row _ rfl (.tmp 5) (.tmp 6) 22 rfl w.heap.size 3 i0 (.int .i64 0) 1 8 Try.underlying22 hi hz0 hz1 hz2 rfl (by decide) (.slice (some ⟨w.heap.size, 0, none⟩) 0 0) 0 [] rfl Hown.out (some ad) ps.length c (ps.map (Value.int .i64)) rfl ?c0 ?c1 Hsome.out ?c5 ?c2 ?c3 ?c4 ?_)
    case c0 => intro h; cases h
    case c1 => simp
    case c5 => intro u hu; obtain ⟨y, _, rfl⟩ := List.mem_map.1 hu; rfl
    case c2 => unfold maxLen; omega
    case c3 => omega
    case c4 => simp
    intro v' w2 hown2 hgrow2
    have hb2 : Below w.heap.size w w2 := Below.grown (belowAlloc w (.cells #[] 3)) hgrow2 (by simp) (fun k hk => by cases hk; exact Nat.le_refl _)
    have hO : OwnI 3 w2 w.heap.size v' ps := by
      unfold OwnI
      simpa using hown2
    have HO := Lib.hid (And.intro hO hb2)
    clear hown2 hgrow2 hb2 hO
    go_wp2_with fail
    go_ret
    exact RetI.mk HO.out.1 HO.out.2
end Go.Proofs.Ytnigadnjppeckaa.cloneI
