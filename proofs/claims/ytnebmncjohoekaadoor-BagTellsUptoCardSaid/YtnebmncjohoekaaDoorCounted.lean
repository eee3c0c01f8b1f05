/- The reference's Counted. -/
import Derived.Test.YtnebmncjohoekaaDoorKeyP
import Derived.Lib.MinMax
namespace Go.Proofs.YtnebmncjohoekaaDoor
open Go.RowKit

def counted (l : List (Int × Int)) (k n : Int) : List (Int × Int) := if n ≤ 0 then unkeyed l k else keyed l k (min n 1099511627776)
theorem RetL.as {w : World} {n m : Nat} {xs ys : List (Int × Int)} {e : Ending} {w' : World} (h : RetL w n xs e w') (hm : n = m) (hx : xs = ys) : RetL w m ys e w' := by subst hm hx; exact h
set_option maxHeartbeats 1000000 in
theorem Counted_any (a : Option Addr) (c n m : Nat) (l : List (Int × Int)) (k v : Int) (w : World) (hl : l.length = n) (hn : n ≤ 8796093022206) (hr : ReadsP w a l) (hm : (counted l k v).length = m) :
    Calls Tryd.prog 19 #[.slice a n c, .int .i64 k, .int .i64 v] w (RetL w m (counted l k v)) := by
  unfold counted at hm ⊢
  by_cases h0 : v ≤ 0
  · rw [if_pos h0] at hm ⊢
    have HC := Lib.hid (Unkeyed_any a c n m l k w hl (by omega) hr hm)
    clear hl hn hr hm
    go_enter Tryd.func19, Tryd.ntmps19
    go_wp2_with fail
    refine HC.out.mono ?_
    rintro e w1 ⟨a1, c1, rfl, ho, hb⟩
    have HO := Lib.hid (And.intro ho hb)
    clear ho hb
    go_wp2_with fail
    go_ret
    exact ⟨a1, c1, rfl, HO.out.1, HO.out.2⟩
  · rw [if_neg h0] at hm ⊢
    obtain ⟨q, hq⟩ : ∃ q, min v 1099511627776 = q := ⟨_, rfl⟩
    rw [hq] at hm ⊢
    have HC := Lib.hid (Keyed_any a c n m l k q w hl hn hr hm)
    clear hl hn hr hm
    go_enter Tryd.func19, Tryd.ntmps19
    go_wp2_with fail
    refine HC.out.mono ?_
    rintro e w1 ⟨a1, c1, rfl, ho, hb⟩
    have HO := Lib.hid (And.intro ho hb)
    clear ho hb
    go_wp2_with fail
    go_ret
    exact ⟨a1, c1, rfl, HO.out.1, HO.out.2⟩
end Go.Proofs.YtnebmncjohoekaaDoor
