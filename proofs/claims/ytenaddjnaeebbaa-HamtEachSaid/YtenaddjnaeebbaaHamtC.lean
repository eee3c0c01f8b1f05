/- Copies of slices: of pairs, of kids. -/
import Derived.Test.YtenaddjnaeebbaaHamtF
import Derived.Deep.RegionLaw
import Derived.Lib.SliceRun
namespace Go.Proofs.Ytenaddjnaeebbaa.hamt
open Go.RowKit

theorem infoK : (Try.prog.info? 23).map (fun i => (i.zero, i.size, i.bytes)) = some (some (.pointer none), 1, 8) := by kernel_rfl
def RetRow (E sz n : Nat) (xs : List Value) (w : World) (e : Ending) (w' : World) : Prop := ∃ a c, e = .returned (.slice a n c) ∧ w'.ownsRow w.heap.size E sz (.slice a n c) n xs ∧ Below w.heap.size w w'
theorem rowVal {w : World} {B E sz n : Nat} {v : Value} {xs : List Value} (h : w.ownsRow B E sz v n xs) : ∃ a c, v = .slice a n c := by
  rcases h.2 with ⟨rfl, h0⟩ | ⟨g, cap, cur, rfl, _⟩
  · exact ⟨none, 0, by rw [h0]⟩
  · exact ⟨_, _, rfl⟩
set_option maxRecDepth 100000 in
set_option maxHeartbeats 1000000 in
theorem CloneP (B n : Nat) (v : Value) (xs : List Value) (w : World) (ho : w.ownsRow B 31 2 v n xs) (h1 : ∀ u ∈ xs, u.oneCell' = true) (hn : n ≤ 8796093022208) :
    Calls Try.prog 47 #[v] w (RetRow 31 2 n xs w) := by
  have hx : xs.length = n * 2 := ho.1
  have q22 : ∀ (W : World) (a : Option Addr) (n c n' c' : Nat), (binOp .eql 28 (.slice a n c) (.slice none n' c')).run Try.prog W = .ok (.bool a.isNone) W := fun W a n c n' c' => Lib.run_eql_slice_nil W _ _ a n c n' c' Try.underlying28
  rcases ho.2 with ⟨rfl, h0⟩ | ⟨g, cap, cur, rfl, hB, hg, hnc, _, hc, ht⟩
  · have hxs : xs = [] := List.eq_nil_of_length_eq_zero (by omega)
    subst hxs h0
    clear ho h1
    go_enter Try.func47, Try.ntmps47
    go_wp2_with fail
    go_ret
    exact ⟨none, 0, rfl, World.ownsRow_nil _ _ _ _, Below.refl _ _⟩
  · obtain ⟨i0, hi, hz0, hz1, hz2⟩ := info_parts infoP
    have HX := Lib.hid (And.intro hx h1)
    have HO := Lib.hid (fun j u hu => World.ownsRow.cells (h := ho) (g := g) rfl j u hu)
    have Hi := Lib.hid (And.intro hi (And.intro hz0 (And.intro hz1 hz2)))
    clear ho hx h1 hg hc ht hi hz0 hz1 hz2
    go_enter Try.func47, Try.ntmps47
    go_wp2_with (at_builtin; obtain ⟨hi, hz0, hz1, hz2⟩ := Hi.out; refine wpList_append_own _ rfl _ _ 28 rfl w.heap.size 31 i0 (.agg #[.int .i64 0, .int .i64 0]) 2 16 Try.underlying28 hi hz0 hz1 hz2 rfl (by decide) _ _ _ rfl (World.ownsRow_made w #[] 0 (Nat.le_refl _) (Nat.zero_le _) (by simp)) ⟨g, 0, none⟩ n cap xs rfl ?c1 ?c2 ?c3 ?c4 ?c5 ?c6 ?_)
    case c1 => exact HX.out.1
    case c2 => exact fun j u hu => upc (belowAlloc _ _) (HO.out j u hu)
    case c3 => exact HX.out.2
    case c4 => unfold maxLen; omega
    case c5 => omega
    case c6 => simp
    intro v' w1 hown hgrow _
    have hb := ((Below.refl _ w).alloc (Nat.le_refl _) _).grown hgrow (by simp) (by intro k hk; simp [Value.ownBlock] at hk; omega)
    have HZ := Lib.hid (And.intro hown hb)
    clear hown hgrow hb
    obtain ⟨a, c, rfl⟩ := rowVal HZ.out.1
    go_wp2_with fail
    go_ret
    exact ⟨a, c, rfl, HZ.out.1, HZ.out.2⟩
set_option maxRecDepth 100000 in
set_option maxHeartbeats 1000000 in
theorem CloneK (B n : Nat) (v : Value) (xs : List Value) (w : World) (ho : w.ownsRow B 23 1 v n xs) (h1 : ∀ u ∈ xs, u.oneCell' = true) (hn : n ≤ 8796093022208) :
    Calls Try.prog 48 #[v] w (RetRow 23 1 n xs w) := by
  have hx : xs.length = n * 1 := ho.1
  have q22 : ∀ (W : World) (a : Option Addr) (n c n' c' : Nat), (binOp .eql 60 (.slice a n c) (.slice none n' c')).run Try.prog W = .ok (.bool a.isNone) W := fun W a n c n' c' => Lib.run_eql_slice_nil W _ _ a n c n' c' Try.underlying60
  rcases ho.2 with ⟨rfl, h0⟩ | ⟨g, cap, cur, rfl, hB, hg, hnc, _, hc, ht⟩
  · have hxs : xs = [] := List.eq_nil_of_length_eq_zero (by omega)
    subst hxs h0
    clear ho h1
    go_enter Try.func48, Try.ntmps48
    go_wp2_with fail
    go_ret
    exact ⟨none, 0, rfl, World.ownsRow_nil _ _ _ _, Below.refl _ _⟩
  · obtain ⟨i0, hi, hz0, hz1, hz2⟩ := info_parts infoK
    have HX := Lib.hid (And.intro hx h1)
    have HO := Lib.hid (fun j u hu => World.ownsRow.cells (h := ho) (g := g) rfl j u hu)
    have Hi := Lib.hid (And.intro hi (And.intro hz0 (And.intro hz1 hz2)))
    clear ho hx h1 hg hc ht hi hz0 hz1 hz2
    go_enter Try.func48, Try.ntmps48
    go_wp2_with (at_builtin; obtain ⟨hi, hz0, hz1, hz2⟩ := Hi.out; refine wpList_append_own _ rfl _ _ 60 rfl w.heap.size 23 i0 (.pointer none) 1 8 Try.underlying60 hi hz0 hz1 hz2 rfl (by decide) _ _ _ rfl (World.ownsRow_made w #[] 0 (Nat.le_refl _) (Nat.zero_le _) (by simp)) ⟨g, 0, none⟩ n cap xs rfl ?c1 ?c2 ?c3 ?c4 ?c5 ?c6 ?_)
    case c1 => exact HX.out.1
    case c2 => exact fun j u hu => upc (belowAlloc _ _) (HO.out j u hu)
    case c3 => exact HX.out.2
    case c4 => unfold maxLen; omega
    case c5 => omega
    case c6 => simp
    intro v' w1 hown hgrow _
    have hb := ((Below.refl _ w).alloc (Nat.le_refl _) _).grown hgrow (by simp) (by intro k hk; simp [Value.ownBlock] at hk; omega)
    have HZ := Lib.hid (And.intro hown hb)
    clear hown hgrow hb
    obtain ⟨a, c, rfl⟩ := rowVal HZ.out.1
    go_wp2_with fail
    go_ret
    exact ⟨a, c, rfl, HZ.out.1, HZ.out.2⟩
end Go.Proofs.Ytenaddjnaeebbaa.hamt
