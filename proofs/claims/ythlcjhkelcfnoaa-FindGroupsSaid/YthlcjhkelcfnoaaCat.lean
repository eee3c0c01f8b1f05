import Derived.Test.YthlcjhkelcfnoaaBase
import Derived.Test.YthlcjhkelcfnoaaRows
import Derived.Laws.AppendOwnNone
namespace Go.Proofs.Ythlcjhkelcfnoaa
open Go.RowKit

theorem infoInt : (Try.prog.info? 3).map (fun i => (i.zero, i.size, i.bytes)) = some (some (.int .i64 0), 1, 8) := by kernel_rfl

/-- a slice of ints that the call itself made: nil, or a block of its own from block B on -/
def OwnI (E : Nat) (w : World) (B : Nat) (v : Value) (xs : List Int) : Prop := w.ownsRow B E 1 v xs.length (xs.map (Value.int .i64))

theorem OwnI.form {E B : Nat} {w : World} {v : Value} {xs : List Int} (h : OwnI E w B v xs) :
    ∃ a c, v = .slice a xs.length c ∧ (a = none → c = 0) ∧ Reads w a xs ∧ ∀ x, a = some x → ∃ g, x = ⟨g, 0, none⟩ ∧ B ≤ g ∧ g < w.heap.size := by
  rcases h.2 with ⟨rfl, h0⟩ | ⟨g, cap, cur, rfl, hB, hg, hn, _, hc, ht⟩
  · refine ⟨none, 0, by rw [h0], fun _ => rfl, .inl (List.eq_nil_of_length_eq_zero h0), fun x h => by cases h⟩
  · refine ⟨some ⟨g, 0, none⟩, cap, rfl, fun h => (by cases h), .inr ⟨g, 0, rfl, fun i hi => ?_⟩, fun x hx => ?_⟩
    · have hcell := h.cells (g := g) rfl i (.int .i64 (xs.getD i 0)) (by simp [List.getD_eq_getElem?_getD, hi])
      have e : (⟨g, 0, none⟩ : Addr).add i = ⟨g, 0 + i, none⟩ := by unfold Addr.add; split <;> simp_all
      rw [e] at hcell
      exact hcell
    · cases hx
      exact ⟨g, rfl, hB, (Array.getElem?_eq_some_iff.1 hg).1⟩

/-- what a call that hands back a new slice of ints leaves -/
def RetI (E : Nat) (w : World) (xs : List Int) (e : Ending) (w' : World) : Prop :=
  ∃ a c, e = .returned (.slice a xs.length c) ∧ OwnI E w' w.heap.size (.slice a xs.length c) xs ∧ Below w.heap.size w w'
theorem RetI.mk {E : Nat} {w w' : World} {xs : List Int} {v : Value} (h : OwnI E w' w.heap.size v xs) (hb : Below w.heap.size w w') : RetI E w xs (.returned v) w' := by
  obtain ⟨a, c, rfl, _⟩ := h.form
  exact ⟨a, c, rfl, h, hb⟩

theorem cells_of_reads {w : World} {b o : Nat} {xs : List Int} (h : ∀ i, i < xs.length → w.cell? ⟨b, o + i, none⟩ = some (.int .i64 (xs.getD i 0))) :
    ∀ j u, (xs.map (Value.int .i64))[j]? = some u → w.cell? ((⟨b, o, none⟩ : Addr).add j) = some u := by
  intro j u hu
  rw [List.getElem?_map] at hu
  cases hx : xs[j]? with
  | none => simp [hx] at hu
  | some x =>
    simp [hx] at hu
    subst hu
    have hj : j < xs.length := by
      rcases Nat.lt_or_ge j xs.length with h | h
      · exact h
      · rw [List.getElem?_eq_none h] at hx; cases hx
    have e : (⟨b, o, none⟩ : Addr).add j = ⟨b, o + j, none⟩ := by unfold Addr.add; split <;> simp_all
    rw [e, h j hj]
    simp [List.getD_eq_getElem?_getD, hx]

set_option maxHeartbeats 400000 in
theorem cat_some (x : Addr) (c : Nat) (xs : List Int) (w : World) (hb : xs.length * 8 ≤ 140737488351232)
    (hc' : ∀ j u, (xs.map (Value.int .i64))[j]? = some u → w.cell? (x.add j) = some u) :
    Calls Try.prog 11 #[.slice (some x) xs.length c, .slice none 0 0] w (RetI 3 w xs) := by
  obtain ⟨i0, hi, hz0, hz1, hz2⟩ := info_parts infoInt
  have Hc := Lib.hid hc'
  clear hc'
  go_enter Try.func11, Try.ntmps11
  go_wp2_with (at_builtin; refine wpList_append_own _ rfl (.tmp 6) (.tmp 7) 30 rfl w.heap.size 3 i0 (.int .i64 0) 1 8 Try.underlying30 hi hz0 hz1 hz2 rfl (by decide) _ 0 [] rfl (World.ownsRow_nil _ _ _ _) x xs.length c (xs.map (Value.int .i64)) rfl ?c1 Hc.out (ints_oneCell _ _) ?c2 ?c3 (Nat.le_refl _) ?_)
  case c1 => simp
  case c2 => unfold maxLen; omega
  case c3 => omega
  intro v' w1 hown hgrow hnil
  try simp only [Nat.zero_add, List.nil_append] at hown
  have Hn := Lib.hid hnil
  clear hnil
  have Hb := Below.grown (Below.refl w.heap.size w) hgrow (Nat.le_refl _) (by simp [Value.ownBlock])
  have Ho := Lib.hid hown
  clear hown hgrow
  go_wp2_with (at_builtin; refine wpList_append_own_none rfl (.tmp 9) (.tmp 10) 30 rfl w.heap.size 3 i0 1 Try.underlying30 hi v' _ _ rfl Ho.out rfl ?_)
  go_ret
  exact RetI.mk Ho.out Hb
set_option maxHeartbeats 400000 in
theorem cat_none (w : World) :
    Calls Try.prog 11 #[.slice none 0 0, .slice none 0 0] w (RetI 3 w []) := by
  obtain ⟨i0, hi, hz0, hz1, hz2⟩ := info_parts infoInt
  have Ho := Lib.hid (World.ownsRow_nil w w.heap.size 3 1)
  go_enter Try.func11, Try.ntmps11
  go_wp2_with (at_builtin; refine wpList_append_own_none rfl (.tmp 6) (.tmp 7) 30 rfl w.heap.size 3 i0 1 Try.underlying30 hi (.slice none 0 0) _ _ rfl Ho.out rfl ?_)
  go_wp2_with (at_builtin; refine wpList_append_own_none rfl (.tmp 9) (.tmp 10) 30 rfl w.heap.size 3 i0 1 Try.underlying30 hi (.slice none 0 0) _ _ rfl Ho.out rfl ?_)
  go_ret
  exact RetI.mk Ho.out (Below.refl _ _)

theorem cat_any (a : Option Addr) (c : Nat) (xs : List Int) (w : World) (hb : xs.length * 8 ≤ 140737488351232) (hr : Reads w a xs) (hn : a = none → c = 0) :
    Calls Try.prog 11 #[.slice a xs.length c, .slice none 0 0] w (RetI 3 w xs) := by
  cases a with
  | none =>
    obtain rfl := hn rfl
    rcases hr with rfl | ⟨b', o', h, _⟩
    · exact cat_none w
    · cases h
  | some x =>
    refine cat_some x c xs w hb ?_
    rcases hr with rfl | ⟨b', o', h, hc⟩
    · intro j u hu
      simp at hu
    · cases h
      exact cells_of_reads hc
end Go.Proofs.Ythlcjhkelcfnoaa
