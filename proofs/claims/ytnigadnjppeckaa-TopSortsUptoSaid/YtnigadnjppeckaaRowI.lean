/- Rows of numbers. -/
import Derived.Test.YtnigadnjppeckaaBase
import Derived.Test.YtnigadnjppeckaaRows
import Derived.Laws.AppendOwnNone
namespace Go.Proofs.Ytnigadnjppeckaa
open Go.RowKit

theorem infoInt : (Try.prog.info? 3).map (fun i => (i.zero, i.size, i.bytes)) = some (some (.int .i64 0), 1, 8) := by kernel_rfl

/-- a slice of ints that the call itself made: nil, or a block of its own from block B on -/
def OwnI (E : Nat) (w : World) (B : Nat) (v : Value) (xs : List Int) : Prop := w.ownsRow B E 1 v xs.length (xs.map (Value.int .i64))

theorem OwnI.form {E B : Nat} {w : World} {v : Value} {xs : List Int} (h : OwnI E w B v xs) :
    ∃ a c, v = .slice a xs.length c ∧ (a = none → c = 0) ∧ Reads w a xs ∧ ∀ x, a = some x → ∃ g, x = ⟨g, 0, none⟩ ∧ B ≤ g ∧ g < w.heap.size := by
  rcases h.2 with ⟨rfl, h0⟩ | ⟨g, cap, cur, rfl, hB, hg, hn, _, hc, ht⟩
  · refine ⟨none, 0, by rw [h0], fun _ => rfl, .inl (List.eq_nil_of_length_eq_zero h0), fun x h => by cases h⟩
  · refine ⟨some ⟨g, 0, none⟩, cap, rfl, fun h => (by cases h), .inr ⟨g, 0, rfl, fun i hi => ?_⟩, fun x hx => ?_⟩
    · have hcell := h.cells (g := g) rfl i (.int .i64 (xs.getD i 0)) (by simp [List.getD_eq_getElem?_getD, hi])
      have e : (⟨g, 0, none⟩ : Addr).add i = ⟨g, 0 + i, none⟩ := by unfold Addr.add; split <;> simp_all
      rw [e] at hcell
      exact hcell
    · cases hx
      exact ⟨g, rfl, hB, (Array.getElem?_eq_some_iff.1 hg).1⟩

/-- what a call that hands back a new slice of ints leaves -/
def RetI (E : Nat) (w : World) (xs : List Int) (e : Ending) (w' : World) : Prop :=
  ∃ a c, e = .returned (.slice a xs.length c) ∧ OwnI E w' w.heap.size (.slice a xs.length c) xs ∧ Below w.heap.size w w'
theorem RetI.mk {E : Nat} {w w' : World} {xs : List Int} {v : Value} (h : OwnI E w' w.heap.size v xs) (hb : Below w.heap.size w w') : RetI E w xs (.returned v) w' := by
  obtain ⟨a, c, rfl, _⟩ := h.form
  exact ⟨a, c, rfl, h, hb⟩

theorem cells_of_reads {w : World} {b o : Nat} {xs : List Int} (h : ∀ i, i < xs.length → w.cell? ⟨b, o + i, none⟩ = some (.int .i64 (xs.getD i 0))) :
    ∀ j u, (xs.map (Value.int .i64))[j]? = some u → w.cell? ((⟨b, o, none⟩ : Addr).add j) = some u := by
  intro j u hu
  rw [List.getElem?_map] at hu
  cases hx : xs[j]? with
  | none => simp [hx] at hu
  | some x =>
    simp [hx] at hu
    subst hu
    have hj : j < xs.length := by
      rcases Nat.lt_or_ge j xs.length with h | h
      · exact h
      · rw [List.getElem?_eq_none h] at hx; cases hx
    have e : (⟨b, o, none⟩ : Addr).add j = ⟨b, o + j, none⟩ := by unfold Addr.add; split <;> simp_all
    rw [e, h j hj]
    simp [List.getD_eq_getElem?_getD, hx]

theorem OwnI.up {E B : Nat} {v : Value} {xs : List Int} {w w' : World} (h : OwnI E w B v xs) (hb : Below w.heap.size w w') : OwnI E w' B v xs := by
  refine ⟨h.1, ?_⟩
  rcases h.2 with h' | ⟨g, cap, cur, rfl, hg, hc, r⟩
  · exact .inl h'
  · exact .inr ⟨g, cap, cur, rfl, hg, upb hb hc, r⟩
theorem OwnI.reads {E B : Nat} {a : Option Addr} {n c : Nat} {xs : List Int} {w : World} (h : OwnI E w B (.slice a n c) xs) : Reads w a xs := by
  obtain ⟨a', c', e, _, hr, _⟩ := h.form
  cases e
  exact hr
theorem OwnI.none {E B : Nat} {a : Option Addr} {n c : Nat} {xs : List Int} {w : World} (h : OwnI E w B (.slice a n c) xs) : a = none → c = 0 := by
  obtain ⟨a', c', e, hn, _, _⟩ := h.form
  cases e
  exact hn
theorem OwnI.block {E B : Nat} {v : Value} {xs : List Int} {w : World} (h : OwnI E w B v xs) : ∀ b, v.ownBlock = some b → B ≤ b ∧ b < w.heap.size := fun b hb => World.ownsRow.lt h b hb

end Go.Proofs.Ytnigadnjppeckaa
