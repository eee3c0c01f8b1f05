/- What a world keeps, by the types of its blocks; rows of words with their values. -/
import Derived.Test.YteglhcpochcopaaMore
import Derived.Test.YteglhcpochcopaaTrieS
import Derived.Laws.AppendOwnNone
namespace Go.Proofs.Yteglhcpochcopaa.trie
open Go.RowKit

/-- each block that is of none of these types is as it was -/
def KeepT (T : List Nat) (w w' : World) : Prop := ∀ (k : Nat) (c : Array Value) (ty : Nat) (fz : Nat × Nat), w.heap[k]? = some (Obj.cells c ty fz) → ty ∉ T → w'.heap[k]? = some (Obj.cells c ty fz)
theorem KeepT.refl (T : List Nat) (w : World) : KeepT T w w := fun _ _ _ _ h _ => h
theorem KeepT.trans {T : List Nat} {w w1 w2 : World} (h : KeepT T w w1) (h' : KeepT T w1 w2) : KeepT T w w2 := fun k c ty fz hk ht => h' k c ty fz (h k c ty fz hk ht) ht
theorem KeepT.of {T : List Nat} {w w' : World} (h : Below w.heap.size w w') : KeepT T w w' := fun _ _ _ _ hk _ => upb h hk
theorem KeepT.more {T T' : List Nat} {w w' : World} (h : KeepT T w w') (ht : ∀ x, x ∈ T → x ∈ T') : KeepT T' w w' := fun k c ty fz hk hn => h k c ty fz hk fun e => hn (ht _ e)
theorem KeepT.set {T : List Nat} {w : World} {a : Addr} {c : Array Value} {ty : Nat} {fz : Nat × Nat} (ha : w.heap[a.block]? = some (.cells c ty fz)) (ht : ty ∈ T) (u : Value) : KeepT T w (w.setCell a u) := by
  intro k c' ty' fz' hk hn
  refine (Below.heap_setCell _ _ _ _ ?_).trans hk
  rintro rfl
  rw [ha] at hk
  cases hk
  exact hn ht
theorem KeepT.grown {E base n sz : Nat} {v : Value} {xs : List Value} {w w1 : World} {o : Obj} (hown : w.ownsRow base E sz v n xs) (hg : (w.alloc o).grownBy w1 v.ownBlock) : KeepT [E] w w1 := by
  intro k c ty fz hk hn
  have hb := (Array.getElem?_eq_some_iff.1 hk).1
  refine ((hg.block k (by simp; omega) ?_).trans (Below.heap_alloc w o k hb)).trans hk
  intro e
  rcases hown.2 with ⟨rfl, _⟩ | ⟨g, cap, cur, rfl, _, hgc, _⟩
  · cases e
  · cases e
    rw [hgc] at hk
    cases hk
    simp at hn
theorem rowKeep {T : List Nat} {w w' : World} {B E size n : Nat} {v : Value} {xs : List Value} (h : w.ownsRow B E size v n xs) (hk : KeepT T w w') (ht : E ∉ T) : w'.ownsRow B E size v n xs := by
  refine ⟨h.1, ?_⟩
  rcases h.2 with h' | ⟨g, cap, cur, rfl, hg, hc, r⟩
  · exact .inl h'
  · exact .inr ⟨g, cap, cur, rfl, hg, hk _ _ _ _ hc ht, r⟩
/-- the cells of an own row -/
theorem rowCell {w : World} {base E sz n : Nat} {v : Value} {xs : List Value} (h : w.ownsRow base E sz v n xs) (hn : 0 < n) :
    ∃ g cap, v = .slice (some ⟨g, 0, none⟩) n cap ∧ base ≤ g ∧ n ≤ cap ∧ ∀ i u, xs[i]? = some u → w.cell? ⟨g, i, none⟩ = some u := by
  rcases h.2 with ⟨rfl, h0⟩ | ⟨g, cap, cur, rfl, hB, hg, hnc, _, hc, ht⟩
  · omega
  · refine ⟨g, cap, rfl, hB, hnc, fun i u hu => ?_⟩
    have hcell := h.cells (g := g) rfl i u hu
    have e : (⟨g, 0, none⟩ : Addr).add i = ⟨g, 0 + i, none⟩ := by unfold Addr.add; split <;> simp_all
    rw [e] at hcell
    simpa using hcell
theorem rowUp {w w' : World} {B E size n : Nat} {v : Value} {xs : List Value} (h : w.ownsRow B E size v n xs) (hb : Below w.heap.size w w') : w'.ownsRow B E size v n xs := by
  refine ⟨h.1, ?_⟩
  rcases h.2 with h' | ⟨g, cap, cur, rfl, hg, hc, r⟩
  · exact .inl h'
  · exact .inr ⟨g, cap, cur, rfl, hg, upb hb hc, r⟩

theorem infoW : (Try.prog.info? 29).map (fun i => (i.zero, i.size, i.bytes)) = some (some (.agg #[.string { data := #[] }, .int .i64 0]), 2, 24) := by kernel_rfl

/-- the cells of words -/
def cellsW : List (Wd × Int) → List Value
  | [] => []
  | p :: t => sv p.1 :: .int .i64 p.2 :: cellsW t
theorem cellsW_length (xs : List (Wd × Int)) : (cellsW xs).length = xs.length * 2 := by
  induction xs with
  | nil => rfl
  | cons p t ih => simp only [cellsW, List.length_cons, ih]; omega
theorem cellsW_append (xs ys : List (Wd × Int)) : cellsW (xs ++ ys) = cellsW xs ++ cellsW ys := by
  induction xs with
  | nil => rfl
  | cons p t ih => simp [cellsW, ih]
theorem cellsW_at (xs : List (Wd × Int)) : ∀ i, i < xs.length → (cellsW xs)[i * 2]? = some (sv (xs.getD i ([], 0)).1) ∧ (cellsW xs)[i * 2 + 1]? = some (.int .i64 (xs.getD i ([], 0)).2) := by
  induction xs with
  | nil => intro i h; simp at h
  | cons p t ih =>
    intro i h
    cases i with
    | zero => simp [cellsW]
    | succ i =>
      have := ih i (by simpa using h)
      simpa [cellsW, Nat.add_mul] using this
theorem cellsW_one (xs : List (Wd × Int)) : ∀ u ∈ cellsW xs, u.oneCell' = true := by
  induction xs with
  | nil => intro u h; cases h
  | cons p t ih =>
    intro u h
    simp only [cellsW, List.mem_cons] at h
    rcases h with rfl | rfl | h
    · rfl
    · rfl
    · exact ih u h

/-- a slice of words of the call's own -/
def OwnW (w : World) (B : Nat) (v : Value) (xs : List (Wd × Int)) : Prop := w.ownsRow B 29 2 v xs.length (cellsW xs)
/-- a slice that reads as a list of words -/
def ReadsW (w : World) (a : Option Addr) (xs : List (Wd × Int)) : Prop :=
  xs = [] ∨ ∃ b o, a = some ⟨b, o, none⟩ ∧ ∀ i, i < xs.length → w.cell? ⟨b, o + i * 2, none⟩ = some (sv (xs.getD i ([], 0)).1) ∧ w.cell? ⟨b, o + i * 2 + 1, none⟩ = some (.int .i64 (xs.getD i ([], 0)).2)
theorem ReadsW.up {w w' : World} {a : Option Addr} {xs : List (Wd × Int)} (h : ReadsW w a xs) (hb : Below w.heap.size w w') : ReadsW w' a xs := by
  rcases h with h | ⟨b, o, ha, h⟩
  · exact .inl h
  · exact .inr ⟨b, o, ha, fun i hi => ⟨upc hb (h i hi).1, upc hb (h i hi).2⟩⟩
theorem ReadsW.at {w : World} {a : Option Addr} {xs : List (Wd × Int)} (h : ReadsW w a xs) {k : Nat} (hk : k < xs.length) :
    ∃ b o, a = some ⟨b, o, none⟩ ∧ w.cell? ⟨b, o + k * 2, none⟩ = some (sv (xs.getD k ([], 0)).1) ∧ w.cell? ⟨b, o + k * 2 + 1, none⟩ = some (.int .i64 (xs.getD k ([], 0)).2) := by
  rcases h with h | ⟨b, o, ha, hc⟩
  · rw [h] at hk; simp at hk
  · exact ⟨b, o, ha, (hc k hk).1, (hc k hk).2⟩
theorem OwnW.form {w : World} {B : Nat} {v : Value} {xs : List (Wd × Int)} (h : OwnW w B v xs) : ∃ a c, v = .slice a xs.length c ∧ (a = none → c = 0) ∧ ReadsW w a xs ∧ ∀ x, a = some x → ∃ g, x = ⟨g, 0, none⟩ ∧ B ≤ g ∧ g < w.heap.size := by
  rcases h.2 with ⟨rfl, h0⟩ | ⟨g, cap, cur, rfl, hB, hg, hn, _, hc, ht⟩
  · exact ⟨none, 0, by rw [h0], fun _ => rfl, .inl (List.eq_nil_of_length_eq_zero h0), fun x h => by cases h⟩
  · refine ⟨some ⟨g, 0, none⟩, cap, rfl, fun h => (by cases h), .inr ⟨g, 0, rfl, fun i hi => ?_⟩, fun x hx => by cases hx; exact ⟨g, rfl, hB, (Array.getElem?_eq_some_iff.1 hg).1⟩⟩
    have hz : 0 < xs.length := by omega
    obtain ⟨g', cap', e, _, _, hcell⟩ := rowCell h hz
    cases e
    obtain ⟨h1, h2⟩ := cellsW_at xs i hi
    have r1 := hcell _ _ h1
    have r2 := hcell _ _ h2
    simpa using ⟨r1, r2⟩
theorem OwnW.up {B : Nat} {v : Value} {xs : List (Wd × Int)} {w w' : World} (h : OwnW w B v xs) (hb : Below w.heap.size w w') : OwnW w' B v xs := rowUp h hb
theorem OwnW.keep {T : List Nat} {B : Nat} {v : Value} {xs : List (Wd × Int)} {w w' : World} (h : OwnW w B v xs) (hk : KeepT T w w') (ht : 29 ∉ T) : OwnW w' B v xs := rowKeep h hk ht
theorem OwnW.reads {B : Nat} {a : Option Addr} {n c : Nat} {xs : List (Wd × Int)} {w : World} (h : OwnW w B (.slice a n c) xs) : ReadsW w a xs := by
  obtain ⟨a', c', e, _, hr, _⟩ := h.form
  cases e
  exact hr
theorem OwnW.lower {w : World} {B B' : Nat} {v : Value} {xs : List (Wd × Int)} (h : OwnW w B v xs) (hb : B' ≤ B) : OwnW w B' v xs := by
  refine ⟨h.1, ?_⟩
  rcases h.2 with h | ⟨g, cap, cur, hv, hg, r⟩
  · exact .inl h
  · exact .inr ⟨g, cap, cur, hv, Nat.le_trans hb hg, r⟩
theorem OwnW.block {B : Nat} {v : Value} {xs : List (Wd × Int)} {w : World} (h : OwnW w B v xs) : ∀ b, v.ownBlock = some b → B ≤ b ∧ b < w.heap.size := fun b hb => World.ownsRow.lt h b hb

/-- what a call that hands back a new slice of words leaves -/
def RetW (w : World) (xs : List (Wd × Int)) (e : Ending) (w' : World) : Prop :=
  ∃ a c, e = .returned (.slice a xs.length c) ∧ OwnW w' w.heap.size (.slice a xs.length c) xs ∧ Below w.heap.size w w'
theorem RetW.mk {w w' : World} {xs : List (Wd × Int)} {v : Value} (h : OwnW w' w.heap.size v xs) (hb : Below w.heap.size w w') : RetW w xs (.returned v) w' := by
  obtain ⟨a, c, rfl, _⟩ := h.form
  exact ⟨a, c, rfl, h, hb⟩
end Go.Proofs.Yteglhcpochcopaa.trie
