/- Rows of numbers that stand apart: what an append to one, and a store into one, leaves of all. No function of the program is named here. -/
import Derived.Test.YtcjhbpnmkahkeaaFill
import Derived.Deep.AppendLies
namespace Go.Proofs.Ytcjhbpnmkahkeaa.lis
open Go.RowKit Go

theorem infoRLL : (Try.prog.info? 22).map (fun i => (i.zero, i.size, i.bytes)) = some (some (.slice none 0 0), 1, 24) := by kernel_rfl
abbrev nilS : Value := .slice none 0 0
/-- the values vs are rows of the call's own that hold the lists L, no two of them in one block -/
structure Apart (W : World) (B : Nat) (vs : List Value) (L : List (List Int)) : Prop where
  len : vs.length = L.length
  own : ∀ j, j < L.length → OwnI 3 W B (vs.getD j nilS) (L.getD j [])
  ne : ∀ i j b, i < L.length → j < L.length → i ≠ j → (vs.getD i nilS).ownBlock = some b → (vs.getD j nilS).ownBlock ≠ some b

theorem OwnI.grown1 {W W1 : World} {B : Nat} {u : Value} {xs : List Int} {o : Option Nat} (h : OwnI 3 W B u xs) (hg : W.grownBy W1 o) (hne : ∀ b, u.ownBlock = some b → o ≠ some b) : OwnI 3 W1 B u xs := by
  refine ⟨h.1, ?_⟩
  rcases h.2 with h' | ⟨g, cap, cur, rfl, hgB, hc, r⟩
  · exact .inl h'
  · refine .inr ⟨g, cap, cur, rfl, hgB, ?_, r⟩
    exact (hg.block g (Array.getElem?_eq_some_iff.1 hc).1 (fun e => hne g rfl e.symm)).trans hc
theorem getD_set_eq {α : Type} {l : List α} {i : Nat} {x d : α} (h : i < l.length) : (l.set i x).getD i d = x := by simp [List.getD_eq_getElem?_getD, h]
theorem getD_set_ne {α : Type} {l : List α} {i j : Nat} {x d : α} (h : i ≠ j) : (l.set i x).getD j d = l.getD j d := by simp [List.getD_eq_getElem?_getD, List.getElem?_set_ne h]

theorem Apart.up {W W1 : World} {B : Nat} {vs : List Value} {L : List (List Int)} (h : Apart W B vs L) (hb : Below W.heap.size W W1) : Apart W1 B vs L :=
  ⟨h.len, fun j hj => (h.own j hj).up hb, h.ne⟩
/-- an append to one of them -/
theorem Apart.grow {W W1 : World} {B k g c : Nat} {vs : List Value} {L : List (List Int)} {xs' : List Int} (h : Apart W B vs L) (hk : k < L.length)
    (hg : W.grownBy W1 (vs.getD k nilS).ownBlock) (ho : OwnI 3 W1 B (.slice (some ⟨g, 0, none⟩) xs'.length c) xs') (hat : (vs.getD k nilS).ownBlock = some g ∨ g = W.heap.size) :
    Apart W1 B (vs.set k (.slice (some ⟨g, 0, none⟩) xs'.length c)) (L.set k xs') := by
  have hlt : ∀ j b, j < L.length → (vs.getD j nilS).ownBlock = some b → b < W.heap.size := fun j b hj e => ((h.own j hj).block b e).2
  have hvk : k < vs.length := by rw [h.len]; exact hk
  refine ⟨by simp [h.len], fun j hj => ?_, fun i j b hi hj hij he => ?_⟩
  · simp only [List.length_set] at hj
    by_cases e : k = j
    · subst e
      rw [getD_set_eq hvk, getD_set_eq hk]
      exact ho
    · rw [getD_set_ne e, getD_set_ne e]
      exact OwnI.grown1 (h.own j hj) hg (fun b hb => h.ne j k b hj hk (Ne.symm e) hb)
  · simp only [List.length_set] at hi hj
    by_cases ei : k = i
    · subst ei
      rw [getD_set_eq hvk] at he
      rw [getD_set_ne hij]
      have eb : g = b := by simpa [Value.ownBlock] using he
      subst eb
      rcases hat with hat | hat
      · exact h.ne k j g hk hj hij hat
      · intro e
        have := hlt j g hj e
        omega
    · rw [getD_set_ne ei] at he
      by_cases ej : k = j
      · subst ej
        rw [getD_set_eq hvk]
        intro e
        have eb : g = b := by simpa [Value.ownBlock] using e
        subst eb
        rcases hat with hat | hat
        · exact h.ne i k g hi hk hij he hat
        · have := hlt i g hi he
          omega
      · rw [getD_set_ne ej]
        exact h.ne i j b hi hj hij he
/-- one that is nil more -/
theorem Apart.more {W : World} {B : Nat} {vs : List Value} {L : List (List Int)} (h : Apart W B vs L) : Apart W B (vs ++ [nilS]) (L ++ [[]]) := by
  have e1 : ∀ j, j < L.length → (vs ++ [nilS]).getD j nilS = vs.getD j nilS := fun j hj => by simp [List.getD_eq_getElem?_getD, List.getElem?_append_left (show j < vs.length by rw [h.len]; exact hj)]
  have e2 : (vs ++ [nilS]).getD L.length nilS = nilS := by rw [← h.len]; simp [List.getD_eq_getElem?_getD]
  have e3 : ∀ j, j < L.length → (L ++ [[]]).getD j [] = L.getD j [] := fun j hj => by simp [List.getD_eq_getElem?_getD, List.getElem?_append_left hj]
  refine ⟨by simp [h.len], fun j hj => ?_, fun i j b hi hj hij he => ?_⟩
  · simp only [List.length_append, List.length_singleton] at hj
    by_cases e : j < L.length
    · rw [e1 j e, e3 j e]
      exact h.own j e
    · obtain rfl : L.length = j := by omega
      have e4 : (L ++ [[]]).getD L.length [] = [] := by simp [List.getD_eq_getElem?_getD]
      rw [e2, e4]
      exact World.ownsRow_nil _ _ _ _
  · simp only [List.length_append, List.length_singleton] at hi hj
    by_cases ei : i < L.length
    · rw [e1 i ei] at he
      by_cases ej : j < L.length
      · rw [e1 j ej]
        exact h.ne i j b ei ej hij he
      · obtain rfl : L.length = j := by omega
        rw [e2]
        simp [Value.ownBlock]
    · obtain rfl : L.length = i := by omega
      rw [e2] at he
      simp [Value.ownBlock] at he
/-- an append to a row of another type -/
theorem Apart.grownOther {W W1 : World} {B B' E' n : Nat} {vs : List Value} {L : List (List Int)} {v : Value} {ys : List Value} (h : Apart W B vs L) (hown : W.ownsRow B' E' 1 v n ys) (hg : W.grownBy W1 v.ownBlock) (hne : E' ≠ 3) : Apart W1 B vs L := by
  refine ⟨h.len, fun j hj => ?_, h.ne⟩
  refine OwnI.grown1 (h.own j hj) hg fun b hb e => ?_
  rcases hown.2 with ⟨rfl, _⟩ | ⟨g2, cap2, cur2, rfl, _, hgc, _⟩
  · cases e
  · obtain rfl : g2 = b := by simpa [Value.ownBlock] using e
    rcases (h.own j hj).2 with ⟨h', _⟩ | ⟨g, cap, cur, h', hgB, hc, r⟩
    · rw [h'] at hb; cases hb
    · rw [h'] at hb
      obtain rfl : g = g2 := by simpa [Value.ownBlock] using hb
      rw [hgc] at hc
      cases hc
      exact hne rfl
/-- a store into a block of another type -/
theorem Apart.setOther {W : World} {B E' b o : Nat} {vs : List Value} {L : List (List Int)} {cs : Array Value} {fz : Nat × Nat} (h : Apart W B vs L) (hb : W.heap[b]? = some (.cells cs E' fz)) (hne : E' ≠ 3) (u : Value) : Apart (W.setCell ⟨b, o, none⟩ u) B vs L := by
  refine ⟨h.len, fun j hj => ?_, h.ne⟩
  have h1 := h.own j hj
  refine ⟨h1.1, ?_⟩
  rcases h1.2 with h' | ⟨g, cap, cur, h', hgB, hc, r⟩
  · exact .inl h'
  · refine .inr ⟨g, cap, cur, h', hgB, ?_, r⟩
    rw [Below.heap_setCell _ _ _ _ (fun e => ?_)]
    · exact hc
    · have e' : g = b := e
      subst e'
      rw [hb] at hc
      cases hc
      exact hne rfl
/-- a store into one of them -/
theorem Apart.store {W : World} {B k g o n c : Nat} {vs : List Value} {L : List (List Int)} {x : Int} (h : Apart W B vs L) (hk : k < L.length) (hv : vs.getD k nilS = .slice (some ⟨g, 0, none⟩) n c) :
    Apart (W.setCell ⟨g, o, none⟩ (.int .i64 x)) B vs (L.set k ((L.getD k []).set o x)) := by
  refine ⟨by simp [h.len], fun j hj => ?_, fun i j b hi hj => h.ne i j b (by simpa using hi) (by simpa using hj)⟩
  simp only [List.length_set] at hj
  by_cases e : k = j
  · subst e
    rw [getD_set_eq hk]
    have h1 := h.own k hk
    rw [hv] at h1 ⊢
    have e2 : (L.getD k []).length = n := by
      obtain ⟨a', c', e, _⟩ := h1.form
      simp only [Value.slice.injEq] at e
      exact e.2.1.symm
    unfold OwnI at h1 ⊢
    rw [List.length_set, List.map_set]
    rw [e2] at h1 ⊢
    exact (World.ownsRow.stored h1 o (.int .i64 x)).1
  · rw [getD_set_ne e]
    have h1 := h.own j hj
    refine ⟨h1.1, ?_⟩
    rcases h1.2 with h' | ⟨g', cap, cur, h', hgB, hc, r⟩
    · exact .inl h'
    · refine .inr ⟨g', cap, cur, h', hgB, ?_, r⟩
      rw [Below.heap_setCell _ _ _ _ (fun e' => ?_)]
      · exact hc
      · have e'' : g' = g := e'
        subst e''
        exact h.ne j k g' hj hk (Ne.symm e) (by rw [h']; rfl) (by rw [hv]; rfl)
theorem Apart.reads {W : World} {B : Nat} {vs : List Value} {L : List (List Int)} (h : Apart W B vs L) {k : Nat} (hk : k < L.length) : ∃ a c, vs.getD k nilS = .slice a (L.getD k []).length c ∧ (a = none → c = 0) ∧ Reads W a (L.getD k []) ∧ (0 < (L.getD k []).length → ∃ g, a = some ⟨g, 0, none⟩ ∧ B ≤ g ∧ g < W.heap.size) := by
  obtain ⟨a, c, e, hn, hr, hg⟩ := (h.own k hk).form
  refine ⟨a, c, e, hn, hr, fun h0 => ?_⟩
  rcases hr with hr | ⟨b, o, ha, _⟩
  · rw [hr] at h0; cases h0
  · obtain ⟨g, hx, h1⟩ := hg _ ha
    exact ⟨g, by rw [ha, hx], h1⟩
end Go.Proofs.Ytcjhbpnmkahkeaa.lis
