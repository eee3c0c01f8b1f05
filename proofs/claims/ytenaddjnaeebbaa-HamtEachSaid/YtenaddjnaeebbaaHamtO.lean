/- A node that is being made; lists of pairs with one more, or one changed. -/
import Derived.Test.YtenaddjnaeebbaaHamtI
namespace Go.Proofs.Ytenaddjnaeebbaa.hamt
open Go.RowKit

/-- block G is new, a node of these cells; what was there is as it was -/
structure Out (w : World) (G : Nat) (c : Array Value) (W : World) : Prop where
  bel : Below w.heap.size w W
  hG : w.heap.size ≤ G
  blk : W.heap[G]? = some (.cells c 62 (0, 0))
theorem Out.new (w : World) (c : Array Value) : Out w w.heap.size c (w.alloc (.cells c 62)) := ⟨belowAlloc w _, Nat.le_refl _, heap_alloc_new w _⟩
theorem Out.up {w : World} {G : Nat} {c : Array Value} {W W' : World} (h : Out w G c W) (hb : Below W.heap.size W W') : Out w G c W' := ⟨h.bel.trans (hb.mono h.bel.size), h.hG, upb hb h.blk⟩
theorem Out.set {w : World} {G : Nat} {c : Array Value} {W : World} (h : Out w G c W) (o : Nat) (u : Value) : Out w G (c.setIfInBounds o u) (W.setCell ⟨G, o, none⟩ u) :=
  ⟨h.bel.setCell (p := ⟨G, o, none⟩) h.hG u, h.hG, node_set h.blk⟩
theorem Out.keep {w : World} {G : Nat} {c : Array Value} {W : World} (h : Out w G c W) (o : Nat) (u : Value) : KeepT [62] W (W.setCell ⟨G, o, none⟩ u) := KeepT.set (a := ⟨G, o, none⟩) h.blk (by simp) u
theorem Out.lt {w : World} {G : Nat} {c : Array Value} {W : World} (h : Out w G c W) : G < W.heap.size := (Array.getElem?_eq_some_iff.1 h.blk).1
/-- a row that is grown -/
theorem Out.grown {w : World} {G : Nat} {c : Array Value} {W W' : World} {E sz n : Nat} {v : Value} {xs : List Value} (h : Out w G c W) (ho : W.ownsRow w.heap.size E sz v n xs) (hE : E ≠ 62) (hg : W.grownBy W' v.ownBlock) : Out w G c W' := by
  refine ⟨h.bel.grown hg h.bel.size (fun k hk => (World.ownsRow.lt ho k hk).1), h.hG, (hg.block G h.lt ?_).trans h.blk⟩
  intro e
  rcases ho.2 with ⟨rfl, _⟩ | ⟨g, cap, cur, rfl, _, hgc, _⟩
  · cases e
  · cases e
    rw [h.blk] at hgc
    cases hgc
    exact hE rfl
theorem keepGrown {E base n sz : Nat} {v : Value} {xs : List Value} {w w1 : World} (hown : w.ownsRow base E sz v n xs) (hg : w.grownBy w1 v.ownBlock) : KeepT [E] w w1 := by
  intro k c ty fz hk hn
  have hb := (Array.getElem?_eq_some_iff.1 hk).1
  refine (hg.block k hb ?_).trans hk
  intro e
  rcases hown.2 with ⟨rfl, _⟩ | ⟨g, cap, cur, rfl, _, hgc, _⟩
  · cases e
  · cases e
    rw [hgc] at hk
    cases hk
    simp at hn
/-- what is true of what Put leaves -/
def PutOf (L : PL) (k v : Int) (L' : PL) : Prop := (∀ j, lkI L' j = if j = k then some v else lkI L j) ∧ L'.length ≤ L.length + 1
theorem PutOf.mem {L L' : PL} {k v : Int} (h : PutOf L k v L') (hd : Dis L') {p : Int × Int} (hp : p ∈ L') : p.1 = k ∨ ∃ q ∈ L, q.1 = p.1 := by
  have h1 := hd.lk (k := p.1) (v := p.2) hp
  rw [h.1] at h1
  by_cases e : p.1 = k
  · exact .inl e
  · rw [if_neg e] at h1
    exact .inr ⟨_, lkI_mem h1, rfl⟩
theorem PutOf.ne {L L' : PL} {k v : Int} (h : PutOf L k v L') : L' ≠ [] := by
  intro e
  have h1 := h.1 k
  rw [e, if_pos rfl] at h1
  cases h1
theorem idx_none {L : PL} {k : Int} (h : Idx L k none) : ∀ p ∈ L, p.1 ≠ k := by
  intro p hp he
  obtain ⟨i, hi, e⟩ := List.getElem_of_mem hp
  have := h i hi
  rw [List.getD_eq_getElem?_getD, List.getElem?_eq_getElem hi, e] at this
  exact this he
theorem putOf_app {L : PL} {k v : Int} (h : Idx L k none) : PutOf L k v (L ++ [(k, v)]) := by
  refine ⟨fun j => ?_, by simp⟩
  rw [lkI_append]
  by_cases e : j = k
  · subst e
    rw [if_pos rfl, lkI_none (idx_none h)]
    simp [lkI]
  · rw [if_neg e]
    have : lkI [(k, v)] j = none := by simp [lkI, Ne.symm e]
    rw [this, Option.or_none]
theorem dis_app {L : PL} {k v : Int} (hd : Dis L) (h : Idx L k none) : Dis (L ++ [(k, v)]) := by
  refine List.pairwise_append.2 ⟨hd, List.pairwise_singleton _ _, fun p hp q hq => ?_⟩
  obtain rfl := List.mem_singleton.1 hq
  exact idx_none h p hp
theorem split_at {L : PL} {i : Nat} (hi : i < L.length) : L = L.take i ++ (L.getD i (0, 0)) :: L.drop (i + 1) := by
  have e : L.getD i (0, 0) = L[i] := by simp [List.getD_eq_getElem?_getD, hi]
  rw [e, ← List.drop_eq_getElem_cons hi, List.take_append_drop]
theorem set_split {L : PL} {i : Nat} (hi : i < L.length) (p : Int × Int) : L.set i p = L.take i ++ p :: L.drop (i + 1) := by rw [List.set_eq_take_append_cons_drop, if_pos hi]
theorem dis_parts {A C : PL} {p q : Int × Int} (h : p.1 = q.1) (hd : Dis (A ++ p :: C)) : Dis (A ++ q :: C) := by
  unfold Dis at *
  rw [List.pairwise_append, List.pairwise_cons] at *
  obtain ⟨h1, ⟨h2, h3⟩, h4⟩ := hd
  refine ⟨h1, ⟨fun x hx => by rw [← h]; exact h2 x hx, h3⟩, fun a ha b hb => ?_⟩
  rcases List.mem_cons.1 hb with rfl | hb
  · rw [← h]; exact h4 a ha p List.mem_cons_self
  · exact h4 a ha b (List.mem_cons_of_mem _ hb)
theorem lk_parts {A C : PL} {p : Int × Int} (hd : Dis (A ++ p :: C)) (j : Int) : lkI (A ++ p :: C) j = if j = p.1 then some p.2 else (lkI A j).or (lkI C j) := by
  unfold Dis at hd
  rw [List.pairwise_append] at hd
  rw [lkI_append]
  by_cases e : j = p.1
  · subst e
    rw [if_pos rfl, lkI_none (fun q hq => hd.2.2 q hq p List.mem_cons_self)]
    simp [lkI]
  · rw [if_neg e]
    simp only [lkI, if_neg (Ne.symm e)]
theorem putOf_set {L : PL} {k v : Int} {i : Nat} (hd : Dis L) (h : Idx L k (some i)) : PutOf L k v (L.set i (k, v)) ∧ Dis (L.set i (k, v)) := by
  obtain ⟨hi, hk, _⟩ := h
  have e1 := split_at hi
  have e2 := set_split hi (k, v)
  have hd1 : Dis (L.take i ++ (L.getD i (0, 0)) :: L.drop (i + 1)) := by rw [← e1]; exact hd
  have hd2 : Dis (L.take i ++ (k, v) :: L.drop (i + 1)) := dis_parts hk hd1
  refine ⟨⟨fun j => ?_, by rw [List.length_set]; omega⟩, by rw [e2]; exact hd2⟩
  rw [e2, lk_parts hd2]
  conv => rhs; rw [e1, lk_parts hd1, hk]
  by_cases e : j = k
  · simp [e]
  · simp [e]
/-- what is true of what Drop leaves -/
def DropOf (L : PL) (k : Int) (L' : PL) : Prop := (∀ j, lkI L' j = if j = k then none else lkI L j) ∧ L'.length ≤ L.length
theorem DropOf.mem {L L' : PL} {k : Int} (h : DropOf L k L') (hd : Dis L') {p : Int × Int} (hp : p ∈ L') : ∃ q ∈ L, q.1 = p.1 := by
  have h1 := hd.lk (k := p.1) (v := p.2) hp
  rw [h.1] at h1
  by_cases e : p.1 = k
  · rw [if_pos e] at h1; cases h1
  · rw [if_neg e] at h1
    exact ⟨_, lkI_mem h1, rfl⟩
theorem dropOf_none {L : PL} {k : Int} (h : lkI L k = none) : DropOf L k L := by
  refine ⟨fun j => ?_, Nat.le_refl _⟩
  by_cases e : j = k
  · rw [if_pos e, e, h]
  · rw [if_neg e]
theorem dropOf_cut {L : PL} {k : Int} {i : Nat} (hd : Dis L) (h : Idx L k (some i)) : DropOf L k (L.take i ++ L.drop (i + 1)) ∧ Dis (L.take i ++ L.drop (i + 1)) ∧ (L.take i ++ L.drop (i + 1)).length + 1 = L.length := by
  obtain ⟨hi, hk, _⟩ := h
  have e1 := split_at hi
  have hd1 : Dis (L.take i ++ (L.getD i (0, 0)) :: L.drop (i + 1)) := by rw [← e1]; exact hd
  have hd2 : Dis (L.take i ++ L.drop (i + 1)) := by
    unfold Dis at *
    rw [List.pairwise_append, List.pairwise_cons] at hd1
    exact List.pairwise_append.2 ⟨hd1.1, hd1.2.1.2, fun a ha b hb => hd1.2.2 a ha b (List.mem_cons_of_mem _ hb)⟩
  have hl : (L.take i ++ L.drop (i + 1)).length + 1 = L.length := by rw [List.length_append, List.length_take, List.length_drop]; omega
  refine ⟨⟨fun j => ?_, by omega⟩, hd2, hl⟩
  rw [lkI_append]
  conv => rhs; rw [e1, lk_parts hd1, hk]
  by_cases e : j = k
  · subst e
    rw [if_pos rfl]
    unfold Dis at hd1
    rw [List.pairwise_append, List.pairwise_cons] at hd1
    rw [lkI_none (fun q hq => by have := hd1.2.2 q hq _ List.mem_cons_self; rw [hk] at this; exact this), lkI_none (fun q hq => by have := hd1.2.1.1 q hq; rw [hk] at this; exact Ne.symm this)]
    rfl
  · simp [e]
theorem cellsP_take (L : PL) : ∀ i, cellsP (L.take i) = (cellsP L).take (i * 2) := by
  induction L with
  | nil => intro i; simp [cellsP]
  | cons p L ih =>
    intro i
    cases i with
    | zero => simp [cellsP]
    | succ i =>
      rw [List.take_succ_cons]
      simp only [cellsP, show (i + 1) * 2 = i * 2 + 1 + 1 by omega, List.take_succ_cons, ih]
theorem cellsP_drop (L : PL) : ∀ i, cellsP (L.drop i) = (cellsP L).drop (i * 2) := by
  induction L with
  | nil => intro i; simp [cellsP]
  | cons p L ih =>
    intro i
    cases i with
    | zero => simp [cellsP]
    | succ i =>
      rw [List.drop_succ_cons]
      simp only [cellsP, show (i + 1) * 2 = i * 2 + 1 + 1 by omega, List.drop_succ_cons, ih]
theorem cellsP_set (L : PL) : ∀ (i : Nat) (k v : Int), i < L.length → (L.getD i (0, 0)).1 = k → cellsP (L.set i (k, v)) = (cellsP L).set (i * 2 + 1) (.int .i64 v) := by
  induction L with
  | nil => intro i k v h; simp at h
  | cons p L ih =>
    intro i k v h hk
    cases i with
    | zero => simp at hk; subst hk; simp [cellsP]
    | succ i =>
      simp only [List.length_cons] at h
      have h2 := ih i k v (by omega) (by simpa using hk)
      simp only [List.set_cons_succ, cellsP, h2, show (i + 1) * 2 + 1 = i * 2 + 1 + 1 + 1 by omega]
end Go.Proofs.Ytenaddjnaeebbaa.hamt
