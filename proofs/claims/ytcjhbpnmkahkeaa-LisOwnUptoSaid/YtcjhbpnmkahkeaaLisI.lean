/- lis.dealt: what holds while piles grow; and the search for the pile. -/
import Derived.Test.YtcjhbpnmkahkeaaLisS
namespace Go.Proofs.Ytcjhbpnmkahkeaa.lis
open Go.RowKit Go Go.Shelf Go.Lib Go.Sort

theorem row_other {W W1 : World} {B E : Nat} {v : Value} {n : Nat} {ys : List Value} {o : Option Nat} (h : W.ownsRow B E 1 v n ys) (hg : W.grownBy W1 o) (hne : ∀ b, v.ownBlock = some b → o ≠ some b) : W1.ownsRow B E 1 v n ys := by
  refine ⟨h.1, ?_⟩
  rcases h.2 with h' | ⟨g, cap, cur, rfl, hgB, hc, r⟩
  · exact .inl h'
  · exact .inr ⟨g, cap, cur, rfl, hgB, (hg.block g (Array.getElem?_eq_some_iff.1 hc).1 (fun e => hne g rfl e.symm)).trans hc, r⟩
theorem own_ty {W : World} {B E E' : Nat} {v u : Value} {n m : Nat} {ys zs : List Value} (h : W.ownsRow B E 1 v n ys) (h' : W.ownsRow B E' 1 u m zs) (hne : E ≠ E') : ∀ b, v.ownBlock = some b → u.ownBlock ≠ some b := by
  intro b hb he
  rcases h.2 with ⟨e, _⟩ | ⟨g, cap, cur, e, _, hc, _⟩
  · rw [e] at hb; cases hb
  · rw [e] at hb
    obtain rfl : g = b := by simpa [Value.ownBlock] using hb
    rcases h'.2 with ⟨e, _⟩ | ⟨g', cap, cur, e, _, hc', _⟩
    · rw [e] at he; cases he
    · rw [e] at he
      obtain rfl : g' = g := by simpa [Value.ownBlock] using he
      rw [hc] at hc'
      cases hc'
      exact hne rfl

/-- while piles grow: n0 the height at the call; block n0 has the list, block n0 + 1 the piles; L what they hold, bk what stands in the other list -/
structure DI (n0 : Nat) (w : World) (a : Option Addr) (n c : Nat) (L : List (List Int)) (bk : List Int) (v : Value) (cs : List Value) (vb : Value) (wr : World) : Prop where
  bel : Below n0 w wr
  sz : n0 + 2 ≤ wr.heap.size
  b1 : wr.heap[n0]? = some (.cells #[.slice a n c] 22 (0, 0))
  b2 : wr.heap[n0 + 1]? = some (.cells #[v] 71 (0, 0))
  row : wr.ownsRow (n0 + 2) 22 1 v L.length cs
  ap : Apart wr (n0 + 2) (vb :: cs) (bk :: L)

section
variable {n0 : Nat} {w : World} {a : Option Addr} {n c : Nat} {L : List (List Int)} {bk : List Int} {v : Value} {cs : List Value} {vb : Value} {wr W W1 : World}
theorem DI.up (h : DI n0 w a n c L bk v cs vb wr) (hb : Below wr.heap.size wr W) : DI n0 w a n c L bk v cs vb W :=
  ⟨h.bel.trans (hb.mono (by have := h.sz; omega)), Nat.le_trans h.sz hb.size, upb hb h.b1, upb hb h.b2, rowUp h.row hb, h.ap.up hb⟩
theorem DI.far (h : DI n0 w a n c L bk v cs vb wr) {o : Option Nat} (hg : wr.grownBy W o) (ho : ∀ b, o = some b → n0 + 2 ≤ b) : Below n0 w W ∧ n0 + 2 ≤ W.heap.size ∧ W.heap[n0]? = some (.cells #[.slice a n c] 22 (0, 0)) ∧ W.heap[n0 + 1]? = some (.cells #[v] 71 (0, 0)) := by
  have hsz := h.sz
  have hf : ∀ k, k < n0 + 2 → W.heap[k]? = wr.heap[k]? := fun k hk => hg.block k (by omega) (fun e => by have := ho k e.symm; omega)
  refine ⟨⟨hg.os.trans h.bel.os, hg.tape.trans h.bel.tape, hg.output.trans h.bel.output, Nat.le_trans h.bel.size hg.size, fun k hk => (hf k (by omega)).trans (h.bel.block k hk)⟩, Nat.le_trans hsz hg.size, (hf n0 (by omega)).trans h.b1, (hf (n0 + 1) (by omega)).trans h.b2⟩
/-- one pile more -/
theorem DI.nilApp (h : DI n0 w a n c L bk v cs vb wr) {v' : Value} (hg : wr.grownBy W v.ownBlock) (ho : W.ownsRow (n0 + 2) 22 1 v' (L.length + 1) (cs ++ [nilS])) :
    DI n0 w a n c (L ++ [[]]) bk v' (cs ++ [nilS]) vb (W.setCell ⟨n0 + 1, 0, none⟩ v') := by
  obtain ⟨h1, h2, h3, h4⟩ := h.far hg (fun b hb => (h.row.lt b hb).1)
  have hA := h.ap.more
  have hA2 := Apart.grownOther hA h.row hg (by decide)
  refine ⟨h1.setCell (p := ⟨n0 + 1, 0, none⟩) (by show n0 ≤ n0 + 1; omega) _, by simpa [World.setCell] using h2, (Below.heap_setCell _ _ _ _ (by show n0 ≠ n0 + 1; omega)).trans h3, one_setCell h4, ?_, Apart.setOther hA2 h4 (by decide) v'⟩
  rw [List.length_append, List.length_singleton]
  exact ownsRow_setCell_below ho (a := ⟨n0 + 1, 0, none⟩) (by show n0 + 1 < n0 + 2; omega) v'
/-- the place behind -/
theorem DI.backApp (h : DI n0 w a n c L bk v cs vb wr) {g cp : Nat} {x : Int} (hg : wr.grownBy W vb.ownBlock) (ho : W.ownsRow (n0 + 2) 3 1 (.slice (some ⟨g, 0, none⟩) (bk.length + 1) cp) (bk.length + 1) (bk.map (Value.int .i64) ++ [.int .i64 x])) (hat : vb.ownBlock = some g ∨ g = wr.heap.size) :
    DI n0 w a n c L (bk ++ [x]) v cs (.slice (some ⟨g, 0, none⟩) (bk.length + 1) cp) W := by
  have hb0 : OwnI 3 wr (n0 + 2) vb bk := h.ap.own 0 (by simp)
  obtain ⟨h1, h2, h3, h4⟩ := h.far hg (fun b hb => (hb0.block b hb).1)
  have hA := h.ap.grow (k := 0) (W1 := W) (g := g) (c := cp) (xs' := bk ++ [x]) (by simp) hg (by
    show W.ownsRow _ _ _ _ (bk ++ [x]).length _
    rw [List.length_append, List.length_singleton, List.map_append]
    exact ho) hat
  refine ⟨h1, h2, h3, h4, row_other h.row hg (fun b hb => own_ty h.row hb0 (by decide) b hb), ?_⟩
  simpa using hA
/-- a place onto pile k -/
theorem DI.pileApp (h : DI n0 w a n c L bk v cs vb wr) {k g gp capp cp : Nat} {x : Int} (hk : k < L.length) (hv : v = .slice (some ⟨gp, 0, none⟩) L.length capp) (hg : wr.grownBy W (cs.getD k nilS).ownBlock)
    (ho : W.ownsRow (n0 + 2) 3 1 (.slice (some ⟨g, 0, none⟩) ((L.getD k []).length + 1) cp) ((L.getD k []).length + 1) ((L.getD k []).map (Value.int .i64) ++ [.int .i64 x])) (hat : (cs.getD k nilS).ownBlock = some g ∨ g = wr.heap.size) :
    DI n0 w a n c (L.set k (L.getD k [] ++ [x])) bk v (cs.set k (.slice (some ⟨g, 0, none⟩) ((L.getD k []).length + 1) cp)) vb (W.setCell ⟨gp, k, none⟩ (.slice (some ⟨g, 0, none⟩) ((L.getD k []).length + 1) cp)) := by
  have hb0 : OwnI 3 wr (n0 + 2) (cs.getD k nilS) (L.getD k []) := h.ap.own (k + 1) (by simpa using hk)
  obtain ⟨h1, h2, h3, h4⟩ := h.far hg (fun b hb => (hb0.block b hb).1)
  have hA := h.ap.grow (k := k + 1) (W1 := W) (g := g) (c := cp) (xs' := L.getD k [] ++ [x]) (by simpa using hk) (by simpa using hg) (by
    show W.ownsRow _ _ _ _ (L.getD k [] ++ [x]).length _
    rw [List.length_append, List.length_singleton, List.map_append]
    exact ho) (by simpa using hat)
  have hrow := row_other h.row hg (fun b hb => own_ty h.row hb0 (by decide) b hb)
  subst hv
  have hgp : n0 + 2 ≤ gp ∧ ∃ cur, W.heap[gp]? = some (.cells cur 22 (0, 0)) := by
    rcases hrow.2 with ⟨e, _⟩ | ⟨g', cap, cur, e, hB, hc, _⟩
    · cases e
    · simp only [Value.slice.injEq, Option.some.injEq, Addr.mk.injEq] at e
      obtain ⟨⟨rfl, _⟩, _⟩ := e
      exact ⟨hB, cur, hc⟩
  obtain ⟨hge, cur, hc⟩ := hgp
  refine ⟨h1.setCell (p := ⟨gp, k, none⟩) (by show n0 ≤ gp; omega) _, by simpa [World.setCell] using h2, (Below.heap_setCell _ _ _ _ (by show n0 ≠ gp; omega)).trans h3, (Below.heap_setCell _ _ _ _ (by show n0 + 1 ≠ gp; omega)).trans h4, ?_, ?_⟩
  · rw [List.length_set]
    exact (World.ownsRow.stored hrow k _).1
  · have := Apart.setOther (o := k) hA hc (by decide) (.slice (some ⟨g, 0, none⟩) ((L.getD k []).length + 1) cp)
    simpa using this
end
theorem DI.at {n0 : Nat} {w : World} {a : Option Addr} {n c : Nat} {L : List (List Int)} {bk : List Int} {v : Value} {cs : List Value} {vb : Value} {wr : World} (h : DI n0 w a n c L bk v cs vb wr) {j gp capp : Nat} (hv : v = .slice (some ⟨gp, 0, none⟩) L.length capp) (hj : j < L.length) :
    ∃ ar cr, cs.getD j nilS = .slice ar (L.getD j []).length cr ∧ wr.cell? ⟨gp, j, none⟩ = some (.slice ar (L.getD j []).length cr) ∧ wr.frozen? ⟨gp, j, none⟩ = false ∧ gp < wr.heap.size ∧ n0 + 2 ≤ gp ∧ (ar = none → cr = 0) ∧ (ar.isSome → ∃ gr, ar = some ⟨gr, 0, none⟩ ∧ gr ≠ gp ∧ n0 + 2 ≤ gr ∧ gr < wr.heap.size) ∧ OwnI 3 wr (n0 + 2) (.slice ar (L.getD j []).length cr) (L.getD j []) ∧
      (0 < (L.getD j []).length → ∃ gr, ar = some ⟨gr, 0, none⟩ ∧ ∀ i, i < (L.getD j []).length → wr.cell? ⟨gr, i, none⟩ = some (.int .i64 ((L.getD j []).getD i 0))) := by
  have ho : OwnI 3 wr (n0 + 2) (cs.getD j nilS) (L.getD j []) := h.ap.own (j + 1) (by simpa using hj)
  have hro := h.row
  rw [hv] at hro
  obtain ⟨ar, cr, e2, hn, hr, hg⟩ := ho.form
  have hl : j < cs.length := by have := hro.1; omega
  have hcell : wr.cell? ⟨gp, j, none⟩ = some (cs.getD j nilS) := by
    rw [World.ownsRow.cellAt hro j (by omega), List.getD_eq_getElem?_getD, List.getElem?_eq_getElem hl]
    rfl
  have hgp := hro.lt gp rfl
  refine ⟨ar, cr, e2, by rw [hcell, e2], World.ownsRow.frozenAt hro j, hgp.2, hgp.1, hn, fun hs => ?_, by rw [← e2]; exact ho, fun h0 => ?_⟩
  · obtain ⟨y, rfl⟩ := Option.isSome_iff_exists.1 hs
    obtain ⟨gr, hx, h1, h2⟩ := hg y rfl
    refine ⟨gr, by rw [hx], fun e => ?_, h1, h2⟩
    rw [hx, e] at e2
    exact own_ty h.row ho (by decide) gp (by rw [hv]; rfl) (by rw [e2]; rfl)
  · rcases hr with hr | ⟨b, o, hb, hr⟩
    · rw [hr] at h0; cases h0
    · obtain ⟨gr, hx, _⟩ := hg _ hb
      cases hb
      simp only [Addr.mk.injEq] at hx
      obtain ⟨rfl, rfl, _⟩ := hx
      exact ⟨b, rfl, fun i hi => by have h3 := hr i hi; rw [Nat.zero_add] at h3; exact h3⟩
/-- lists of places as lists of numbers -/
def ints (P : List (List Nat)) : List (List Int) := P.map fun p => p.map Int.ofNat
theorem ints_len (P : List (List Nat)) : (ints P).length = P.length := by simp [ints]
theorem ints_at (P : List (List Nat)) (k : Nat) : (ints P).getD k [] = (P.getD k []).map Int.ofNat := by
  unfold ints
  rw [List.getD_eq_getElem?_getD, List.getD_eq_getElem?_getD, List.getElem?_map]
  cases P[k]? <;> rfl
/-- what the top of a pile is in memory -/
theorem DI.top {n0 : Nat} {w : World} {a : Option Addr} {n c : Nat} {P : List (List Nat)} {bk : List Int} {v : Value} {cs : List Value} {vb : Value} {wr : World} (h : DI n0 w a n c (ints P) bk v cs vb wr) {k : Nat} (hk : k < P.length) (hne : P.getD k [] ≠ []) :
    ∃ gp capp gr cr, v = .slice (some ⟨gp, 0, none⟩) P.length capp ∧ wr.cell? ⟨gp, k, none⟩ = some (.slice (some ⟨gr, 0, none⟩) (P.getD k []).length cr) ∧ wr.cell? ⟨gr, (P.getD k []).length - 1, none⟩ = some (.int .i64 (((P.getD k []).getLastD 0 : Nat) : Int)) := by
  obtain ⟨gp, capp, e, _, _⟩ := h.row.form (by rw [ints_len]; omega)
  rw [ints_len] at e
  obtain ⟨ar, cr, e2, _, hr, hg⟩ := h.ap.reads (k := k + 1) (by simpa [ints_len] using hk)
  have e3 : (bk :: ints P).getD (k + 1) [] = (P.getD k []).map Int.ofNat := by rw [← ints_at]; rfl
  rw [e3, List.length_map] at e2 hg
  rw [e3] at hr
  have hpos : 0 < (P.getD k []).length := List.length_pos_iff.2 hne
  obtain ⟨gr, rfl, _, _⟩ := hg hpos
  refine ⟨gp, capp, gr, cr, e, ?_, ?_⟩
  · have hcs : cs.getD k nilS = .slice (some ⟨gr, 0, none⟩) (P.getD k []).length cr := e2
    have hro := h.row
    rw [e, ints_len] at hro
    rw [World.ownsRow.cellAt hro k (by omega)]
    have hl : k < cs.length := by have := hro.1; omega
    rw [List.getD_eq_getElem?_getD, List.getElem?_eq_getElem hl] at hcs
    rw [List.getElem?_eq_getElem hl]
    exact congrArg some hcs
  · rcases hr with hr | ⟨b, o, hb, hr⟩
    · have : (P.getD k []).length = 0 := by have := congrArg List.length hr; simpa using this
      omega
    · cases hb
      have h0 := hr ((P.getD k []).length - 1) (by rw [List.length_map]; omega)
      rw [Nat.zero_add] at h0
      rw [h0, List.getLastD_eq_getLast?, List.getLast?_eq_getElem?, List.getD_eq_getElem?_getD, List.getElem?_map]
      rw [List.getElem?_eq_getElem (by omega)]
      rfl
set_option maxHeartbeats 1000000 in
theorem search_any {n0 : Nat} {w : World} {xs : List Int} {b o c : Nat} {P : List (List Nat)} {bk : List Int} {v : Value} {cs : List Value} {vb : Value} (wr : World) {i p3 : Nat} (x : Int) (h : DI n0 w (some ⟨b, o, none⟩) xs.length c (ints P) bk v cs vb wr)
    (hxs : ∀ j, j < xs.length → wr.cell? ⟨b, o + j, none⟩ = some (.int .i64 (xs.getD j 0))) (hP : Ok xs i P) (hi : i ≤ xs.length) (hx : wr.cell? ⟨p3, 0, none⟩ = some (.int .i64 x)) (hl : xs.length ≤ 1048576) :
    Calls Try.prog 105 #[.int .i64 (P.length : Nat), .func (.func 106) #[] #[.pointer (some ⟨n0 + 1, 0, none⟩), .pointer (some ⟨n0, 0, none⟩), .pointer (some ⟨p3, 0, none⟩)]] wr fun e w' => e = .returned (.int .i64 (spot xs P x : Nat)) ∧ Below wr.heap.size wr w' := by
  have hPl := hP.len
  have hmem : ∀ k, k < P.length → P.getD k [] ∈ P := fun k hk => by rw [List.getD_eq_getElem?_getD, List.getElem?_eq_getElem hk]; exact List.getElem_mem hk
  have hs := Any.sort_Search searchL 106 #[.pointer (some ⟨n0 + 1, 0, none⟩), .pointer (some ⟨n0, 0, none⟩), .pointer (some ⟨p3, 0, none⟩)] P.length (fun k => decide (x ≤ top xs (P.getD k []))) wr (enters_of Try.func106 (by kernel_rfl) rfl) (by omega) (by
    intro m os k hk
    have hW : Below wr.heap.size wr (grow (wr.drewN m) os) := below_grown_sl _ _ _ _ (Nat.le_refl _)
    have h' := h.up hW
    have hne := hP.ne _ (hmem k hk)
    obtain ⟨gp, capp, gr, cr, hv, h4, h5⟩ := h'.top hk hne
    have hj := hP.lt _ (hmem k hk) _ (getLastD_mem hne)
    have hlen := hP.sz _ (hmem k hk)
    have h1 := h'.b2
    rw [hv] at h1
    have := above_any (n0 + 1) n0 p3 gp k gr b capp (P.getD k []).length cr xs.length c o P.length x (xs.getD ((P.getD k []).getLastD 0) 0) ((P.getD k []).getLastD 0) (grow (wr.drewN m) os) hk (List.length_pos_iff.2 hne) (by omega)
      (cell_of_one h1) (cell_of_one h'.b1) (upc hW hx) h4 h5 (upc hW (hxs _ (by omega))) (by omega)
    refine this.mono ?_
    rintro e w' ⟨rfl, q, rfl⟩
    exact ⟨rfl, q, #[], by rw [grow_empty]⟩) (fun a b hab hb ha => by
      simp only [decide_eq_true_eq] at ha ⊢
      exact top_mono hP.up hab hb ha)
  rw [spot_range] at hs
  refine hs.mono ?_
  rintro e w' ⟨rfl, q, os, rfl⟩
  exact ⟨rfl, below_grown_sl _ _ _ _ (Nat.le_refl _)⟩
end Go.Proofs.Ytcjhbpnmkahkeaa.lis
