/- list.Of: the numbers of a slice, in order. -/
import Derived.Test.YtcjhbpnmkahkeaaBack
import Derived.Test.YtcjhbpnmkahkeaaList
namespace Go.Proofs.Ytcjhbpnmkahkeaa.list
open Go.RowKit Go.Shelf

attribute [local go_sem] Oper.semAt_some

/-- what holds between two rounds -/
def Round (w : World) (pre : List (Nat × Int)) (W : World) : Prop := ∃ p, (W.heap[w.heap.size]? = some (.cells #[.pointer none, .int .i64 0] 26 (0, 0)) ∧
  W.heap[w.heap.size + 1]? = some (.cells #[.pointer p, .int .i64 ((pre.map Prod.snd).reverse.length : Nat)] 26 (0, 0)) ∧ In w.heap.size W p (pre.map Prod.snd).reverse ∧ w.heap.size + 3 ≤ W.heap.size) ∧ Below w.heap.size w W

theorem grown_block {W W' : World} {row : Option Nat} {b : Nat} {c : Array Value} {ty : Nat} {fz : Nat × Nat} (hg : W.grownBy W' row) (hr : ∀ r, row = some r → ∃ o : Obj, W.heap[r]? = some o ∧ o.isCells = false) (hb : W.heap[b]? = some (.cells c ty fz)) : W'.heap[b]? = some (.cells c ty fz) :=
  (grownBy_keeps_cells hg hr hb rfl).trans hb
theorem keepsOf {W W' : World} (h : Below W.heap.size W W') : KeepsOthers W W' := ⟨h.size, fun _ _ hk _ => upb h hk⟩

theorem Round.own (w : World) (B : Nat) (hB : w.heap.size ≤ B) : OwnFrom B (Round w) := by
  rintro s W W' row ⟨p, ⟨h0, h1, hp, hz⟩, hb⟩ hg hr
  have hr' : ∀ r, row = some r → ∃ o : Obj, W.heap[r]? = some o ∧ o.isCells = false := fun r e => (hr r e).2
  exact ⟨p, ⟨grown_block hg hr' h0, grown_block hg hr' h1, In.frame (fun b _ _ c hc => by rw [grown_block hg hr' hc, hc]) hp, Nat.le_trans hz hg.size⟩, ownFrom_below (β := Unit) (Nat.le_refl _) hB () W W' row hb hg hr⟩

set_option maxRecDepth 100000 in
set_option maxHeartbeats 4000000 in
theorem Of_any (w : World) (a : Option Addr) (c : Nat) (zs : List Int) (hn : zs.length ≤ 17592186044416) (hr : Reads w a zs) :
    Calls Try.prog 16 #[.slice a zs.length c] w (RetS w.heap.size w zs) := by
  refine (callsIn_wide (n := 5)).1 ?_
  refine callsIn_of_wp_marks Try.func16 rfl trivial ?_ rfl
  simp only [Try.ntmps16, List.size_toArray, List.length_cons, List.length_nil, Nat.reduceAdd, Nat.reduceSub, Array.replicate_succ, Array.replicate_zero, List.push_toArray, List.append_toArray, List.nil_append, List.cons_append]
  gi_wp2_with (refine ⟨trivial, ?_⟩; gi_at_call 51; refine (callsIn_wide.2 (back.back_any _ _ _ _)).mono ?_; rintro e w' ⟨rfl, rfl⟩)
  obtain ⟨W, hW⟩ : ∃ W, W = ((w.alloc (.cells #[.pointer none, .int .i64 0] 26)).alloc (.cells #[.pointer none, .int .i64 0] 26)).alloc (.cells #[.slice a zs.length c] 22) := ⟨_, rfl⟩
  have hbW : Below w.heap.size w W := by rw [hW]; exact belowTrans (belowAlloc _ _) (belowTrans (belowAlloc _ _) (belowAlloc _ _))
  have hsz : W.heap.size = w.heap.size + 3 := by rw [hW]; simp
  have hb2 : W.cell? ⟨w.heap.size + 1 + 1, 0, none⟩ = some (.slice a zs.length c) := by
    rw [hW]
    exact cell_of_one (by have h := heap_alloc_new ((w.alloc (.cells #[.pointer none, .int .i64 0] 26)).alloc (.cells #[.pointer none, .int .i64 0] 26)) (.cells #[.slice a zs.length c] 22); simpa using h)
  have h0 : W.heap[w.heap.size]? = some (.cells #[.pointer none, .int .i64 0] 26 (0, 0)) := by rw [hW]; exact upb (belowAlloc _ _) (heapNew1 _ _ _)
  have h1 : W.heap[w.heap.size + 1]? = some (.cells #[.pointer none, .int .i64 0] 26 (0, 0)) := by rw [hW]; exact upb (belowAlloc _ _) (heapNew2 _ _ _)
  have hrd : zs = [] ∨ ∃ b off, a = some ⟨b, off, none⟩ ∧ b < w.heap.size ∧ ∀ j, j < zs.length → W.cell? ⟨b, off + j, none⟩ = some (.int .i64 (zs[j]?.getD 0)) := by
    by_cases hz : zs = []
    · exact .inl hz
    · rcases hr with h | ⟨b, o, ha, hc⟩
      · exact absurd h hz
      · refine .inr ⟨b, o, ha, ?_, fun j hj => by have h := upc hbW (hc j hj); rwa [List.getD_eq_getElem?_getD] at h⟩
        obtain ⟨ob, ho, _⟩ := cells_of_cell (hc 0 (by cases zs with | nil => exact absurd rfl hz | cons _ _ => simp))
        exact (Array.getElem?_eq_some_iff.1 ho).1
  rw [← hW]
  clear hW
  refine wpIn_rangeFunc_ownF rfl (by omega) (gf := 83) (lb := #[.pointer (some ⟨w.heap.size + 1 + 1, 0, none⟩)]) (by simp [go_sem]) trivial (enters_of Try.func83 (by kernel_rfl) rfl)
    (back.back_stops Fence.wide _ trivial rfl (by omega) (w.heap.size + 1 + 1) w.heap.size a zs.length c zs rfl hn W (by omega) (by omega) hb2 hrd)
    back.Kb.trans (back.Kb.book (by omega) (by omega)) (Below.refl _ _) (fun _ => rfl)
    (Round w) (fun _ _ _ => False) (Round.own w _ (by omega)) (fun _ _ _ _ _ hs _ _ => hs)
    ⟨none, ⟨h0, h1, rfl, by omega⟩, hbW⟩
    (fun x => { tmps := #[.slice a zs.length c, undef, .pointer (some ⟨w.heap.size, 0, none⟩), .pointer (some ⟨w.heap.size + 1, 0, none⟩), undef, .int .i64 x.snd, .slice a zs.length c, .func (.func 83) #[] #[.pointer (some ⟨w.heap.size + 1 + 1, 0, none⟩)], .int .i64 (x.fst : Nat), .int .i64 x.snd, undef, undef, undef, undef], defers := [] }) ?assign ?body ?done ?stop
  case assign =>
    intro l x W K hK
    gi_wp2
    exact hK
  case body =>
    rintro l pre x W1 ⟨p, ⟨k0, k1, hp, hz⟩, hB⟩ hlen
    have c0 := two_c0 k1
    have c1 := two_c1 k1
    have hP := Push_any w.heap.size W1 p (pre.map Prod.snd).reverse x.snd (by omega) hp (by simp; omega)
    have HP := Lib.hid hP
    have hl : (pre.map Prod.snd).reverse.length = pre.length := by simp
    rw [hl] at c1 hP
    clear hl
    gi_wp2_with (refine ⟨trivial, ?_⟩; gi_at_call 52; refine (CallsIn.inRound l (callsIn_wide.2 hP)).mono ?_; rintro e w' ⟨p1, rfl, hp1, hb1⟩; have hk := upb hb1 k1; have d0 := two_c0 hk; have d1 := two_c1 hk; have f0 := two_f (o := 0) hk; have f1 := two_f (o := 1) hk)
    have hs1 := hb1.size
    obtain ⟨o, ho⟩ : ∃ o, W1.heap[w.heap.size + 1 + 1]? = some o := ⟨_, Array.getElem?_eq_getElem (by omega)⟩
    refine ⟨((keepsOf hb1).trans (KeepsOthers.setCell _ _ _)).trans (KeepsOthers.setCell _ _ _), ⟨((hb1.mono (by omega)).setCell (p := ⟨w.heap.size + 1, 0, none⟩) (Nat.le_succ _) _).setCell (p := ⟨w.heap.size + 1, 1, none⟩) (Nat.le_succ _) _, (heapSet2 (k := w.heap.size + 1) (by omega)).trans ((upb hb1 ho).trans ho.symm)⟩, p1, ⟨(heapSet2 (k := w.heap.size + 1) (by omega)).trans (upb hb1 k0), ?_, ?_, by rw [sizeSet2]; omega⟩, belowSet2 (belowTrans hB hb1) (by omega) _ _⟩
    · have h := two_set (u' := .pointer p1) (v' := .int .i64 ((pre.length : Nat) + 1)) hk
      simpa using h
    · have h := hp1.store2 (u := .pointer p1) (v := .int .i64 ((pre.length : Nat) + 1)) hk (by decide)
      simpa using h
  case done =>
    rintro D ys W1 hD rfl ⟨p, ⟨k0, k1, hp, hz⟩, hB⟩ hK
    have hrev : ((back.come zs zs.length).map Prod.snd).reverse = zs := by rw [back.come_all, List.reverse_reverse]
    rw [hrev] at k1 hp
    have c0 := two_c0 k1
    have c1 := two_c1 k1
    have d0 := two_c0 k0
    have d1 := two_c1 k0
    have f0 := two_f (o := 0) k0
    have f1 := two_f (o := 1) k0
    gi_wp2
    have hK' := ((KeepsOthers.setCell W1 ⟨w.heap.size, 0, none⟩ (.pointer p)).trans (KeepsOthers.setCell _ ⟨w.heap.size, 1, none⟩ (.int .i64 (zs.length : Nat)))).same D _ hK rfl
    refine ⟨by simp, .inl ⟨_, _, rfl, run_takeDeferred hK', ?_⟩⟩
    have hR := two_set (u' := .pointer p) (v' := .int .i64 (zs.length : Nat)) k0
    have hgr := grownBy_putObj' ((W1.setCell ⟨w.heap.size, 0, none⟩ (.pointer p)).setCell ⟨w.heap.size, 1, none⟩ (.int .i64 (zs.length : Nat))) D (.deferred none)
    have hrw : ∀ r, some D = some r → ∃ o : Obj, ((W1.setCell ⟨w.heap.size, 0, none⟩ (.pointer p)).setCell ⟨w.heap.size, 1, none⟩ (.int .i64 (zs.length : Nat))).heap[r]? = some o ∧ o.isCells = false := fun r e => by cases e; exact ⟨_, hK', rfl⟩
    have e0 := cell_kept (two_c0 hR) hgr hrw
    have e1 := cell_kept (two_c1 hR) hgr hrw
    refine ⟨.agg #[.pointer p, .int .i64 (zs.length : Nat)], by simp only [results, Try.results16]; simp [go_sem, e0, e1], p, rfl, ?_, ?_⟩
    · exact In.frame (fun b _ _ c hc => by rw [grown_block hgr hrw hc, hc]) (hp.store2 k0 (by decide))
    · exact (belowSet2 (k := w.heap.size) hB (Nat.le_refl _) _ _).trans (belowK_b (w := w) (Nat.le_refl _) _ D _ _ (by omega) hK' rfl rfl)
  case stop =>
    rintro D c pre W _ _ h _
    exact h.elim
end Go.Proofs.Ytcjhbpnmkahkeaa.list
