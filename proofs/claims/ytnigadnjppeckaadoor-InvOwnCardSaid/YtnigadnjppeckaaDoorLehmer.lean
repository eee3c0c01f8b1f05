/- Package inv: Lehmer. (Printed by le.py.) -/
import Derived.Test.YtnigadnjppeckaaDoorInvO
import Derived.Test.YtnigadnjppeckaaDoorBetween
import Derived.Test.YtnigadnjppeckaaDoorBack
import Derived.Test.YtnigadnjppeckaaDoorRevJ
import Derived.Test.YtnigadnjppeckaaDoorKeepT
import Derived.Test.YtnigadnjppeckaaDoorGrowIn
import Derived.RangeFuncBox
import Derived.RangeFuncWrites
import Derived.Maps.AppendAt
import Derived.LoopN
namespace Go.Proofs.YtnigadnjppeckaaDoor.inv
open Go.RowKit Go Go.Shelf

attribute [local go_sem] Oper.semAt_some

set_option maxHeartbeats 1000000 in
theorem rev_nil (w : World) (a : Option Addr) (c : Nat) : Calls Tryd.prog 15 #[.slice a 0 c] w fun e w' => e = .returned (.tuple #[]) ∧ w' = w := by
  go_enter Tryd.func15, Tryd.ntmps15
  go_wp2_with fail
  refine wp_loop_rounds 1 ?_
  rw [rounds_succ]
  go_wp2_with fail
  go_end0
  exact ⟨rfl, rfl⟩
set_option maxRecDepth 100000 in
set_option maxHeartbeats 200000 in
theorem Lehmer_bad (w : World) (a : Option Addr) (c n : Nat) (p : List Int) (hl : n = p.length) (hc : n ≤ c) (hr : Reads w a p) (hbad : chk p ≠ 0) :
    Calls Tryd.prog 6 #[.slice a n c] w (RetO w n (chk p)) := by
  have HC := Lib.hid (Check_any w a c n p hl hc hr)
  have e : er.errV (chk p) = .iface 46 (.int .i64 (chk p)) := by unfold er.errV; rw [if_neg hbad]
  obtain ⟨k, hk⟩ : ∃ k, k = chk p := ⟨_, rfl⟩
  rw [e, ← hk] at HC
  rw [← hk] at e hbad ⊢
  have HE := Lib.hid (And.intro e hbad)
  clear e hbad hk hr hl hc
  go_enter Tryd.func6, Tryd.ntmps6
  go_wp2_with fail
  refine HC.out.mono ?_
  rintro e w1 ⟨rfl, rfl⟩
  go_wp2_with fail
  refine bodyPost_ret (v := .tuple #[.slice none 0 0, .iface 46 (.int .i64 k)]) (by simp [results, Tryd.results6, go_sem]) rfl ?_
  rw [← HE.out.1]
  exact RetO.bad HE.out.2 (Below.refl _ _)

def kSl : grow.Kept := ⟨fun v _ => ∃ a n c, v = .slice a n c, fun _ _ _ _ h => h⟩
def kN : grow.Kept := ⟨fun v _ => ∃ n : Nat, v = .int .i64 (n : Int), fun _ _ _ _ h => h⟩
def kOne (n : Nat) : grow.Kept := ⟨fun v W => ∃ g z, v = .slice (some ⟨g, 0, none⟩) 1 1 ∧ n ≤ g ∧ W.heap[g]? = some (.cells #[.int .i64 z] 3 (0, 0)), fun _ _ _ hb ⟨g, z, h1, h2, h3⟩ => ⟨g, z, h1, h2, upb hb h3⟩⟩
theorem keepsOfB {W W' : World} (h : Below W.heap.size W W') : KeepsOthers W W' := ⟨h.size, fun _ _ hk _ => upb h hk⟩
theorem grown_block {W W' : World} {row : Option Nat} {b : Nat} {c : Array Value} {ty : Nat} {fz : Nat × Nat} (hg : W.grownBy W' row) (hr : ∀ r, row = some r → ∃ o : Obj, W.heap[r]? = some o ∧ o.isCells = false) (hb : W.heap[b]? = some (.cells c ty fz)) : W'.heap[b]? = some (.cells c ty fz) :=
  (grownBy_keeps_cells hg hr hb rfl).trans hb
/-- between two rounds: the box of the order, the box of the row -/
structure LR (w : World) (k : Nat) (v : Value) (q : Option Addr) (t : BT Int) (xs : List Int) (W : World) : Prop where
  bo : W.heap[w.heap.size]? = some (.cells #[.pointer q] 39 (0, 0))
  bv : W.heap[w.heap.size + 1]? = some (.cells #[v] 22 (0, 0))
  row : W.ownsRow (w.heap.size + 3) 3 1 v k (xs.map (Value.int .i64))
  len : xs.length = k
  tr : ord.In w.heap.size W q t
  sz : t.size = k
  big : w.heap.size + 3 ≤ W.heap.size
  bel : Below w.heap.size w W
def Round (w : World) (pre : List (Nat × Int)) (W : World) : Prop := ∃ v q t xs, LR w pre.length v q t xs W
theorem Round.own (w : World) (B : Nat) (hB : w.heap.size ≤ B) : OwnFrom B (Round w) := by
  rintro s W W' row ⟨v, q, t, xs, h⟩ hg hr
  have hr' : ∀ r, row = some r → ∃ o : Obj, W.heap[r]? = some o ∧ o.isCells = false := fun r e => (hr r e).2
  have hk : KeepT [] W W' := fun k c ty fz hk _ => grown_block hg hr' hk
  exact ⟨v, q, t, xs, grown_block hg hr' h.bo, grown_block hg hr' h.bv, Proofs.YtnigadnjppeckaaDoor.rowKeep h.row hk (by simp), h.len, Holds.keep h.tr hk (by simp), h.sz, Nat.le_trans h.big hg.size, ownFrom_below (β := Unit) (Nat.le_refl _) hB () W W' row h.bel hg hr⟩
/-- one number more in the row, which lies in a box -/
theorem LR.more {w : World} {k : Nat} {v v' : Value} {q : Option Addr} {t : BT Int} {xs : List Int} {W W1 : World} {z : Int} (h : LR w k v q t xs W) (hown : W1.ownsRow (w.heap.size + 3) 3 1 v' (k + 1) (xs.map (Value.int .i64) ++ [.int .i64 z])) (hg : W.grownBy W1 v.ownBlock) :
    W1.heap[w.heap.size + 1]? = some (.cells #[v] 22 (0, 0)) ∧ (W1.setCell ⟨w.heap.size + 1, 0, none⟩ v').heap[w.heap.size]? = some (.cells #[.pointer q] 39 (0, 0)) ∧ (W1.setCell ⟨w.heap.size + 1, 0, none⟩ v').heap[w.heap.size + 1]? = some (.cells #[v'] 22 (0, 0)) ∧
    (W1.setCell ⟨w.heap.size + 1, 0, none⟩ v').ownsRow (w.heap.size + 3) 3 1 v' (k + 1) ((xs ++ [z]).map (Value.int .i64)) ∧ ord.In w.heap.size (W1.setCell ⟨w.heap.size + 1, 0, none⟩ v') q t ∧ w.heap.size + 3 ≤ (W1.setCell ⟨w.heap.size + 1, 0, none⟩ v').heap.size ∧ Below w.heap.size w (W1.setCell ⟨w.heap.size + 1, 0, none⟩ v') ∧
    (W1.setCell ⟨w.heap.size + 1, 0, none⟩ v').heap[w.heap.size + 2]? = W.heap[w.heap.size + 2]? ∧ KeepsOthers W (W1.setCell ⟨w.heap.size + 1, 0, none⟩ v') ∧ Below w.heap.size W (W1.setCell ⟨w.heap.size + 1, 0, none⟩ v') := by
  have hlt : ∀ b, v.ownBlock = some b → w.heap.size + 3 ≤ b := fun b hb => (World.ownsRow.lt h.row b hb).1
  have hbig := h.big
  have hold : ∀ b, b < w.heap.size + 3 → W1.heap[b]? = W.heap[b]? := fun b hb => hg.block b (by omega) (fun e => by have := hlt b e.symm; omega)
  have h1 : W1.heap[w.heap.size + 1]? = some (.cells #[v] 22 (0, 0)) := (hold _ (by omega)).trans h.bv
  have hkt : KeepT [3, 22] W (W1.setCell ⟨w.heap.size + 1, 0, none⟩ v') := by
    intro b c ty fz hb hty
    have hb1 : W1.heap[b]? = some (.cells c ty fz) := by
      refine (hg.block b (Array.getElem?_eq_some_iff.1 hb).1 (fun e => ?_)).trans hb
      rcases h.row.2 with ⟨e1, _⟩ | ⟨g, cap, cur, e1, _, e3, _⟩
      · rw [e1] at e; cases e
      · rw [e1] at e
        cases e
        rw [e3] at hb
        cases hb
        simp at hty
    by_cases e : b = w.heap.size + 1
    · subst e
      rw [h1] at hb1
      cases hb1
      simp at hty
    · rw [Below.heap_setCell _ _ _ _ e]
      exact hb1
  refine ⟨h1, ?_, one_setCell h1, ?_, Holds.keep h.tr hkt (by decide), ?_, ?_, ?_, ?_, Below.setCell (p := ⟨w.heap.size + 1, 0, none⟩) ⟨hg.os, hg.tape, hg.output, hg.size, fun b hb => hold b (by omega)⟩ (Nat.le_succ _) _⟩
  · rw [Below.heap_setCell _ _ _ _ (by simp)]
    exact (hold _ (by omega)).trans h.bo
  · have := ownsRow_setCell_below hown (a := ⟨w.heap.size + 1, 0, none⟩) (by show w.heap.size + 1 < _; omega) v'
    rw [List.map_append]
    exact this
  · have := hg.size
    simp [World.setCell]
    omega
  · refine Below.setCell ?_ (p := ⟨w.heap.size + 1, 0, none⟩) (Nat.le_succ _) _
    exact ⟨hg.os.trans h.bel.os, hg.tape.trans h.bel.tape, hg.output.trans h.bel.output, Nat.le_trans h.bel.size hg.size, fun b hb => (hold b (by omega)).trans (h.bel.block b hb)⟩
  · rw [Below.heap_setCell _ _ _ _ (by simp)]
    exact hold _ (by omega)
  · refine (KeepsOthers.of_grownBy hg fun j o ej hj => ?_).trans (KeepsOthers.setCell _ _ _)
    rcases h.row.2 with ⟨rfl, _⟩ | ⟨g, cap, cur, rfl, _, hgb, _⟩
    · cases ej
    · cases ej
      rw [hgb] at hj
      cases hj
      rfl
theorem LR.up {w : World} {k : Nat} {v : Value} {q : Option Addr} {t : BT Int} {xs : List Int} {W W1 : World} (h : LR w k v q t xs W) (hb : Below W.heap.size W W1) : LR w k v q t xs W1 :=
  ⟨upb hb h.bo, upb hb h.bv, rowUp h.row hb, h.len, h.tr.up hb, h.sz, Nat.le_trans h.big hb.size, belowTrans h.bel hb⟩

set_option maxRecDepth 100000 in
set_option maxHeartbeats 400000 in
theorem Lehmer_good (w : World) (a : Option Addr) (c n : Nat) (p : List Int) (hl : n = p.length) (hc : n ≤ c) (hr : Reads w a p) (hn : n ≤ 20) (hgood : chk p = 0) :
    Calls Tryd.prog 6 #[.slice a n c] w (RetO w n 0) := by
  have hchk := Check_any w a c n p hl hc hr
  rw [hgood] at hchk
  have hchk' : Calls Tryd.prog 11 #[.slice a n c] w fun e w' => e = .returned .nilIface ∧ w' = w := hchk
  have Hl := Lib.hid hl
  have Hr := Lib.hid hr
  obtain ⟨i0, hi, hz0, hz1, hz2⟩ := info_parts infoInt
  clear hl hc hr hgood hchk
  refine (callsIn_wide (n := 5)).1 ?_
  refine callsIn_of_wp_marks Tryd.func6 rfl trivial ?_ rfl
  simp only [Tryd.ntmps6, List.size_toArray, List.length_cons, List.length_nil, Nat.reduceAdd, Nat.reduceSub, Array.replicate_succ, Array.replicate_zero, List.push_toArray, List.append_toArray, List.nil_append, List.cons_append]
  gi_wp2_with (first
    | (refine ⟨trivial, ?_⟩; gi_at_call 11; refine (callsIn_wide.2 hchk').mono ?_; rintro e w' ⟨rfl, hw⟩; have hw' := hw.symm; subst hw')
    | (refine ⟨trivial, ?_⟩; gi_at_call 12; refine (callsIn_wide.2 (back.back_any _ _ _ _)).mono ?_; rintro e w' ⟨rfl, rfl⟩))
  obtain ⟨W, hW⟩ : ∃ W, W = ((w.alloc (.cells #[.pointer none] 39)).alloc (.cells #[.slice none 0 0] 22)).alloc (.cells #[.slice a n c] 22) := ⟨_, rfl⟩
  have hbW : Below w.heap.size w W := by rw [hW]; exact belowTrans (belowAlloc _ _) (belowTrans (belowAlloc _ _) (belowAlloc _ _))
  have hsz : W.heap.size = w.heap.size + 3 := by rw [hW]; simp
  have hb2 : W.cell? ⟨w.heap.size + 1 + 1, 0, none⟩ = some (.slice a n c) := by
    rw [hW]
    exact cell_of_one (by have h := heap_alloc_new ((w.alloc (.cells #[.pointer none] 39)).alloc (.cells #[.slice none 0 0] 22)) (.cells #[.slice a n c] 22); simpa using h)
  have h0 : W.heap[w.heap.size]? = some (.cells #[.pointer none] 39 (0, 0)) := by rw [hW]; exact upb (belowAlloc _ _) (heapNew1 _ _ _)
  have h1 : W.heap[w.heap.size + 1]? = some (.cells #[.slice none 0 0] 22 (0, 0)) := by rw [hW]; exact upb (belowAlloc _ _) (heapNew2 _ _ _)
  have hrd : p = [] ∨ ∃ b off, a = some ⟨b, off, none⟩ ∧ b < w.heap.size ∧ ∀ j, j < p.length → W.cell? ⟨b, off + j, none⟩ = some (.int .i64 (p[j]?.getD 0)) := by
    by_cases hz : p = []
    · exact .inl hz
    · rcases Hr.out with h | ⟨b, o, ha, hc⟩
      · exact absurd h hz
      · refine .inr ⟨b, o, ha, ?_, fun j hj => by have h := upc hbW (hc j hj); rwa [List.getD_eq_getElem?_getD] at h⟩
        obtain ⟨ob, ho, _⟩ := cells_of_cell (hc 0 (by cases p with | nil => exact absurd rfl hz | cons _ _ => simp))
        exact (Array.getElem?_eq_some_iff.1 ho).1
  rw [← hW]
  clear hW
  have hstops := back.back_stops Fence.wide 4 trivial rfl (by omega) (w.heap.size + 1 + 1) w.heap.size a p.length c p rfl (by rw [← Hl.out]; omega) W (by omega) (by omega) (by rw [← Hl.out]; exact hb2) hrd
  rw [← Hl.out] at hstops
  refine wpIn_rangeFunc_ownF rfl (by omega) (gf := 20) (lb := #[.pointer (some ⟨w.heap.size + 1 + 1, 0, none⟩)]) (by simp [go_sem]) trivial (enters_of Tryd.func20 (by kernel_rfl) rfl)
    hstops
    back.Kb.trans (back.Kb.book (by omega) (by omega)) (Below.refl _ _) (fun _ => rfl)
    (Round w) (fun _ _ _ => False) (Round.own w _ (by omega)) (fun _ _ _ _ _ hs _ _ => hs)
    ⟨.slice none 0 0, none, .nil, [], h0, h1, World.ownsRow_nil _ _ _ _, rfl, rfl, rfl, by omega, hbW⟩
    (fun x => { tmps := #[.slice a n c, undef, .slice none 0 0, .nilIface, .nilIface, .pointer (some ⟨w.heap.size, 0, none⟩), .pointer (some ⟨w.heap.size + 1, 0, none⟩), undef, .int .i64 x.snd, .slice a n c, .nilIface, .nilIface, .bool false, undef, .slice a n c, .func (.func 20) #[] #[.pointer (some ⟨w.heap.size + 1 + 1, 0, none⟩)], .int .i64 (x.fst : Nat), .int .i64 x.snd, undef, undef, undef, undef, undef, undef, undef, undef, undef, undef, undef, undef, undef], defers := [] }) ?assign ?body ?done ?stop
  case assign =>
    intro l x W K hK
    gi_wp2
    exact hK
  case body =>
    rintro l pre x W1 ⟨v, q, t, xs, hR⟩ hlen
    have cv := cell_of_one hR.bv
    have co := cell_of_one hR.bo
    have HR := Lib.hid hR
    have hbg := hR.big
    have hts : t.size ≤ 20 := by rw [hR.sz]; omega
    clear hR h0 h1 hb2 hrd hstops
    gi_wp2
    refine grow.wpIn_grow_last2 6 _ _ (by kernel_rfl) [grow.kEq (v), grow.kEq (.agg #[.pointer q]), grow.kEq (.int .i64 x.snd), kSl, kN, kOne w.heap.size] rfl rfl rfl rfl rfl (by decide) (by kernel_rfl) (by kernel_rfl) (by kernel_rfl) (by kernel_rfl) (by kernel_rfl) ?step ?fin
    case step =>
      refine grow.EachL2.cons ?_ ?_
      · intro A W hB hs hJ K hK
        have s0 := hs 6 (by kernel_rfl)
        simp at s0
        have kk := upc hB cv
        rw [if_pos (by rfl)]
        clear hs hJ
        go_simp
        exact hK _ _ (Below.refl _ _) rfl
      refine grow.EachL2.cons ?_ ?_
      · intro A W hB hs hJ K hK
        have s0 := hs 5 (by kernel_rfl)
        simp at s0
        have kk := upc hB co
        rw [if_pos (by rfl)]
        clear hs hJ
        go_simp
        exact hK _ _ (Below.refl _ _) rfl
      refine grow.EachL2.cons ?_ ?_
      · intro A W hB hs hJ K hK
        have s0 := hs 8 (by kernel_rfl)
        simp at s0
        rw [if_pos (by rfl)]
        clear hs hJ
        go_simp
        exact hK _ _ (Below.refl _ _) rfl
      refine grow.EachL2.cons ?_ ?_
      · intro A W hB hs hJ K hK
        have s0 : A.tmps.getD 19 undef = .agg #[.pointer q] := hJ 1 19 (by kernel_rfl) (by kernel_rfl)
        simp at s0
        have s1 : A.tmps.getD 20 undef = .int .i64 x.snd := hJ 2 20 (by kernel_rfl) (by kernel_rfl)
        simp at s1
        rw [if_pos (by rfl)]
        clear hs hJ
        go_simp
        go_at_call 13
        refine (ord.Between_any w.heap.size W q t 0 x.snd (Nat.le_trans (by have := HR.out.big; omega) hB.size) ((HR.out.up hB).tr) (by have := HR.out.sz; omega)).mono ?_
        rintro e W2 ⟨a2, n2, c2, rfl, hbn⟩
        exact hK _ _ hbn ⟨a2, n2, c2, rfl⟩
      refine grow.EachL2.cons ?_ ?_
      · intro A W hB hs hJ K hK
        obtain ⟨a2, n2, c2, s0⟩ := hJ 3 21 (by kernel_rfl) (by kernel_rfl)
        simp at s0
        rw [if_pos (by rfl)]
        clear hs hJ
        go_simp
        exact hK _ _ (Below.refl _ _) ⟨_, rfl⟩
      refine grow.EachL2.cons ?_ ?_
      · intro A W hB hs hJ K hK
        obtain ⟨n3, s0⟩ := hJ 4 22 (by kernel_rfl) (by kernel_rfl)
        simp at s0
        rw [if_pos (by rfl)]
        clear hs hJ
        go_simp
        exact hK _ _ (belowAlloc _ _) ⟨_, _, rfl, (by have h1 := hB.size; have h2 := HR.out.big; omega), heap_alloc_new _ _⟩
      exact grow.EachL2.nil
    case fin =>
      intro f W hB hF
      have f0 : f 0 = v := hF 0 (by decide)
      have f1 : f 1 = .agg #[.pointer q] := hF 1 (by decide)
      have f2 : f 2 = .int .i64 x.snd := hF 2 (by decide)
      obtain ⟨a2_3, n2_3, c2_3, f3⟩ := hF 3 (by decide)
      obtain ⟨n3_4, f4⟩ := hF 4 (by decide)
      obtain ⟨g_5, z_5, f5, hg_5, hO_5⟩ := hF 5 (by decide)
      clear hF
      intro A hA
      simp only [grow.puts, Act.put, List.getElem?_toArray, List.getElem?_cons_zero, List.getElem?_cons_succ, Option.bind_some, List.setIfInBounds_toArray, List.set_cons_zero, List.set_cons_succ, f0, f1, f2, f3, f4, f5] at hA
      subst hA
      have HW := Lib.hid (HR.out.up hB)
      refine wp_append_own W (.tmp 18) (.tmp 23) 22 rfl (w.heap.size + 3) 3 i0 (.int .i64 0) 1 8 Tryd.underlying22 hi hz0 hz1 hz2 rfl (by decide) v pre.length _ rfl HW.out.row ⟨g_5, 0, none⟩ 1 1 [.int .i64 z_5] rfl rfl (World.news_of_block hO_5) (by simp [Value.oneCell']) (by unfold maxLen; omega) (by omega) (by have := HW.out.big; omega) ?_
      intro v' w1 hown' hgrow _
      obtain ⟨m1, m2, m3, m4, m5, m6, m7, m8, m9, m10⟩ := HW.out.more hown' hgrow
      obtain ⟨g', cap', rfl⟩ := ownsRow_succ hown'
      have mc := cell_of_one m1
      have mf := free_of_one m1
      go_simp
      obtain ⟨W2, hW2⟩ : ∃ W2, W2 = w1.setCell ⟨w.heap.size + 1, 0, none⟩ (.slice (some ⟨g', 0, none⟩) (pre.length + 1) cap') := ⟨_, rfl⟩
      rw [← hW2] at m2 m3 m4 m5 m6 m7 m8 m9 m10 ⊢
      have HM := Lib.hid (And.intro m2 (And.intro m3 (And.intro m4 (And.intro m5 (And.intro m6 (And.intro m7 (And.intro m8 (And.intro ((keepsOfB hB).trans m9) (And.intro (m8.trans (hB.block _ (by omega))) ((hB.mono (by omega)).trans m10))))))))))
      have co2 := cell_of_one m2
      have cf2 := free_of_one m2
      have HI := Lib.hid (ord.Insert_any w.heap.size W2 q t x.snd (by omega) m5 (by omega))
      clear m1 m2 m3 m4 m5 m6 m7 m8 m9 m10 mc mf hown' hgrow hW2 HW
      gi_wp2_with (refine ⟨trivial, ?_⟩; gi_at_call 14; refine (CallsIn.inRound l (callsIn_wide.2 HI.out)).mono ?_; rintro e w' ⟨q2, t2, rfl, ht2, hi2, hb2⟩; have kb := upb hb2 HM.out.1; have kc := cell_of_one kb; have kf := free_of_one kb)
      obtain ⟨m2, m3, m4, m5, m6, m7, m8, m9, m10, m11⟩ := HM.out
      refine ⟨(m9.trans (keepsOfB hb2)).trans (KeepsOthers.setCell _ _ _), ⟨Below.setCell (p := ⟨w.heap.size, 0, none⟩) (m11.trans (hb2.mono (by omega))) (Nat.le_refl _) _, ?_⟩, .slice (some ⟨g', 0, none⟩) (pre.length + 1) cap', q2, t2, xs ++ [z_5], one_setCell kb, ?_, ?_, by rw [List.length_append, HR.out.len]; simp, hi2.store kb (by decide), by have := ht2.2; rw [this, HR.out.sz]; simp, ?_, ?_⟩
      · rw [Below.heap_setCell _ _ _ _ (by show w.heap.size + 1 + 1 ≠ w.heap.size; omega)]
        exact (hb2.block _ (by omega)).trans m10
      · rw [Below.heap_setCell _ _ _ _ (by show w.heap.size + 1 ≠ w.heap.size; omega)]
        exact upb hb2 m3
      · have h := ownsRow_setCell_below (rowUp m4 hb2) (a := ⟨w.heap.size, 0, none⟩) (by show w.heap.size < _; omega) (.pointer q2)
        rw [List.length_append, List.length_singleton]
        exact h
      · have := hb2.size
        simp [World.setCell]
        omega
      · exact Below.setCell (p := ⟨w.heap.size, 0, none⟩) (belowTrans m7 hb2) (Nat.le_refl _) _
  case done =>
    rintro D ys W1 hD hys ⟨v, q, t, xs, hR⟩ hK
    have hyl : ys.length = n := by rw [hys, back.come_length]
    rw [hyl] at hR
    clear hys hyl h0 h1 hb2 hrd hstops
    obtain ⟨va, vc, rfl⟩ : ∃ va vc, v = .slice va n vc := by
      rcases hR.row.2 with ⟨e1, e2⟩ | ⟨g, cap, cur, e1, _⟩
      · have hx : n = 0 := by simpa using e2
        exact ⟨none, 0, by rw [e1, hx]⟩
      · exact ⟨_, _, e1⟩
    have cv := cell_of_one hR.bv
    have hlt : ∀ b, (Value.slice va n vc).ownBlock = some b → w.heap.size + 3 ≤ b := fun b hb => (World.ownsRow.lt hR.row b hb).1
    have hDo : (Value.slice va n vc).ownBlock ≠ some D := by
      intro e
      rcases hR.row.2 with ⟨e1, _⟩ | ⟨g, cap, cur, e1, _, e3, _⟩
      · rw [e1] at e; cases e
      · rw [e1] at e
        cases e
        rw [e3] at hK
        cases hK
    have hrev : Calls Tryd.prog 15 #[.slice va n vc] W1 fun e w' => e = .returned (.tuple #[]) ∧ (∃ ys : List Int, ys.length = n ∧ w'.ownsRow (w.heap.size + 3) 3 1 (.slice va n vc) n (ys.map (Value.int .i64))) ∧ (∀ b, (Value.slice va n vc).ownBlock ≠ some b → w'.heap[b]? = W1.heap[b]?) ∧ Below (w.heap.size + 3) W1 w' := by
      by_cases hn0 : n = 0
      · have hrow := hR.row
        have hlen := hR.len
        subst hn0
        exact (rev_nil W1 va vc).mono fun _ _ ⟨h1, h2⟩ => ⟨h1, ⟨xs, hlen, by rw [h2]; exact hrow⟩, fun _ _ => by rw [h2], by rw [h2]; exact Below.refl _ _⟩
      · rcases hR.row.2 with ⟨e1, e2⟩ | ⟨g, cap, cur, e1, hg, _⟩
        · have hx : n = 0 := by simpa using e2
          exact absurd hx hn0
        · injection e1 with e4 _ e5
          subst e4 e5
          exact (revJ.rev_some (w.heap.size + 3) W1 g n _ xs hR.len (by omega) hg hR.big hR.row).mono fun _ _ ⟨h1, h2⟩ => ⟨h1, ⟨xs.reverse, by rw [List.length_reverse]; exact hR.len, h2.own⟩, h2.oth, h2.bel⟩
    have HV := Lib.hid hrev
    have HR := Lib.hid (And.intro hR (And.intro hDo hK))
    have Hlt := Lib.hid hlt
    have hbg := hR.big
    clear hR hDo hK hrev hlt
    gi_wp2_with (refine ⟨trivial, ?_⟩; gi_at_call 15; refine (callsIn_wide.2 HV.out).mono ?_; rintro e w' ⟨rfl, hx, hoth, hb⟩; have cv2 := cell_of_one ((hoth (w.heap.size + 1) (fun e => by have := Hlt.out _ e; omega)).trans HR.out.1.bv))
    have hK' : w'.heap[D]? = some (.deferred (some [])) := (hoth D HR.out.2.1).trans HR.out.2.2
    refine ⟨by simp, .inl ⟨_, _, rfl, run_takeDeferred hK', ?_⟩⟩
    obtain ⟨zs, hzl, hzo⟩ := hx
    refine ⟨.tuple #[.slice va n vc, .nilIface], by simp only [results, Tryd.results6]; simp [go_sem], va, vc, zs, by rw [hzl]; rfl, ?_, by rw [if_pos rfl]; exact hzl, ?_⟩
    · have h := ownsRow_lower (ownsRow_putObj hzo (.deferred none) hK' rfl) (show w.heap.size ≤ w.heap.size + 3 by omega)
      unfold OwnI
      rw [hzl]
      exact h
    · exact (HR.out.1.bel.trans (hb.mono (by omega))).trans (belowK_b (w := w) (Nat.le_refl _) w' D _ _ (by omega) hK' rfl rfl)
  case stop =>
    rintro D c pre W _ _ h _
    exact h.elim
end Go.Proofs.YtnigadnjppeckaaDoor.inv
