/- Package scan: the pairs of a list, taken together. (Printed by sp.py.) -/
import Derived.Test.YtnnpeblpdkeffaaScanC
import Derived.Test.YtnnpeblpdkeffaaGrowIn
import Derived.Test.YtnnpeblpdkeffaaGather
import Derived.RangeFuncBox
import Derived.RangeFuncWrites
import Derived.Maps.AppendAt
namespace Go.Proofs.Ytnnpeblpdkeffaa.scan
open Go.RowKit Go.Shelf

attribute [local go_sem] Oper.semAt_some

/-- the j-th pair, taken together -/
def pv (k : Nat) (zs : List Int) (j : Nat) : Int := if 2 * j + 1 < zs.length then ap k (zs.getD (2 * j) 0) (zs.getD (2 * j + 1) 0) else zs.getD (2 * j) 0
def pairsP (k : Nat) (zs : List Int) : List Int := (List.range ((zs.length + 1) / 2)).map (pv k zs)
theorem pairsP_length (k : Nat) (zs : List Int) : (pairsP k zs).length = (zs.length + 1) / 2 := by simp [pairsP]
theorem pairsP_of {k : Nat} {zs : List Int} {len N : Nat} (h : len = zs.length) (hN : N = (len + 1) / 2) {ys : List (Fin N)} (hy : ys.map Fin.val = List.range N) : ys.map (fun j => pv k zs j.val) = pairsP k zs ∧ ys.length = N := by
  subst h
  have h1 : ys.map (fun j => pv k zs j.val) = (ys.map Fin.val).map (pv k zs) := by rw [List.map_map]; rfl
  have h2 := congrArg List.length hy
  rw [List.length_map, List.length_range] at h2
  exact ⟨by rw [h1, hy, pairsP, hN], h2⟩

/-- a new row of one number -/
def kOne (n : Nat) (x : Int) : grow.Kept := ⟨fun v W => ∃ g, v = .slice (some ⟨g, 0, none⟩) 1 1 ∧ n ≤ g ∧ W.heap[g]? = some (.cells #[.int .i64 x] 3 (0, 0)), fun _ _ _ hb ⟨g, h1, h2, h3⟩ => ⟨g, h1, h2, upb hb h3⟩⟩

/-- one number more, in a slice that lies in a box -/
theorem boxNext {W w1 : World} {B n₀ Bs Bn : Nat} {v v' : Value} {k : Nat} {xs ys : List Value} (hv : Boxed W B 22 v) (hrow : W.ownsRow (B + 3) 3 1 v k xs) (hs : B + 3 ≤ W.heap.size) (hn : n₀ ≤ B) (hBs : Bs < B + 3) (hBn : Bn < B + 3) (h1 : B ≠ Bs) (h2 : B ≠ Bn)
    (hown' : w1.ownsRow (B + 3) 3 1 v' (k + 1) ys) (hg : W.grownBy w1 v.ownBlock) :
    w1.cell? ⟨B, 0, none⟩ = some v ∧ w1.frozen? ⟨B, 0, none⟩ = false ∧ Boxed (w1.setCell ⟨B, 0, none⟩ v') B 22 v' ∧ (w1.setCell ⟨B, 0, none⟩ v').ownsRow (B + 3) 3 1 v' (k + 1) ys ∧ KeepsOthers W (w1.setCell ⟨B, 0, none⟩ v') ∧
      Below n₀ W (w1.setCell ⟨B, 0, none⟩ v') ∧ (w1.setCell ⟨B, 0, none⟩ v').heap[Bs]? = W.heap[Bs]? ∧ (w1.setCell ⟨B, 0, none⟩ v').heap[Bn]? = W.heap[Bn]? := by
  have hlt : ∀ b, v.ownBlock = some b → B + 3 ≤ b := fun b hb => (hrow.lt b hb).1
  have hold : ∀ b, b < B + 3 → w1.heap[b]? = W.heap[b]? := fun b hb => hg.block b (by omega) (fun e => by have := hlt b e.symm; omega)
  have hv1 : Boxed w1 B 22 v := (hold B (by omega)).trans hv
  refine ⟨hv1.cell, hv1.frozen, hv1.set v', ?_, ?_, ?_, ?_, ?_⟩
  · exact ownsRow_setCell_below hown' (a := ⟨B, 0, none⟩) (by show B < B + 3; omega) v'
  · refine (KeepsOthers.of_grownBy hg fun j o ej hj => ?_).trans (KeepsOthers.setCell _ _ _)
    rcases hrow.2 with ⟨rfl, _⟩ | ⟨g, cap, cur, rfl, _, hgb, _⟩
    · cases ej
    · cases ej
      rw [hgb] at hj
      cases hj
      rfl
  · refine Below.setCell ⟨hg.os, hg.tape, hg.output, hg.size, fun b hb => hold b (by omega)⟩ (p := ⟨B, 0, none⟩) hn _
  · exact (Below.heap_setCell _ _ _ _ (fun e => h1 e.symm)).trans (hold Bs hBs)
  · exact (Below.heap_setCell _ _ _ _ (fun e => h2 e.symm)).trans (hold Bn hBn)

theorem keepsOfB {W W' : World} (h : Below W.heap.size W W') : KeepsOthers W W' := ⟨h.size, fun _ _ hk _ => upb h hk⟩

set_option maxRecDepth 100000 in
set_option maxHeartbeats 4000000 in
theorem pairs1 (w : World) (nn : Int) (a : Option Addr) (b off c : Nat) (zs : List Int) (hn : zs.length ≤ 17592186044416) (hzc : zs.length ≤ c) (ha : zs.length = 0 ∨ a = some ⟨b, off, none⟩)
    (hc : ∀ j, j < zs.length → w.cell? ⟨b, off + j, none⟩ = some (.int .i64 (zs.getD j 0))) :
    Calls Try.prog 16 #[.agg #[.int .i64 nn, .func (.func 21) #[] #[]], .slice a zs.length c] w (RetI 3 w (pairsP 1 zs)) := by
  obtain ⟨i0, hi, hz0, hz1, hz2⟩ := info_parts infoInt
  obtain ⟨len, hlen⟩ : ∃ len, len = zs.length := ⟨_, rfl⟩
  rw [← hlen] at hn hzc ha hc ⊢
  have Hlen := Lib.hid hlen
  clear hlen
  refine (callsIn_wide (n := 5)).1 ?_
  refine callsIn_of_wp_marks Try.func16 rfl trivial ?_ rfl
  simp only [Try.ntmps16, List.size_toArray, List.length_cons, List.length_nil, Nat.reduceAdd, Nat.reduceSub, Array.replicate_succ, Array.replicate_zero, List.push_toArray, List.append_toArray, List.nil_append, List.cons_append]
  gi_wp2_with (refine ⟨trivial, ?_⟩; gi_at_call 25; refine (callsIn_wide.2 (chunk_any _ _ _ _)).mono ?_; rintro e w' ⟨rfl, rfl⟩)
  obtain ⟨W, hW⟩ : ∃ W, W = (((w.alloc (.cells #[.int .i64 nn, .func (.func 21) #[] #[]] 43)).alloc (.cells #[.slice none 0 0] 22)).alloc (.cells #[.slice a len c] 22)).alloc (.cells #[.int .i64 2] 3) := ⟨_, rfl⟩
  have hbW : Below w.heap.size w W := by rw [hW]; exact belowTrans (belowAlloc _ _) (belowTrans (belowAlloc _ _) (belowTrans (belowAlloc _ _) (belowAlloc _ _)))
  have hszW : W.heap.size = w.heap.size + 4 := by rw [hW]; simp
  have h0 : W.heap[w.heap.size]? = some (.cells #[.int .i64 nn, .func (.func 21) #[] #[]] 43 (0, 0)) := by rw [hW]; exact upb (belowTrans (belowAlloc _ _) (belowTrans (belowAlloc _ _) (belowAlloc _ _))) (heap_alloc_new _ _)
  have h1 : Boxed W (w.heap.size + 1) 22 (.slice none 0 0) := by rw [hW]; exact upb (belowTrans (belowAlloc _ _) (belowAlloc _ _)) (heapNew2 _ _ _)
  have h2 : W.heap[w.heap.size + 1 + 1]? = some (.cells #[.slice a len c] 22 (0, 0)) := by
    rw [hW]
    have h := heapNew1 ((w.alloc (.cells #[.int .i64 nn, .func (.func 21) #[] #[]] 43)).alloc (.cells #[.slice none 0 0] 22)) (.cells #[.slice a len c] 22) (.cells #[.int .i64 2] 3)
    simpa using h
  have h3 : W.heap[w.heap.size + 1 + 1 + 1]? = some (.cells #[.int .i64 2] 3 (0, 0)) := by
    rw [hW]
    have h := heapNew2 ((w.alloc (.cells #[.int .i64 nn, .func (.func 21) #[] #[]] 43)).alloc (.cells #[.slice none 0 0] 22)) (.cells #[.slice a len c] 22) (.cells #[.int .i64 2] 3)
    simpa using h
  rw [← hW]
  clear hW
  refine wpIn_rangeFunc_ownF rfl (by omega) (gf := 30) (lb := #[.pointer (some ⟨w.heap.size + 1 + 1, 0, none⟩), .pointer (some ⟨w.heap.size + 1 + 1 + 1, 0, none⟩)]) (by simp [go_sem]) trivial (enters_of Try.func30 (by kernel_rfl) rfl)
    (chunk_stops _ (by omega) (w.heap.size + 1 + 1) (w.heap.size + 1 + 1 + 1) (w.heap.size + 1) a b off len c hzc ha hn W h2 h3)
    Kc.trans (Kc.book (by omega) (by omega) (by omega)) (Below.refl _ _) (fun _ => rfl)
    (fun pre W' => (∃ v, Boxed W' (w.heap.size + 1) 22 v ∧ W'.ownsRow (w.heap.size + 4) 3 1 v pre.length (pre.map (fun j => Value.int .i64 (pv 1 zs j.val))) ∧ True) ∧ Below (w.heap.size + 1) W W') (fun _ _ _ => False)
    (OwnFrom.and (Own.from (holdsRow_own (w.heap.size + 4) (w.heap.size + 1) 22 3 1 (fun pre : List (Fin ((len + 1) / 2)) => pre.length) (fun pre => pre.map (fun j => Value.int .i64 (pv 1 zs j.val))) (fun _ _ => True)) _) (ownFrom_below (by omega) (by omega))) (fun _ _ _ _ _ hs _ _ => hs)
    ⟨⟨_, h1, World.ownsRow_nil _ _ _ _, trivial⟩, Below.refl _ _⟩
    (fun x => { tmps := #[.agg #[.int .i64 nn, .func (.func 21) #[] #[]], .slice a len c, .pointer (some ⟨w.heap.size, 0, none⟩), undef, .slice none 0 0, .pointer (some ⟨w.heap.size + 1, 0, none⟩), ch b off len x.val, .slice a len c, .func (.func 30) #[] #[.pointer (some ⟨w.heap.size + 1 + 1, 0, none⟩), .pointer (some ⟨w.heap.size + 1 + 1 + 1, 0, none⟩)], ch b off len x.val, undef, undef, undef, undef, undef, undef, undef, undef, undef, undef, undef, undef, undef, undef, undef, undef, undef, undef, undef, undef, undef, undef], defers := [] }) ?assign ?body ?done ?stop
  case assign =>
    intro l x W K hK
    gi_wp2
    exact hK
  case body =>
    rintro l pre x W1 ⟨⟨v, hv, hrow, _⟩, hBB⟩ hplen
    have hcell := hv.cell
    have kop := two_c1 (hBB.block w.heap.size (by omega) |>.trans h0)
    have hxl := x.isLt
    have hWB : Below w.heap.size w W1 := hbW.trans (hBB.mono (Nat.le_succ _))
    have hsz1 : w.heap.size + 4 ≤ W1.heap.size := by have := hBB.size; omega
    obtain ⟨m, hm⟩ : ∃ m, m = 2 * x.val := ⟨_, rfl⟩
    clear h0 h1 h2 h3 hbW
    by_cases h2x : m + 2 ≤ len
    · have hch : ch b off len x.val = .slice (some ⟨b, off + m, none⟩) 2 2 := by rw [ch, ← hm, show min 2 (len - m) = 2 by omega]
      have q0 := upc hWB (hc m (by omega))
      have q1 : W1.cell? ⟨b, off + m + 1, none⟩ = some (.int .i64 (zs.getD (m + 1) 0)) := upc hWB (hc (m + 1) (by omega))
      have Hpv : Hid (pv 1 zs x.val = ap 1 (zs.getD m 0) (zs.getD (m + 1) 0)) := Lib.hid (by rw [pv, ← hm, ← Hlen.out, if_pos (by omega)])
      rw [hch]
      clear hch hm hc h2x
      gi_wp2
      refine grow.wpIn_grow_last2 11 _ _ (by kernel_rfl) [grow.kEq (v), grow.kEq (.pointer (some ⟨w.heap.size, 1, none⟩)), grow.kEq (.func (.func 21) #[] #[]), grow.kEq (.slice (some ⟨b, off + m, none⟩) 2 2), grow.kEq (.pointer (some ⟨b, off + m, none⟩)), grow.kEq (.int .i64 (zs.getD m 0)), grow.kEq (.slice (some ⟨b, off + m, none⟩) 2 2), grow.kEq (.pointer (some ⟨b, off + m + 1, none⟩)), grow.kEq (.int .i64 (zs.getD (m + 1) 0)), grow.kEq (.int .i64 (ap 1 (zs.getD m 0) (zs.getD (m + 1) 0))), kOne w.heap.size (ap 1 (zs.getD m 0) (zs.getD (m + 1) 0))] rfl rfl rfl rfl rfl (by decide) (by kernel_rfl) (by kernel_rfl) (by kernel_rfl) (by kernel_rfl) (by kernel_rfl) ?step ?fin
      case step =>
        refine grow.EachL2.cons ?_ ?_
        · intro A W hB hs hJ K hK
          have s0 := hs 5 (by kernel_rfl)
          simp at s0
          have kk := upc hB hcell
          rw [if_pos (by rfl)]
          clear hs hJ
          go_simp
          exact hK _ _ (Below.refl _ _) rfl
        refine grow.EachL2.cons ?_ ?_
        · intro A W hB hs hJ K hK
          have s0 := hs 2 (by kernel_rfl)
          simp at s0
          rw [if_pos (by rfl)]
          clear hs hJ
          go_simp
          exact hK _ _ (Below.refl _ _) rfl
        refine grow.EachL2.cons ?_ ?_
        · intro A W hB hs hJ K hK
          have s0 : A.tmps.getD 14 undef = .pointer (some ⟨w.heap.size, 1, none⟩) := hJ 1 14 (by kernel_rfl) (by kernel_rfl)
          simp at s0
          have kk := upc hB kop
          rw [if_pos (by rfl)]
          clear hs hJ
          go_simp
          exact hK _ _ (Below.refl _ _) rfl
        refine grow.EachL2.cons ?_ ?_
        · intro A W hB hs hJ K hK
          have s0 := hs 6 (by kernel_rfl)
          simp at s0
          rw [if_pos (by rfl)]
          clear hs hJ
          go_simp
          exact hK _ _ (Below.refl _ _) rfl
        refine grow.EachL2.cons ?_ ?_
        · intro A W hB hs hJ K hK
          have s0 : A.tmps.getD 16 undef = .slice (some ⟨b, off + m, none⟩) 2 2 := hJ 3 16 (by kernel_rfl) (by kernel_rfl)
          simp at s0
          rw [if_pos (by rfl)]
          clear hs hJ
          go_simp
          exact hK _ _ (Below.refl _ _) rfl
        refine grow.EachL2.cons ?_ ?_
        · intro A W hB hs hJ K hK
          have s0 : A.tmps.getD 17 undef = .pointer (some ⟨b, off + m, none⟩) := hJ 4 17 (by kernel_rfl) (by kernel_rfl)
          simp at s0
          have kk := upc hB q0
          rw [if_pos (by rfl)]
          clear hs hJ
          go_simp
          exact hK _ _ (Below.refl _ _) rfl
        refine grow.EachL2.cons ?_ ?_
        · intro A W hB hs hJ K hK
          have s0 := hs 6 (by kernel_rfl)
          simp at s0
          rw [if_pos (by rfl)]
          clear hs hJ
          go_simp
          exact hK _ _ (Below.refl _ _) rfl
        refine grow.EachL2.cons ?_ ?_
        · intro A W hB hs hJ K hK
          have s0 : A.tmps.getD 19 undef = .slice (some ⟨b, off + m, none⟩) 2 2 := hJ 6 19 (by kernel_rfl) (by kernel_rfl)
          simp at s0
          rw [if_pos (by rfl)]
          clear hs hJ
          go_simp
          exact hK _ _ (Below.refl _ _) rfl
        refine grow.EachL2.cons ?_ ?_
        · intro A W hB hs hJ K hK
          have s0 : A.tmps.getD 20 undef = .pointer (some ⟨b, off + m + 1, none⟩) := hJ 7 20 (by kernel_rfl) (by kernel_rfl)
          simp at s0
          have kk := upc hB q1
          rw [if_pos (by rfl)]
          clear hs hJ
          go_simp
          exact hK _ _ (Below.refl _ _) rfl
        refine grow.EachL2.cons ?_ ?_
        · intro A W hB hs hJ K hK
          have s0 : A.tmps.getD 15 undef = .func (.func 21) #[] #[] := hJ 2 15 (by kernel_rfl) (by kernel_rfl)
          simp at s0
          have s1 : A.tmps.getD 18 undef = .int .i64 (zs.getD m 0) := hJ 5 18 (by kernel_rfl) (by kernel_rfl)
          simp at s1
          have s2 : A.tmps.getD 21 undef = .int .i64 (zs.getD (m + 1) 0) := hJ 8 21 (by kernel_rfl) (by kernel_rfl)
          simp at s2
          rw [if_pos (by rfl)]
          clear hs hJ
          go_simp
          refine (take1 _ _ _).mono ?_
          rintro e W2 ⟨rfl, rfl⟩
          exact hK _ _ (Below.refl _ _) rfl
        refine grow.EachL2.cons ?_ ?_
        · intro A W hB hs hJ K hK
          have s0 : A.tmps.getD 22 undef = .int .i64 (ap 1 (zs.getD m 0) (zs.getD (m + 1) 0)) := hJ 9 22 (by kernel_rfl) (by kernel_rfl)
          simp at s0
          rw [if_pos (by rfl)]
          clear hs hJ
          go_simp
          exact hK _ _ (belowAlloc _ _) ⟨_, rfl, (by have h1 := hB.size; have h2 := hBB.size; omega), heap_alloc_new _ _⟩
        exact grow.EachL2.nil
      case fin =>
        intro f W hB hF
        have f0 : f 0 = v := hF 0 (by decide)
        have f1 : f 1 = .pointer (some ⟨w.heap.size, 1, none⟩) := hF 1 (by decide)
        have f2 : f 2 = .func (.func 21) #[] #[] := hF 2 (by decide)
        have f3 : f 3 = .slice (some ⟨b, off + m, none⟩) 2 2 := hF 3 (by decide)
        have f4 : f 4 = .pointer (some ⟨b, off + m, none⟩) := hF 4 (by decide)
        have f5 : f 5 = .int .i64 (zs.getD m 0) := hF 5 (by decide)
        have f6 : f 6 = .slice (some ⟨b, off + m, none⟩) 2 2 := hF 6 (by decide)
        have f7 : f 7 = .pointer (some ⟨b, off + m + 1, none⟩) := hF 7 (by decide)
        have f8 : f 8 = .int .i64 (zs.getD (m + 1) 0) := hF 8 (by decide)
        have f9 : f 9 = .int .i64 (ap 1 (zs.getD m 0) (zs.getD (m + 1) 0)) := hF 9 (by decide)
        obtain ⟨g_10, f10, hg_10, hO_10⟩ := hF 10 (by decide)
        clear hF
        intro A hA
        simp only [grow.puts, Act.put, List.getElem?_toArray, List.getElem?_cons_zero, List.getElem?_cons_succ, Option.bind_some, List.setIfInBounds_toArray, List.set_cons_zero, List.set_cons_succ, f0, f1, f2, f3, f4, f5, f6, f7, f8, f9, f10] at hA
        subst hA
        refine wp_append_own W (.tmp 13) (.tmp 23) 22 rfl (w.heap.size + 4) 3 i0 (.int .i64 0) 1 8 Try.underlying22 hi hz0 hz1 hz2 rfl (by decide) v pre.length _ rfl (rowUp hrow hB) ⟨g_10, 0, none⟩ 1 1 [.int .i64 (ap 1 (zs.getD m 0) (zs.getD (m + 1) 0))] rfl rfl (World.news_of_block hO_10) (by simp [Value.oneCell']) (by unfold maxLen; omega) (by omega) (by have := hB.size; omega) ?_
        intro v' w1 hown' hgrow _
        have hvW : Boxed W (w.heap.size + 1) 22 v := upb hB hv
        obtain ⟨hc1, hf1, hb1, ho1, hk1, hl1, hs1, hn1⟩ := boxNext (n₀ := w.heap.size + 1) (Bs := w.heap.size + 1 + 1) (Bn := w.heap.size + 1 + 1 + 1) hvW (rowUp hrow hB) (by have := hB.size; omega) (Nat.le_refl _) (by omega) (by omega) (by omega) (by omega) hown' hgrow
        obtain ⟨g', cap', rfl⟩ := ownsRow_succ hown'
        go_simp
        refine ⟨(keepsOfB hB).trans hk1, ⟨(hB.mono (by omega)).trans hl1, hs1.trans (hB.block _ (by omega)), hn1.trans (hB.block _ (by omega))⟩, ⟨_, hb1, ?_, trivial⟩, hBB.trans ((hB.mono (by omega)).trans hl1)⟩
        rw [List.length_append, List.map_append, List.length_singleton, List.map_singleton]
        have e : pv 1 zs x.val = ap 1 (zs.getD m 0) (zs.getD (m + 1) 0) := Hpv.out
        rw [e]
        exact ho1
    · have hch : ch b off len x.val = .slice (some ⟨b, off + m, none⟩) 1 1 := by rw [ch, ← hm, show min 2 (len - m) = 1 by omega]
      have q0 := upc hWB (hc m (by omega))
      have Hpv : Hid (pv 1 zs x.val = zs.getD m 0) := Lib.hid (by rw [pv, ← hm, ← Hlen.out, if_neg (by omega)])
      rw [hch]
      clear hch hm hc h2x
      gi_wp2
      refine grow.wpIn_grow_last2 5 _ _ (by kernel_rfl) [grow.kEq (v), grow.kEq (.slice (some ⟨b, off + m, none⟩) 1 1), grow.kEq (.pointer (some ⟨b, off + m, none⟩)), grow.kEq (.int .i64 (zs.getD m 0)), kOne w.heap.size (zs.getD m 0)] rfl rfl rfl rfl rfl (by decide) (by kernel_rfl) (by kernel_rfl) (by kernel_rfl) (by kernel_rfl) (by kernel_rfl) ?step ?fin
      case step =>
        refine grow.EachL2.cons ?_ ?_
        · intro A W hB hs hJ K hK
          have s0 := hs 5 (by kernel_rfl)
          simp at s0
          have kk := upc hB hcell
          rw [if_pos (by rfl)]
          clear hs hJ
          go_simp
          exact hK _ _ (Below.refl _ _) rfl
        refine grow.EachL2.cons ?_ ?_
        · intro A W hB hs hJ K hK
          have s0 := hs 6 (by kernel_rfl)
          simp at s0
          rw [if_pos (by rfl)]
          clear hs hJ
          go_simp
          exact hK _ _ (Below.refl _ _) rfl
        refine grow.EachL2.cons ?_ ?_
        · intro A W hB hs hJ K hK
          have s0 : A.tmps.getD 26 undef = .slice (some ⟨b, off + m, none⟩) 1 1 := hJ 1 26 (by kernel_rfl) (by kernel_rfl)
          simp at s0
          rw [if_pos (by rfl)]
          clear hs hJ
          go_simp
          exact hK _ _ (Below.refl _ _) rfl
        refine grow.EachL2.cons ?_ ?_
        · intro A W hB hs hJ K hK
          have s0 : A.tmps.getD 27 undef = .pointer (some ⟨b, off + m, none⟩) := hJ 2 27 (by kernel_rfl) (by kernel_rfl)
          simp at s0
          have kk := upc hB q0
          rw [if_pos (by rfl)]
          clear hs hJ
          go_simp
          exact hK _ _ (Below.refl _ _) rfl
        refine grow.EachL2.cons ?_ ?_
        · intro A W hB hs hJ K hK
          have s0 : A.tmps.getD 28 undef = .int .i64 (zs.getD m 0) := hJ 3 28 (by kernel_rfl) (by kernel_rfl)
          simp at s0
          rw [if_pos (by rfl)]
          clear hs hJ
          go_simp
          exact hK _ _ (belowAlloc _ _) ⟨_, rfl, (by have h1 := hB.size; have h2 := hBB.size; omega), heap_alloc_new _ _⟩
        exact grow.EachL2.nil
      case fin =>
        intro f W hB hF
        have f0 : f 0 = v := hF 0 (by decide)
        have f1 : f 1 = .slice (some ⟨b, off + m, none⟩) 1 1 := hF 1 (by decide)
        have f2 : f 2 = .pointer (some ⟨b, off + m, none⟩) := hF 2 (by decide)
        have f3 : f 3 = .int .i64 (zs.getD m 0) := hF 3 (by decide)
        obtain ⟨g_4, f4, hg_4, hO_4⟩ := hF 4 (by decide)
        clear hF
        intro A hA
        simp only [grow.puts, Act.put, List.getElem?_toArray, List.getElem?_cons_zero, List.getElem?_cons_succ, Option.bind_some, List.setIfInBounds_toArray, List.set_cons_zero, List.set_cons_succ, f0, f1, f2, f3, f4] at hA
        subst hA
        refine wp_append_own W (.tmp 25) (.tmp 29) 22 rfl (w.heap.size + 4) 3 i0 (.int .i64 0) 1 8 Try.underlying22 hi hz0 hz1 hz2 rfl (by decide) v pre.length _ rfl (rowUp hrow hB) ⟨g_4, 0, none⟩ 1 1 [.int .i64 (zs.getD m 0)] rfl rfl (World.news_of_block hO_4) (by simp [Value.oneCell']) (by unfold maxLen; omega) (by omega) (by have := hB.size; omega) ?_
        intro v' w1 hown' hgrow _
        have hvW : Boxed W (w.heap.size + 1) 22 v := upb hB hv
        obtain ⟨hc1, hf1, hb1, ho1, hk1, hl1, hs1, hn1⟩ := boxNext (n₀ := w.heap.size + 1) (Bs := w.heap.size + 1 + 1) (Bn := w.heap.size + 1 + 1 + 1) hvW (rowUp hrow hB) (by have := hB.size; omega) (Nat.le_refl _) (by omega) (by omega) (by omega) (by omega) hown' hgrow
        obtain ⟨g', cap', rfl⟩ := ownsRow_succ hown'
        go_simp
        refine ⟨(keepsOfB hB).trans hk1, ⟨(hB.mono (by omega)).trans hl1, hs1.trans (hB.block _ (by omega)), hn1.trans (hB.block _ (by omega))⟩, ⟨_, hb1, ?_, trivial⟩, hBB.trans ((hB.mono (by omega)).trans hl1)⟩
        rw [List.length_append, List.map_append, List.length_singleton, List.map_singleton]
        have e : pv 1 zs x.val = zs.getD m 0 := Hpv.out
        rw [e]
        exact ho1
  case done =>
    rintro D ys W1 hD hys ⟨⟨v, hv, hrow, _⟩, hBB⟩ hK
    have hcc := hv.cell
    obtain ⟨he, hel⟩ := pairsP_of (k := 1) Hlen.out rfl hys
    have hmap : ys.map (fun j => Value.int .i64 (pv 1 zs j.val)) = (pairsP 1 zs).map (Value.int .i64) := by rw [← he, List.map_map]; rfl
    rw [hmap, hel, Hlen.out, ← pairsP_length 1 zs] at hrow
    clear he hel hmap hys
    gi_wp2
    refine ⟨by simp, .inl ⟨_, _, rfl, run_takeDeferred hK, ?_⟩⟩
    refine ⟨_, results_tmp rfl _ _ _, ?_⟩
    exact RetI.mk (ownsRow_lower (ownsRow_putObj hrow _ hK rfl) (by omega)) ((hbW.trans (hBB.mono (Nat.le_succ _))).trans (belowK_b (w := w) (Nat.le_refl _) W1 D _ _ (by omega) hK rfl rfl))
  case stop =>
    rintro D c pre W _ _ h _
    exact h.elim

set_option maxRecDepth 100000 in
set_option maxHeartbeats 4000000 in
theorem pairs2 (w : World) (nn : Int) (a : Option Addr) (b off c : Nat) (zs : List Int) (hn : zs.length ≤ 17592186044416) (hzc : zs.length ≤ c) (ha : zs.length = 0 ∨ a = some ⟨b, off, none⟩)
    (hc : ∀ j, j < zs.length → w.cell? ⟨b, off + j, none⟩ = some (.int .i64 (zs.getD j 0))) :
    Calls Try.prog 16 #[.agg #[.int .i64 nn, .func (.func 22) #[] #[]], .slice a zs.length c] w (RetI 3 w (pairsP 2 zs)) := by
  obtain ⟨i0, hi, hz0, hz1, hz2⟩ := info_parts infoInt
  obtain ⟨len, hlen⟩ : ∃ len, len = zs.length := ⟨_, rfl⟩
  rw [← hlen] at hn hzc ha hc ⊢
  have Hlen := Lib.hid hlen
  clear hlen
  refine (callsIn_wide (n := 5)).1 ?_
  refine callsIn_of_wp_marks Try.func16 rfl trivial ?_ rfl
  simp only [Try.ntmps16, List.size_toArray, List.length_cons, List.length_nil, Nat.reduceAdd, Nat.reduceSub, Array.replicate_succ, Array.replicate_zero, List.push_toArray, List.append_toArray, List.nil_append, List.cons_append]
  gi_wp2_with (refine ⟨trivial, ?_⟩; gi_at_call 25; refine (callsIn_wide.2 (chunk_any _ _ _ _)).mono ?_; rintro e w' ⟨rfl, rfl⟩)
  obtain ⟨W, hW⟩ : ∃ W, W = (((w.alloc (.cells #[.int .i64 nn, .func (.func 22) #[] #[]] 43)).alloc (.cells #[.slice none 0 0] 22)).alloc (.cells #[.slice a len c] 22)).alloc (.cells #[.int .i64 2] 3) := ⟨_, rfl⟩
  have hbW : Below w.heap.size w W := by rw [hW]; exact belowTrans (belowAlloc _ _) (belowTrans (belowAlloc _ _) (belowTrans (belowAlloc _ _) (belowAlloc _ _)))
  have hszW : W.heap.size = w.heap.size + 4 := by rw [hW]; simp
  have h0 : W.heap[w.heap.size]? = some (.cells #[.int .i64 nn, .func (.func 22) #[] #[]] 43 (0, 0)) := by rw [hW]; exact upb (belowTrans (belowAlloc _ _) (belowTrans (belowAlloc _ _) (belowAlloc _ _))) (heap_alloc_new _ _)
  have h1 : Boxed W (w.heap.size + 1) 22 (.slice none 0 0) := by rw [hW]; exact upb (belowTrans (belowAlloc _ _) (belowAlloc _ _)) (heapNew2 _ _ _)
  have h2 : W.heap[w.heap.size + 1 + 1]? = some (.cells #[.slice a len c] 22 (0, 0)) := by
    rw [hW]
    have h := heapNew1 ((w.alloc (.cells #[.int .i64 nn, .func (.func 22) #[] #[]] 43)).alloc (.cells #[.slice none 0 0] 22)) (.cells #[.slice a len c] 22) (.cells #[.int .i64 2] 3)
    simpa using h
  have h3 : W.heap[w.heap.size + 1 + 1 + 1]? = some (.cells #[.int .i64 2] 3 (0, 0)) := by
    rw [hW]
    have h := heapNew2 ((w.alloc (.cells #[.int .i64 nn, .func (.func 22) #[] #[]] 43)).alloc (.cells #[.slice none 0 0] 22)) (.cells #[.slice a len c] 22) (.cells #[.int .i64 2] 3)
    simpa using h
  rw [← hW]
  clear hW
  refine wpIn_rangeFunc_ownF rfl (by omega) (gf := 30) (lb := #[.pointer (some ⟨w.heap.size + 1 + 1, 0, none⟩), .pointer (some ⟨w.heap.size + 1 + 1 + 1, 0, none⟩)]) (by simp [go_sem]) trivial (enters_of Try.func30 (by kernel_rfl) rfl)
    (chunk_stops _ (by omega) (w.heap.size + 1 + 1) (w.heap.size + 1 + 1 + 1) (w.heap.size + 1) a b off len c hzc ha hn W h2 h3)
    Kc.trans (Kc.book (by omega) (by omega) (by omega)) (Below.refl _ _) (fun _ => rfl)
    (fun pre W' => (∃ v, Boxed W' (w.heap.size + 1) 22 v ∧ W'.ownsRow (w.heap.size + 4) 3 1 v pre.length (pre.map (fun j => Value.int .i64 (pv 2 zs j.val))) ∧ True) ∧ Below (w.heap.size + 1) W W') (fun _ _ _ => False)
    (OwnFrom.and (Own.from (holdsRow_own (w.heap.size + 4) (w.heap.size + 1) 22 3 1 (fun pre : List (Fin ((len + 1) / 2)) => pre.length) (fun pre => pre.map (fun j => Value.int .i64 (pv 2 zs j.val))) (fun _ _ => True)) _) (ownFrom_below (by omega) (by omega))) (fun _ _ _ _ _ hs _ _ => hs)
    ⟨⟨_, h1, World.ownsRow_nil _ _ _ _, trivial⟩, Below.refl _ _⟩
    (fun x => { tmps := #[.agg #[.int .i64 nn, .func (.func 22) #[] #[]], .slice a len c, .pointer (some ⟨w.heap.size, 0, none⟩), undef, .slice none 0 0, .pointer (some ⟨w.heap.size + 1, 0, none⟩), ch b off len x.val, .slice a len c, .func (.func 30) #[] #[.pointer (some ⟨w.heap.size + 1 + 1, 0, none⟩), .pointer (some ⟨w.heap.size + 1 + 1 + 1, 0, none⟩)], ch b off len x.val, undef, undef, undef, undef, undef, undef, undef, undef, undef, undef, undef, undef, undef, undef, undef, undef, undef, undef, undef, undef, undef, undef], defers := [] }) ?assign ?body ?done ?stop
  case assign =>
    intro l x W K hK
    gi_wp2
    exact hK
  case body =>
    rintro l pre x W1 ⟨⟨v, hv, hrow, _⟩, hBB⟩ hplen
    have hcell := hv.cell
    have kop := two_c1 (hBB.block w.heap.size (by omega) |>.trans h0)
    have hxl := x.isLt
    have hWB : Below w.heap.size w W1 := hbW.trans (hBB.mono (Nat.le_succ _))
    have hsz1 : w.heap.size + 4 ≤ W1.heap.size := by have := hBB.size; omega
    obtain ⟨m, hm⟩ : ∃ m, m = 2 * x.val := ⟨_, rfl⟩
    clear h0 h1 h2 h3 hbW
    by_cases h2x : m + 2 ≤ len
    · have hch : ch b off len x.val = .slice (some ⟨b, off + m, none⟩) 2 2 := by rw [ch, ← hm, show min 2 (len - m) = 2 by omega]
      have q0 := upc hWB (hc m (by omega))
      have q1 : W1.cell? ⟨b, off + m + 1, none⟩ = some (.int .i64 (zs.getD (m + 1) 0)) := upc hWB (hc (m + 1) (by omega))
      have Hpv : Hid (pv 2 zs x.val = ap 2 (zs.getD m 0) (zs.getD (m + 1) 0)) := Lib.hid (by rw [pv, ← hm, ← Hlen.out, if_pos (by omega)])
      rw [hch]
      clear hch hm hc h2x
      gi_wp2
      refine grow.wpIn_grow_last2 11 _ _ (by kernel_rfl) [grow.kEq (v), grow.kEq (.pointer (some ⟨w.heap.size, 1, none⟩)), grow.kEq (.func (.func 22) #[] #[]), grow.kEq (.slice (some ⟨b, off + m, none⟩) 2 2), grow.kEq (.pointer (some ⟨b, off + m, none⟩)), grow.kEq (.int .i64 (zs.getD m 0)), grow.kEq (.slice (some ⟨b, off + m, none⟩) 2 2), grow.kEq (.pointer (some ⟨b, off + m + 1, none⟩)), grow.kEq (.int .i64 (zs.getD (m + 1) 0)), grow.kEq (.int .i64 (ap 2 (zs.getD m 0) (zs.getD (m + 1) 0))), kOne w.heap.size (ap 2 (zs.getD m 0) (zs.getD (m + 1) 0))] rfl rfl rfl rfl rfl (by decide) (by kernel_rfl) (by kernel_rfl) (by kernel_rfl) (by kernel_rfl) (by kernel_rfl) ?step ?fin
      case step =>
        refine grow.EachL2.cons ?_ ?_
        · intro A W hB hs hJ K hK
          have s0 := hs 5 (by kernel_rfl)
          simp at s0
          have kk := upc hB hcell
          rw [if_pos (by rfl)]
          clear hs hJ
          go_simp
          exact hK _ _ (Below.refl _ _) rfl
        refine grow.EachL2.cons ?_ ?_
        · intro A W hB hs hJ K hK
          have s0 := hs 2 (by kernel_rfl)
          simp at s0
          rw [if_pos (by rfl)]
          clear hs hJ
          go_simp
          exact hK _ _ (Below.refl _ _) rfl
        refine grow.EachL2.cons ?_ ?_
        · intro A W hB hs hJ K hK
          have s0 : A.tmps.getD 14 undef = .pointer (some ⟨w.heap.size, 1, none⟩) := hJ 1 14 (by kernel_rfl) (by kernel_rfl)
          simp at s0
          have kk := upc hB kop
          rw [if_pos (by rfl)]
          clear hs hJ
          go_simp
          exact hK _ _ (Below.refl _ _) rfl
        refine grow.EachL2.cons ?_ ?_
        · intro A W hB hs hJ K hK
          have s0 := hs 6 (by kernel_rfl)
          simp at s0
          rw [if_pos (by rfl)]
          clear hs hJ
          go_simp
          exact hK _ _ (Below.refl _ _) rfl
        refine grow.EachL2.cons ?_ ?_
        · intro A W hB hs hJ K hK
          have s0 : A.tmps.getD 16 undef = .slice (some ⟨b, off + m, none⟩) 2 2 := hJ 3 16 (by kernel_rfl) (by kernel_rfl)
          simp at s0
          rw [if_pos (by rfl)]
          clear hs hJ
          go_simp
          exact hK _ _ (Below.refl _ _) rfl
        refine grow.EachL2.cons ?_ ?_
        · intro A W hB hs hJ K hK
          have s0 : A.tmps.getD 17 undef = .pointer (some ⟨b, off + m, none⟩) := hJ 4 17 (by kernel_rfl) (by kernel_rfl)
          simp at s0
          have kk := upc hB q0
          rw [if_pos (by rfl)]
          clear hs hJ
          go_simp
          exact hK _ _ (Below.refl _ _) rfl
        refine grow.EachL2.cons ?_ ?_
        · intro A W hB hs hJ K hK
          have s0 := hs 6 (by kernel_rfl)
          simp at s0
          rw [if_pos (by rfl)]
          clear hs hJ
          go_simp
          exact hK _ _ (Below.refl _ _) rfl
        refine grow.EachL2.cons ?_ ?_
        · intro A W hB hs hJ K hK
          have s0 : A.tmps.getD 19 undef = .slice (some ⟨b, off + m, none⟩) 2 2 := hJ 6 19 (by kernel_rfl) (by kernel_rfl)
          simp at s0
          rw [if_pos (by rfl)]
          clear hs hJ
          go_simp
          exact hK _ _ (Below.refl _ _) rfl
        refine grow.EachL2.cons ?_ ?_
        · intro A W hB hs hJ K hK
          have s0 : A.tmps.getD 20 undef = .pointer (some ⟨b, off + m + 1, none⟩) := hJ 7 20 (by kernel_rfl) (by kernel_rfl)
          simp at s0
          have kk := upc hB q1
          rw [if_pos (by rfl)]
          clear hs hJ
          go_simp
          exact hK _ _ (Below.refl _ _) rfl
        refine grow.EachL2.cons ?_ ?_
        · intro A W hB hs hJ K hK
          have s0 : A.tmps.getD 15 undef = .func (.func 22) #[] #[] := hJ 2 15 (by kernel_rfl) (by kernel_rfl)
          simp at s0
          have s1 : A.tmps.getD 18 undef = .int .i64 (zs.getD m 0) := hJ 5 18 (by kernel_rfl) (by kernel_rfl)
          simp at s1
          have s2 : A.tmps.getD 21 undef = .int .i64 (zs.getD (m + 1) 0) := hJ 8 21 (by kernel_rfl) (by kernel_rfl)
          simp at s2
          rw [if_pos (by rfl)]
          clear hs hJ
          go_simp
          refine (take2 _ _ _).mono ?_
          rintro e W2 ⟨rfl, rfl⟩
          exact hK _ _ (Below.refl _ _) rfl
        refine grow.EachL2.cons ?_ ?_
        · intro A W hB hs hJ K hK
          have s0 : A.tmps.getD 22 undef = .int .i64 (ap 2 (zs.getD m 0) (zs.getD (m + 1) 0)) := hJ 9 22 (by kernel_rfl) (by kernel_rfl)
          simp at s0
          rw [if_pos (by rfl)]
          clear hs hJ
          go_simp
          exact hK _ _ (belowAlloc _ _) ⟨_, rfl, (by have h1 := hB.size; have h2 := hBB.size; omega), heap_alloc_new _ _⟩
        exact grow.EachL2.nil
      case fin =>
        intro f W hB hF
        have f0 : f 0 = v := hF 0 (by decide)
        have f1 : f 1 = .pointer (some ⟨w.heap.size, 1, none⟩) := hF 1 (by decide)
        have f2 : f 2 = .func (.func 22) #[] #[] := hF 2 (by decide)
        have f3 : f 3 = .slice (some ⟨b, off + m, none⟩) 2 2 := hF 3 (by decide)
        have f4 : f 4 = .pointer (some ⟨b, off + m, none⟩) := hF 4 (by decide)
        have f5 : f 5 = .int .i64 (zs.getD m 0) := hF 5 (by decide)
        have f6 : f 6 = .slice (some ⟨b, off + m, none⟩) 2 2 := hF 6 (by decide)
        have f7 : f 7 = .pointer (some ⟨b, off + m + 1, none⟩) := hF 7 (by decide)
        have f8 : f 8 = .int .i64 (zs.getD (m + 1) 0) := hF 8 (by decide)
        have f9 : f 9 = .int .i64 (ap 2 (zs.getD m 0) (zs.getD (m + 1) 0)) := hF 9 (by decide)
        obtain ⟨g_10, f10, hg_10, hO_10⟩ := hF 10 (by decide)
        clear hF
        intro A hA
        simp only [grow.puts, Act.put, List.getElem?_toArray, List.getElem?_cons_zero, List.getElem?_cons_succ, Option.bind_some, List.setIfInBounds_toArray, List.set_cons_zero, List.set_cons_succ, f0, f1, f2, f3, f4, f5, f6, f7, f8, f9, f10] at hA
        subst hA
        refine wp_append_own W (.tmp 13) (.tmp 23) 22 rfl (w.heap.size + 4) 3 i0 (.int .i64 0) 1 8 Try.underlying22 hi hz0 hz1 hz2 rfl (by decide) v pre.length _ rfl (rowUp hrow hB) ⟨g_10, 0, none⟩ 1 1 [.int .i64 (ap 2 (zs.getD m 0) (zs.getD (m + 1) 0))] rfl rfl (World.news_of_block hO_10) (by simp [Value.oneCell']) (by unfold maxLen; omega) (by omega) (by have := hB.size; omega) ?_
        intro v' w1 hown' hgrow _
        have hvW : Boxed W (w.heap.size + 1) 22 v := upb hB hv
        obtain ⟨hc1, hf1, hb1, ho1, hk1, hl1, hs1, hn1⟩ := boxNext (n₀ := w.heap.size + 1) (Bs := w.heap.size + 1 + 1) (Bn := w.heap.size + 1 + 1 + 1) hvW (rowUp hrow hB) (by have := hB.size; omega) (Nat.le_refl _) (by omega) (by omega) (by omega) (by omega) hown' hgrow
        obtain ⟨g', cap', rfl⟩ := ownsRow_succ hown'
        go_simp
        refine ⟨(keepsOfB hB).trans hk1, ⟨(hB.mono (by omega)).trans hl1, hs1.trans (hB.block _ (by omega)), hn1.trans (hB.block _ (by omega))⟩, ⟨_, hb1, ?_, trivial⟩, hBB.trans ((hB.mono (by omega)).trans hl1)⟩
        rw [List.length_append, List.map_append, List.length_singleton, List.map_singleton]
        have e : pv 2 zs x.val = ap 2 (zs.getD m 0) (zs.getD (m + 1) 0) := Hpv.out
        rw [e]
        exact ho1
    · have hch : ch b off len x.val = .slice (some ⟨b, off + m, none⟩) 1 1 := by rw [ch, ← hm, show min 2 (len - m) = 1 by omega]
      have q0 := upc hWB (hc m (by omega))
      have Hpv : Hid (pv 2 zs x.val = zs.getD m 0) := Lib.hid (by rw [pv, ← hm, ← Hlen.out, if_neg (by omega)])
      rw [hch]
      clear hch hm hc h2x
      gi_wp2
      refine grow.wpIn_grow_last2 5 _ _ (by kernel_rfl) [grow.kEq (v), grow.kEq (.slice (some ⟨b, off + m, none⟩) 1 1), grow.kEq (.pointer (some ⟨b, off + m, none⟩)), grow.kEq (.int .i64 (zs.getD m 0)), kOne w.heap.size (zs.getD m 0)] rfl rfl rfl rfl rfl (by decide) (by kernel_rfl) (by kernel_rfl) (by kernel_rfl) (by kernel_rfl) (by kernel_rfl) ?step ?fin
      case step =>
        refine grow.EachL2.cons ?_ ?_
        · intro A W hB hs hJ K hK
          have s0 := hs 5 (by kernel_rfl)
          simp at s0
          have kk := upc hB hcell
          rw [if_pos (by rfl)]
          clear hs hJ
          go_simp
          exact hK _ _ (Below.refl _ _) rfl
        refine grow.EachL2.cons ?_ ?_
        · intro A W hB hs hJ K hK
          have s0 := hs 6 (by kernel_rfl)
          simp at s0
          rw [if_pos (by rfl)]
          clear hs hJ
          go_simp
          exact hK _ _ (Below.refl _ _) rfl
        refine grow.EachL2.cons ?_ ?_
        · intro A W hB hs hJ K hK
          have s0 : A.tmps.getD 26 undef = .slice (some ⟨b, off + m, none⟩) 1 1 := hJ 1 26 (by kernel_rfl) (by kernel_rfl)
          simp at s0
          rw [if_pos (by rfl)]
          clear hs hJ
          go_simp
          exact hK _ _ (Below.refl _ _) rfl
        refine grow.EachL2.cons ?_ ?_
        · intro A W hB hs hJ K hK
          have s0 : A.tmps.getD 27 undef = .pointer (some ⟨b, off + m, none⟩) := hJ 2 27 (by kernel_rfl) (by kernel_rfl)
          simp at s0
          have kk := upc hB q0
          rw [if_pos (by rfl)]
          clear hs hJ
          go_simp
          exact hK _ _ (Below.refl _ _) rfl
        refine grow.EachL2.cons ?_ ?_
        · intro A W hB hs hJ K hK
          have s0 : A.tmps.getD 28 undef = .int .i64 (zs.getD m 0) := hJ 3 28 (by kernel_rfl) (by kernel_rfl)
          simp at s0
          rw [if_pos (by rfl)]
          clear hs hJ
          go_simp
          exact hK _ _ (belowAlloc _ _) ⟨_, rfl, (by have h1 := hB.size; have h2 := hBB.size; omega), heap_alloc_new _ _⟩
        exact grow.EachL2.nil
      case fin =>
        intro f W hB hF
        have f0 : f 0 = v := hF 0 (by decide)
        have f1 : f 1 = .slice (some ⟨b, off + m, none⟩) 1 1 := hF 1 (by decide)
        have f2 : f 2 = .pointer (some ⟨b, off + m, none⟩) := hF 2 (by decide)
        have f3 : f 3 = .int .i64 (zs.getD m 0) := hF 3 (by decide)
        obtain ⟨g_4, f4, hg_4, hO_4⟩ := hF 4 (by decide)
        clear hF
        intro A hA
        simp only [grow.puts, Act.put, List.getElem?_toArray, List.getElem?_cons_zero, List.getElem?_cons_succ, Option.bind_some, List.setIfInBounds_toArray, List.set_cons_zero, List.set_cons_succ, f0, f1, f2, f3, f4] at hA
        subst hA
        refine wp_append_own W (.tmp 25) (.tmp 29) 22 rfl (w.heap.size + 4) 3 i0 (.int .i64 0) 1 8 Try.underlying22 hi hz0 hz1 hz2 rfl (by decide) v pre.length _ rfl (rowUp hrow hB) ⟨g_4, 0, none⟩ 1 1 [.int .i64 (zs.getD m 0)] rfl rfl (World.news_of_block hO_4) (by simp [Value.oneCell']) (by unfold maxLen; omega) (by omega) (by have := hB.size; omega) ?_
        intro v' w1 hown' hgrow _
        have hvW : Boxed W (w.heap.size + 1) 22 v := upb hB hv
        obtain ⟨hc1, hf1, hb1, ho1, hk1, hl1, hs1, hn1⟩ := boxNext (n₀ := w.heap.size + 1) (Bs := w.heap.size + 1 + 1) (Bn := w.heap.size + 1 + 1 + 1) hvW (rowUp hrow hB) (by have := hB.size; omega) (Nat.le_refl _) (by omega) (by omega) (by omega) (by omega) hown' hgrow
        obtain ⟨g', cap', rfl⟩ := ownsRow_succ hown'
        go_simp
        refine ⟨(keepsOfB hB).trans hk1, ⟨(hB.mono (by omega)).trans hl1, hs1.trans (hB.block _ (by omega)), hn1.trans (hB.block _ (by omega))⟩, ⟨_, hb1, ?_, trivial⟩, hBB.trans ((hB.mono (by omega)).trans hl1)⟩
        rw [List.length_append, List.map_append, List.length_singleton, List.map_singleton]
        have e : pv 2 zs x.val = zs.getD m 0 := Hpv.out
        rw [e]
        exact ho1
  case done =>
    rintro D ys W1 hD hys ⟨⟨v, hv, hrow, _⟩, hBB⟩ hK
    have hcc := hv.cell
    obtain ⟨he, hel⟩ := pairsP_of (k := 2) Hlen.out rfl hys
    have hmap : ys.map (fun j => Value.int .i64 (pv 2 zs j.val)) = (pairsP 2 zs).map (Value.int .i64) := by rw [← he, List.map_map]; rfl
    rw [hmap, hel, Hlen.out, ← pairsP_length 2 zs] at hrow
    clear he hel hmap hys
    gi_wp2
    refine ⟨by simp, .inl ⟨_, _, rfl, run_takeDeferred hK, ?_⟩⟩
    refine ⟨_, results_tmp rfl _ _ _, ?_⟩
    exact RetI.mk (ownsRow_lower (ownsRow_putObj hrow _ hK rfl) (by omega)) ((hbW.trans (hBB.mono (Nat.le_succ _))).trans (belowK_b (w := w) (Nat.le_refl _) W1 D _ _ (by omega) hK rfl rfl))
  case stop =>
    rintro D c pre W _ _ h _
    exact h.elim

set_option maxRecDepth 100000 in
set_option maxHeartbeats 4000000 in
theorem pairs3 (w : World) (nn : Int) (a : Option Addr) (b off c : Nat) (zs : List Int) (hn : zs.length ≤ 17592186044416) (hzc : zs.length ≤ c) (ha : zs.length = 0 ∨ a = some ⟨b, off, none⟩)
    (hc : ∀ j, j < zs.length → w.cell? ⟨b, off + j, none⟩ = some (.int .i64 (zs.getD j 0))) :
    Calls Try.prog 16 #[.agg #[.int .i64 nn, .func (.func 23) #[] #[]], .slice a zs.length c] w (RetI 3 w (pairsP 3 zs)) := by
  obtain ⟨i0, hi, hz0, hz1, hz2⟩ := info_parts infoInt
  obtain ⟨len, hlen⟩ : ∃ len, len = zs.length := ⟨_, rfl⟩
  rw [← hlen] at hn hzc ha hc ⊢
  have Hlen := Lib.hid hlen
  clear hlen
  refine (callsIn_wide (n := 5)).1 ?_
  refine callsIn_of_wp_marks Try.func16 rfl trivial ?_ rfl
  simp only [Try.ntmps16, List.size_toArray, List.length_cons, List.length_nil, Nat.reduceAdd, Nat.reduceSub, Array.replicate_succ, Array.replicate_zero, List.push_toArray, List.append_toArray, List.nil_append, List.cons_append]
  gi_wp2_with (refine ⟨trivial, ?_⟩; gi_at_call 25; refine (callsIn_wide.2 (chunk_any _ _ _ _)).mono ?_; rintro e w' ⟨rfl, rfl⟩)
  obtain ⟨W, hW⟩ : ∃ W, W = (((w.alloc (.cells #[.int .i64 nn, .func (.func 23) #[] #[]] 43)).alloc (.cells #[.slice none 0 0] 22)).alloc (.cells #[.slice a len c] 22)).alloc (.cells #[.int .i64 2] 3) := ⟨_, rfl⟩
  have hbW : Below w.heap.size w W := by rw [hW]; exact belowTrans (belowAlloc _ _) (belowTrans (belowAlloc _ _) (belowTrans (belowAlloc _ _) (belowAlloc _ _)))
  have hszW : W.heap.size = w.heap.size + 4 := by rw [hW]; simp
  have h0 : W.heap[w.heap.size]? = some (.cells #[.int .i64 nn, .func (.func 23) #[] #[]] 43 (0, 0)) := by rw [hW]; exact upb (belowTrans (belowAlloc _ _) (belowTrans (belowAlloc _ _) (belowAlloc _ _))) (heap_alloc_new _ _)
  have h1 : Boxed W (w.heap.size + 1) 22 (.slice none 0 0) := by rw [hW]; exact upb (belowTrans (belowAlloc _ _) (belowAlloc _ _)) (heapNew2 _ _ _)
  have h2 : W.heap[w.heap.size + 1 + 1]? = some (.cells #[.slice a len c] 22 (0, 0)) := by
    rw [hW]
    have h := heapNew1 ((w.alloc (.cells #[.int .i64 nn, .func (.func 23) #[] #[]] 43)).alloc (.cells #[.slice none 0 0] 22)) (.cells #[.slice a len c] 22) (.cells #[.int .i64 2] 3)
    simpa using h
  have h3 : W.heap[w.heap.size + 1 + 1 + 1]? = some (.cells #[.int .i64 2] 3 (0, 0)) := by
    rw [hW]
    have h := heapNew2 ((w.alloc (.cells #[.int .i64 nn, .func (.func 23) #[] #[]] 43)).alloc (.cells #[.slice none 0 0] 22)) (.cells #[.slice a len c] 22) (.cells #[.int .i64 2] 3)
    simpa using h
  rw [← hW]
  clear hW
  refine wpIn_rangeFunc_ownF rfl (by omega) (gf := 30) (lb := #[.pointer (some ⟨w.heap.size + 1 + 1, 0, none⟩), .pointer (some ⟨w.heap.size + 1 + 1 + 1, 0, none⟩)]) (by simp [go_sem]) trivial (enters_of Try.func30 (by kernel_rfl) rfl)
    (chunk_stops _ (by omega) (w.heap.size + 1 + 1) (w.heap.size + 1 + 1 + 1) (w.heap.size + 1) a b off len c hzc ha hn W h2 h3)
    Kc.trans (Kc.book (by omega) (by omega) (by omega)) (Below.refl _ _) (fun _ => rfl)
    (fun pre W' => (∃ v, Boxed W' (w.heap.size + 1) 22 v ∧ W'.ownsRow (w.heap.size + 4) 3 1 v pre.length (pre.map (fun j => Value.int .i64 (pv 3 zs j.val))) ∧ True) ∧ Below (w.heap.size + 1) W W') (fun _ _ _ => False)
    (OwnFrom.and (Own.from (holdsRow_own (w.heap.size + 4) (w.heap.size + 1) 22 3 1 (fun pre : List (Fin ((len + 1) / 2)) => pre.length) (fun pre => pre.map (fun j => Value.int .i64 (pv 3 zs j.val))) (fun _ _ => True)) _) (ownFrom_below (by omega) (by omega))) (fun _ _ _ _ _ hs _ _ => hs)
    ⟨⟨_, h1, World.ownsRow_nil _ _ _ _, trivial⟩, Below.refl _ _⟩
    (fun x => { tmps := #[.agg #[.int .i64 nn, .func (.func 23) #[] #[]], .slice a len c, .pointer (some ⟨w.heap.size, 0, none⟩), undef, .slice none 0 0, .pointer (some ⟨w.heap.size + 1, 0, none⟩), ch b off len x.val, .slice a len c, .func (.func 30) #[] #[.pointer (some ⟨w.heap.size + 1 + 1, 0, none⟩), .pointer (some ⟨w.heap.size + 1 + 1 + 1, 0, none⟩)], ch b off len x.val, undef, undef, undef, undef, undef, undef, undef, undef, undef, undef, undef, undef, undef, undef, undef, undef, undef, undef, undef, undef, undef, undef], defers := [] }) ?assign ?body ?done ?stop
  case assign =>
    intro l x W K hK
    gi_wp2
    exact hK
  case body =>
    rintro l pre x W1 ⟨⟨v, hv, hrow, _⟩, hBB⟩ hplen
    have hcell := hv.cell
    have kop := two_c1 (hBB.block w.heap.size (by omega) |>.trans h0)
    have hxl := x.isLt
    have hWB : Below w.heap.size w W1 := hbW.trans (hBB.mono (Nat.le_succ _))
    have hsz1 : w.heap.size + 4 ≤ W1.heap.size := by have := hBB.size; omega
    obtain ⟨m, hm⟩ : ∃ m, m = 2 * x.val := ⟨_, rfl⟩
    clear h0 h1 h2 h3 hbW
    by_cases h2x : m + 2 ≤ len
    · have hch : ch b off len x.val = .slice (some ⟨b, off + m, none⟩) 2 2 := by rw [ch, ← hm, show min 2 (len - m) = 2 by omega]
      have q0 := upc hWB (hc m (by omega))
      have q1 : W1.cell? ⟨b, off + m + 1, none⟩ = some (.int .i64 (zs.getD (m + 1) 0)) := upc hWB (hc (m + 1) (by omega))
      have Hpv : Hid (pv 3 zs x.val = ap 3 (zs.getD m 0) (zs.getD (m + 1) 0)) := Lib.hid (by rw [pv, ← hm, ← Hlen.out, if_pos (by omega)])
      rw [hch]
      clear hch hm hc h2x
      gi_wp2
      refine grow.wpIn_grow_last2 11 _ _ (by kernel_rfl) [grow.kEq (v), grow.kEq (.pointer (some ⟨w.heap.size, 1, none⟩)), grow.kEq (.func (.func 23) #[] #[]), grow.kEq (.slice (some ⟨b, off + m, none⟩) 2 2), grow.kEq (.pointer (some ⟨b, off + m, none⟩)), grow.kEq (.int .i64 (zs.getD m 0)), grow.kEq (.slice (some ⟨b, off + m, none⟩) 2 2), grow.kEq (.pointer (some ⟨b, off + m + 1, none⟩)), grow.kEq (.int .i64 (zs.getD (m + 1) 0)), grow.kEq (.int .i64 (ap 3 (zs.getD m 0) (zs.getD (m + 1) 0))), kOne w.heap.size (ap 3 (zs.getD m 0) (zs.getD (m + 1) 0))] rfl rfl rfl rfl rfl (by decide) (by kernel_rfl) (by kernel_rfl) (by kernel_rfl) (by kernel_rfl) (by kernel_rfl) ?step ?fin
      case step =>
        refine grow.EachL2.cons ?_ ?_
        · intro A W hB hs hJ K hK
          have s0 := hs 5 (by kernel_rfl)
          simp at s0
          have kk := upc hB hcell
          rw [if_pos (by rfl)]
          clear hs hJ
          go_simp
          exact hK _ _ (Below.refl _ _) rfl
        refine grow.EachL2.cons ?_ ?_
        · intro A W hB hs hJ K hK
          have s0 := hs 2 (by kernel_rfl)
          simp at s0
          rw [if_pos (by rfl)]
          clear hs hJ
          go_simp
          exact hK _ _ (Below.refl _ _) rfl
        refine grow.EachL2.cons ?_ ?_
        · intro A W hB hs hJ K hK
          have s0 : A.tmps.getD 14 undef = .pointer (some ⟨w.heap.size, 1, none⟩) := hJ 1 14 (by kernel_rfl) (by kernel_rfl)
          simp at s0
          have kk := upc hB kop
          rw [if_pos (by rfl)]
          clear hs hJ
          go_simp
          exact hK _ _ (Below.refl _ _) rfl
        refine grow.EachL2.cons ?_ ?_
        · intro A W hB hs hJ K hK
          have s0 := hs 6 (by kernel_rfl)
          simp at s0
          rw [if_pos (by rfl)]
          clear hs hJ
          go_simp
          exact hK _ _ (Below.refl _ _) rfl
        refine grow.EachL2.cons ?_ ?_
        · intro A W hB hs hJ K hK
          have s0 : A.tmps.getD 16 undef = .slice (some ⟨b, off + m, none⟩) 2 2 := hJ 3 16 (by kernel_rfl) (by kernel_rfl)
          simp at s0
          rw [if_pos (by rfl)]
          clear hs hJ
          go_simp
          exact hK _ _ (Below.refl _ _) rfl
        refine grow.EachL2.cons ?_ ?_
        · intro A W hB hs hJ K hK
          have s0 : A.tmps.getD 17 undef = .pointer (some ⟨b, off + m, none⟩) := hJ 4 17 (by kernel_rfl) (by kernel_rfl)
          simp at s0
          have kk := upc hB q0
          rw [if_pos (by rfl)]
          clear hs hJ
          go_simp
          exact hK _ _ (Below.refl _ _) rfl
        refine grow.EachL2.cons ?_ ?_
        · intro A W hB hs hJ K hK
          have s0 := hs 6 (by kernel_rfl)
          simp at s0
          rw [if_pos (by rfl)]
          clear hs hJ
          go_simp
          exact hK _ _ (Below.refl _ _) rfl
        refine grow.EachL2.cons ?_ ?_
        · intro A W hB hs hJ K hK
          have s0 : A.tmps.getD 19 undef = .slice (some ⟨b, off + m, none⟩) 2 2 := hJ 6 19 (by kernel_rfl) (by kernel_rfl)
          simp at s0
          rw [if_pos (by rfl)]
          clear hs hJ
          go_simp
          exact hK _ _ (Below.refl _ _) rfl
        refine grow.EachL2.cons ?_ ?_
        · intro A W hB hs hJ K hK
          have s0 : A.tmps.getD 20 undef = .pointer (some ⟨b, off + m + 1, none⟩) := hJ 7 20 (by kernel_rfl) (by kernel_rfl)
          simp at s0
          have kk := upc hB q1
          rw [if_pos (by rfl)]
          clear hs hJ
          go_simp
          exact hK _ _ (Below.refl _ _) rfl
        refine grow.EachL2.cons ?_ ?_
        · intro A W hB hs hJ K hK
          have s0 : A.tmps.getD 15 undef = .func (.func 23) #[] #[] := hJ 2 15 (by kernel_rfl) (by kernel_rfl)
          simp at s0
          have s1 : A.tmps.getD 18 undef = .int .i64 (zs.getD m 0) := hJ 5 18 (by kernel_rfl) (by kernel_rfl)
          simp at s1
          have s2 : A.tmps.getD 21 undef = .int .i64 (zs.getD (m + 1) 0) := hJ 8 21 (by kernel_rfl) (by kernel_rfl)
          simp at s2
          rw [if_pos (by rfl)]
          clear hs hJ
          go_simp
          refine (take3 _ _ _).mono ?_
          rintro e W2 ⟨rfl, rfl⟩
          exact hK _ _ (Below.refl _ _) rfl
        refine grow.EachL2.cons ?_ ?_
        · intro A W hB hs hJ K hK
          have s0 : A.tmps.getD 22 undef = .int .i64 (ap 3 (zs.getD m 0) (zs.getD (m + 1) 0)) := hJ 9 22 (by kernel_rfl) (by kernel_rfl)
          simp at s0
          rw [if_pos (by rfl)]
          clear hs hJ
          go_simp
          exact hK _ _ (belowAlloc _ _) ⟨_, rfl, (by have h1 := hB.size; have h2 := hBB.size; omega), heap_alloc_new _ _⟩
        exact grow.EachL2.nil
      case fin =>
        intro f W hB hF
        have f0 : f 0 = v := hF 0 (by decide)
        have f1 : f 1 = .pointer (some ⟨w.heap.size, 1, none⟩) := hF 1 (by decide)
        have f2 : f 2 = .func (.func 23) #[] #[] := hF 2 (by decide)
        have f3 : f 3 = .slice (some ⟨b, off + m, none⟩) 2 2 := hF 3 (by decide)
        have f4 : f 4 = .pointer (some ⟨b, off + m, none⟩) := hF 4 (by decide)
        have f5 : f 5 = .int .i64 (zs.getD m 0) := hF 5 (by decide)
        have f6 : f 6 = .slice (some ⟨b, off + m, none⟩) 2 2 := hF 6 (by decide)
        have f7 : f 7 = .pointer (some ⟨b, off + m + 1, none⟩) := hF 7 (by decide)
        have f8 : f 8 = .int .i64 (zs.getD (m + 1) 0) := hF 8 (by decide)
        have f9 : f 9 = .int .i64 (ap 3 (zs.getD m 0) (zs.getD (m + 1) 0)) := hF 9 (by decide)
        obtain ⟨g_10, f10, hg_10, hO_10⟩ := hF 10 (by decide)
        clear hF
        intro A hA
        simp only [grow.puts, Act.put, List.getElem?_toArray, List.getElem?_cons_zero, List.getElem?_cons_succ, Option.bind_some, List.setIfInBounds_toArray, List.set_cons_zero, List.set_cons_succ, f0, f1, f2, f3, f4, f5, f6, f7, f8, f9, f10] at hA
        subst hA
        refine wp_append_own W (.tmp 13) (.tmp 23) 22 rfl (w.heap.size + 4) 3 i0 (.int .i64 0) 1 8 Try.underlying22 hi hz0 hz1 hz2 rfl (by decide) v pre.length _ rfl (rowUp hrow hB) ⟨g_10, 0, none⟩ 1 1 [.int .i64 (ap 3 (zs.getD m 0) (zs.getD (m + 1) 0))] rfl rfl (World.news_of_block hO_10) (by simp [Value.oneCell']) (by unfold maxLen; omega) (by omega) (by have := hB.size; omega) ?_
        intro v' w1 hown' hgrow _
        have hvW : Boxed W (w.heap.size + 1) 22 v := upb hB hv
        obtain ⟨hc1, hf1, hb1, ho1, hk1, hl1, hs1, hn1⟩ := boxNext (n₀ := w.heap.size + 1) (Bs := w.heap.size + 1 + 1) (Bn := w.heap.size + 1 + 1 + 1) hvW (rowUp hrow hB) (by have := hB.size; omega) (Nat.le_refl _) (by omega) (by omega) (by omega) (by omega) hown' hgrow
        obtain ⟨g', cap', rfl⟩ := ownsRow_succ hown'
        go_simp
        refine ⟨(keepsOfB hB).trans hk1, ⟨(hB.mono (by omega)).trans hl1, hs1.trans (hB.block _ (by omega)), hn1.trans (hB.block _ (by omega))⟩, ⟨_, hb1, ?_, trivial⟩, hBB.trans ((hB.mono (by omega)).trans hl1)⟩
        rw [List.length_append, List.map_append, List.length_singleton, List.map_singleton]
        have e : pv 3 zs x.val = ap 3 (zs.getD m 0) (zs.getD (m + 1) 0) := Hpv.out
        rw [e]
        exact ho1
    · have hch : ch b off len x.val = .slice (some ⟨b, off + m, none⟩) 1 1 := by rw [ch, ← hm, show min 2 (len - m) = 1 by omega]
      have q0 := upc hWB (hc m (by omega))
      have Hpv : Hid (pv 3 zs x.val = zs.getD m 0) := Lib.hid (by rw [pv, ← hm, ← Hlen.out, if_neg (by omega)])
      rw [hch]
      clear hch hm hc h2x
      gi_wp2
      refine grow.wpIn_grow_last2 5 _ _ (by kernel_rfl) [grow.kEq (v), grow.kEq (.slice (some ⟨b, off + m, none⟩) 1 1), grow.kEq (.pointer (some ⟨b, off + m, none⟩)), grow.kEq (.int .i64 (zs.getD m 0)), kOne w.heap.size (zs.getD m 0)] rfl rfl rfl rfl rfl (by decide) (by kernel_rfl) (by kernel_rfl) (by kernel_rfl) (by kernel_rfl) (by kernel_rfl) ?step ?fin
      case step =>
        refine grow.EachL2.cons ?_ ?_
        · intro A W hB hs hJ K hK
          have s0 := hs 5 (by kernel_rfl)
          simp at s0
          have kk := upc hB hcell
          rw [if_pos (by rfl)]
          clear hs hJ
          go_simp
          exact hK _ _ (Below.refl _ _) rfl
        refine grow.EachL2.cons ?_ ?_
        · intro A W hB hs hJ K hK
          have s0 := hs 6 (by kernel_rfl)
          simp at s0
          rw [if_pos (by rfl)]
          clear hs hJ
          go_simp
          exact hK _ _ (Below.refl _ _) rfl
        refine grow.EachL2.cons ?_ ?_
        · intro A W hB hs hJ K hK
          have s0 : A.tmps.getD 26 undef = .slice (some ⟨b, off + m, none⟩) 1 1 := hJ 1 26 (by kernel_rfl) (by kernel_rfl)
          simp at s0
          rw [if_pos (by rfl)]
          clear hs hJ
          go_simp
          exact hK _ _ (Below.refl _ _) rfl
        refine grow.EachL2.cons ?_ ?_
        · intro A W hB hs hJ K hK
          have s0 : A.tmps.getD 27 undef = .pointer (some ⟨b, off + m, none⟩) := hJ 2 27 (by kernel_rfl) (by kernel_rfl)
          simp at s0
          have kk := upc hB q0
          rw [if_pos (by rfl)]
          clear hs hJ
          go_simp
          exact hK _ _ (Below.refl _ _) rfl
        refine grow.EachL2.cons ?_ ?_
        · intro A W hB hs hJ K hK
          have s0 : A.tmps.getD 28 undef = .int .i64 (zs.getD m 0) := hJ 3 28 (by kernel_rfl) (by kernel_rfl)
          simp at s0
          rw [if_pos (by rfl)]
          clear hs hJ
          go_simp
          exact hK _ _ (belowAlloc _ _) ⟨_, rfl, (by have h1 := hB.size; have h2 := hBB.size; omega), heap_alloc_new _ _⟩
        exact grow.EachL2.nil
      case fin =>
        intro f W hB hF
        have f0 : f 0 = v := hF 0 (by decide)
        have f1 : f 1 = .slice (some ⟨b, off + m, none⟩) 1 1 := hF 1 (by decide)
        have f2 : f 2 = .pointer (some ⟨b, off + m, none⟩) := hF 2 (by decide)
        have f3 : f 3 = .int .i64 (zs.getD m 0) := hF 3 (by decide)
        obtain ⟨g_4, f4, hg_4, hO_4⟩ := hF 4 (by decide)
        clear hF
        intro A hA
        simp only [grow.puts, Act.put, List.getElem?_toArray, List.getElem?_cons_zero, List.getElem?_cons_succ, Option.bind_some, List.setIfInBounds_toArray, List.set_cons_zero, List.set_cons_succ, f0, f1, f2, f3, f4] at hA
        subst hA
        refine wp_append_own W (.tmp 25) (.tmp 29) 22 rfl (w.heap.size + 4) 3 i0 (.int .i64 0) 1 8 Try.underlying22 hi hz0 hz1 hz2 rfl (by decide) v pre.length _ rfl (rowUp hrow hB) ⟨g_4, 0, none⟩ 1 1 [.int .i64 (zs.getD m 0)] rfl rfl (World.news_of_block hO_4) (by simp [Value.oneCell']) (by unfold maxLen; omega) (by omega) (by have := hB.size; omega) ?_
        intro v' w1 hown' hgrow _
        have hvW : Boxed W (w.heap.size + 1) 22 v := upb hB hv
        obtain ⟨hc1, hf1, hb1, ho1, hk1, hl1, hs1, hn1⟩ := boxNext (n₀ := w.heap.size + 1) (Bs := w.heap.size + 1 + 1) (Bn := w.heap.size + 1 + 1 + 1) hvW (rowUp hrow hB) (by have := hB.size; omega) (Nat.le_refl _) (by omega) (by omega) (by omega) (by omega) hown' hgrow
        obtain ⟨g', cap', rfl⟩ := ownsRow_succ hown'
        go_simp
        refine ⟨(keepsOfB hB).trans hk1, ⟨(hB.mono (by omega)).trans hl1, hs1.trans (hB.block _ (by omega)), hn1.trans (hB.block _ (by omega))⟩, ⟨_, hb1, ?_, trivial⟩, hBB.trans ((hB.mono (by omega)).trans hl1)⟩
        rw [List.length_append, List.map_append, List.length_singleton, List.map_singleton]
        have e : pv 3 zs x.val = zs.getD m 0 := Hpv.out
        rw [e]
        exact ho1
  case done =>
    rintro D ys W1 hD hys ⟨⟨v, hv, hrow, _⟩, hBB⟩ hK
    have hcc := hv.cell
    obtain ⟨he, hel⟩ := pairsP_of (k := 3) Hlen.out rfl hys
    have hmap : ys.map (fun j => Value.int .i64 (pv 3 zs j.val)) = (pairsP 3 zs).map (Value.int .i64) := by rw [← he, List.map_map]; rfl
    rw [hmap, hel, Hlen.out, ← pairsP_length 3 zs] at hrow
    clear he hel hmap hys
    gi_wp2
    refine ⟨by simp, .inl ⟨_, _, rfl, run_takeDeferred hK, ?_⟩⟩
    refine ⟨_, results_tmp rfl _ _ _, ?_⟩
    exact RetI.mk (ownsRow_lower (ownsRow_putObj hrow _ hK rfl) (by omega)) ((hbW.trans (hBB.mono (Nat.le_succ _))).trans (belowK_b (w := w) (Nat.le_refl _) W1 D _ _ (by omega) hK rfl rfl))
  case stop =>
    rintro D c pre W _ _ h _
    exact h.elim

set_option maxRecDepth 100000 in
set_option maxHeartbeats 4000000 in
theorem pairs4 (w : World) (nn : Int) (a : Option Addr) (b off c : Nat) (zs : List Int) (hn : zs.length ≤ 17592186044416) (hzc : zs.length ≤ c) (ha : zs.length = 0 ∨ a = some ⟨b, off, none⟩)
    (hc : ∀ j, j < zs.length → w.cell? ⟨b, off + j, none⟩ = some (.int .i64 (zs.getD j 0))) :
    Calls Try.prog 16 #[.agg #[.int .i64 nn, .func (.func 24) #[] #[]], .slice a zs.length c] w (RetI 3 w (pairsP 4 zs)) := by
  obtain ⟨i0, hi, hz0, hz1, hz2⟩ := info_parts infoInt
  obtain ⟨len, hlen⟩ : ∃ len, len = zs.length := ⟨_, rfl⟩
  rw [← hlen] at hn hzc ha hc ⊢
  have Hlen := Lib.hid hlen
  clear hlen
  refine (callsIn_wide (n := 5)).1 ?_
  refine callsIn_of_wp_marks Try.func16 rfl trivial ?_ rfl
  simp only [Try.ntmps16, List.size_toArray, List.length_cons, List.length_nil, Nat.reduceAdd, Nat.reduceSub, Array.replicate_succ, Array.replicate_zero, List.push_toArray, List.append_toArray, List.nil_append, List.cons_append]
  gi_wp2_with (refine ⟨trivial, ?_⟩; gi_at_call 25; refine (callsIn_wide.2 (chunk_any _ _ _ _)).mono ?_; rintro e w' ⟨rfl, rfl⟩)
  obtain ⟨W, hW⟩ : ∃ W, W = (((w.alloc (.cells #[.int .i64 nn, .func (.func 24) #[] #[]] 43)).alloc (.cells #[.slice none 0 0] 22)).alloc (.cells #[.slice a len c] 22)).alloc (.cells #[.int .i64 2] 3) := ⟨_, rfl⟩
  have hbW : Below w.heap.size w W := by rw [hW]; exact belowTrans (belowAlloc _ _) (belowTrans (belowAlloc _ _) (belowTrans (belowAlloc _ _) (belowAlloc _ _)))
  have hszW : W.heap.size = w.heap.size + 4 := by rw [hW]; simp
  have h0 : W.heap[w.heap.size]? = some (.cells #[.int .i64 nn, .func (.func 24) #[] #[]] 43 (0, 0)) := by rw [hW]; exact upb (belowTrans (belowAlloc _ _) (belowTrans (belowAlloc _ _) (belowAlloc _ _))) (heap_alloc_new _ _)
  have h1 : Boxed W (w.heap.size + 1) 22 (.slice none 0 0) := by rw [hW]; exact upb (belowTrans (belowAlloc _ _) (belowAlloc _ _)) (heapNew2 _ _ _)
  have h2 : W.heap[w.heap.size + 1 + 1]? = some (.cells #[.slice a len c] 22 (0, 0)) := by
    rw [hW]
    have h := heapNew1 ((w.alloc (.cells #[.int .i64 nn, .func (.func 24) #[] #[]] 43)).alloc (.cells #[.slice none 0 0] 22)) (.cells #[.slice a len c] 22) (.cells #[.int .i64 2] 3)
    simpa using h
  have h3 : W.heap[w.heap.size + 1 + 1 + 1]? = some (.cells #[.int .i64 2] 3 (0, 0)) := by
    rw [hW]
    have h := heapNew2 ((w.alloc (.cells #[.int .i64 nn, .func (.func 24) #[] #[]] 43)).alloc (.cells #[.slice none 0 0] 22)) (.cells #[.slice a len c] 22) (.cells #[.int .i64 2] 3)
    simpa using h
  rw [← hW]
  clear hW
  refine wpIn_rangeFunc_ownF rfl (by omega) (gf := 30) (lb := #[.pointer (some ⟨w.heap.size + 1 + 1, 0, none⟩), .pointer (some ⟨w.heap.size + 1 + 1 + 1, 0, none⟩)]) (by simp [go_sem]) trivial (enters_of Try.func30 (by kernel_rfl) rfl)
    (chunk_stops _ (by omega) (w.heap.size + 1 + 1) (w.heap.size + 1 + 1 + 1) (w.heap.size + 1) a b off len c hzc ha hn W h2 h3)
    Kc.trans (Kc.book (by omega) (by omega) (by omega)) (Below.refl _ _) (fun _ => rfl)
    (fun pre W' => (∃ v, Boxed W' (w.heap.size + 1) 22 v ∧ W'.ownsRow (w.heap.size + 4) 3 1 v pre.length (pre.map (fun j => Value.int .i64 (pv 4 zs j.val))) ∧ True) ∧ Below (w.heap.size + 1) W W') (fun _ _ _ => False)
    (OwnFrom.and (Own.from (holdsRow_own (w.heap.size + 4) (w.heap.size + 1) 22 3 1 (fun pre : List (Fin ((len + 1) / 2)) => pre.length) (fun pre => pre.map (fun j => Value.int .i64 (pv 4 zs j.val))) (fun _ _ => True)) _) (ownFrom_below (by omega) (by omega))) (fun _ _ _ _ _ hs _ _ => hs)
    ⟨⟨_, h1, World.ownsRow_nil _ _ _ _, trivial⟩, Below.refl _ _⟩
    (fun x => { tmps := #[.agg #[.int .i64 nn, .func (.func 24) #[] #[]], .slice a len c, .pointer (some ⟨w.heap.size, 0, none⟩), undef, .slice none 0 0, .pointer (some ⟨w.heap.size + 1, 0, none⟩), ch b off len x.val, .slice a len c, .func (.func 30) #[] #[.pointer (some ⟨w.heap.size + 1 + 1, 0, none⟩), .pointer (some ⟨w.heap.size + 1 + 1 + 1, 0, none⟩)], ch b off len x.val, undef, undef, undef, undef, undef, undef, undef, undef, undef, undef, undef, undef, undef, undef, undef, undef, undef, undef, undef, undef, undef, undef], defers := [] }) ?assign ?body ?done ?stop
  case assign =>
    intro l x W K hK
    gi_wp2
    exact hK
  case body =>
    rintro l pre x W1 ⟨⟨v, hv, hrow, _⟩, hBB⟩ hplen
    have hcell := hv.cell
    have kop := two_c1 (hBB.block w.heap.size (by omega) |>.trans h0)
    have hxl := x.isLt
    have hWB : Below w.heap.size w W1 := hbW.trans (hBB.mono (Nat.le_succ _))
    have hsz1 : w.heap.size + 4 ≤ W1.heap.size := by have := hBB.size; omega
    obtain ⟨m, hm⟩ : ∃ m, m = 2 * x.val := ⟨_, rfl⟩
    clear h0 h1 h2 h3 hbW
    by_cases h2x : m + 2 ≤ len
    · have hch : ch b off len x.val = .slice (some ⟨b, off + m, none⟩) 2 2 := by rw [ch, ← hm, show min 2 (len - m) = 2 by omega]
      have q0 := upc hWB (hc m (by omega))
      have q1 : W1.cell? ⟨b, off + m + 1, none⟩ = some (.int .i64 (zs.getD (m + 1) 0)) := upc hWB (hc (m + 1) (by omega))
      have Hpv : Hid (pv 4 zs x.val = ap 4 (zs.getD m 0) (zs.getD (m + 1) 0)) := Lib.hid (by rw [pv, ← hm, ← Hlen.out, if_pos (by omega)])
      rw [hch]
      clear hch hm hc h2x
      gi_wp2
      refine grow.wpIn_grow_last2 11 _ _ (by kernel_rfl) [grow.kEq (v), grow.kEq (.pointer (some ⟨w.heap.size, 1, none⟩)), grow.kEq (.func (.func 24) #[] #[]), grow.kEq (.slice (some ⟨b, off + m, none⟩) 2 2), grow.kEq (.pointer (some ⟨b, off + m, none⟩)), grow.kEq (.int .i64 (zs.getD m 0)), grow.kEq (.slice (some ⟨b, off + m, none⟩) 2 2), grow.kEq (.pointer (some ⟨b, off + m + 1, none⟩)), grow.kEq (.int .i64 (zs.getD (m + 1) 0)), grow.kEq (.int .i64 (ap 4 (zs.getD m 0) (zs.getD (m + 1) 0))), kOne w.heap.size (ap 4 (zs.getD m 0) (zs.getD (m + 1) 0))] rfl rfl rfl rfl rfl (by decide) (by kernel_rfl) (by kernel_rfl) (by kernel_rfl) (by kernel_rfl) (by kernel_rfl) ?step ?fin
      case step =>
        refine grow.EachL2.cons ?_ ?_
        · intro A W hB hs hJ K hK
          have s0 := hs 5 (by kernel_rfl)
          simp at s0
          have kk := upc hB hcell
          rw [if_pos (by rfl)]
          clear hs hJ
          go_simp
          exact hK _ _ (Below.refl _ _) rfl
        refine grow.EachL2.cons ?_ ?_
        · intro A W hB hs hJ K hK
          have s0 := hs 2 (by kernel_rfl)
          simp at s0
          rw [if_pos (by rfl)]
          clear hs hJ
          go_simp
          exact hK _ _ (Below.refl _ _) rfl
        refine grow.EachL2.cons ?_ ?_
        · intro A W hB hs hJ K hK
          have s0 : A.tmps.getD 14 undef = .pointer (some ⟨w.heap.size, 1, none⟩) := hJ 1 14 (by kernel_rfl) (by kernel_rfl)
          simp at s0
          have kk := upc hB kop
          rw [if_pos (by rfl)]
          clear hs hJ
          go_simp
          exact hK _ _ (Below.refl _ _) rfl
        refine grow.EachL2.cons ?_ ?_
        · intro A W hB hs hJ K hK
          have s0 := hs 6 (by kernel_rfl)
          simp at s0
          rw [if_pos (by rfl)]
          clear hs hJ
          go_simp
          exact hK _ _ (Below.refl _ _) rfl
        refine grow.EachL2.cons ?_ ?_
        · intro A W hB hs hJ K hK
          have s0 : A.tmps.getD 16 undef = .slice (some ⟨b, off + m, none⟩) 2 2 := hJ 3 16 (by kernel_rfl) (by kernel_rfl)
          simp at s0
          rw [if_pos (by rfl)]
          clear hs hJ
          go_simp
          exact hK _ _ (Below.refl _ _) rfl
        refine grow.EachL2.cons ?_ ?_
        · intro A W hB hs hJ K hK
          have s0 : A.tmps.getD 17 undef = .pointer (some ⟨b, off + m, none⟩) := hJ 4 17 (by kernel_rfl) (by kernel_rfl)
          simp at s0
          have kk := upc hB q0
          rw [if_pos (by rfl)]
          clear hs hJ
          go_simp
          exact hK _ _ (Below.refl _ _) rfl
        refine grow.EachL2.cons ?_ ?_
        · intro A W hB hs hJ K hK
          have s0 := hs 6 (by kernel_rfl)
          simp at s0
          rw [if_pos (by rfl)]
          clear hs hJ
          go_simp
          exact hK _ _ (Below.refl _ _) rfl
        refine grow.EachL2.cons ?_ ?_
        · intro A W hB hs hJ K hK
          have s0 : A.tmps.getD 19 undef = .slice (some ⟨b, off + m, none⟩) 2 2 := hJ 6 19 (by kernel_rfl) (by kernel_rfl)
          simp at s0
          rw [if_pos (by rfl)]
          clear hs hJ
          go_simp
          exact hK _ _ (Below.refl _ _) rfl
        refine grow.EachL2.cons ?_ ?_
        · intro A W hB hs hJ K hK
          have s0 : A.tmps.getD 20 undef = .pointer (some ⟨b, off + m + 1, none⟩) := hJ 7 20 (by kernel_rfl) (by kernel_rfl)
          simp at s0
          have kk := upc hB q1
          rw [if_pos (by rfl)]
          clear hs hJ
          go_simp
          exact hK _ _ (Below.refl _ _) rfl
        refine grow.EachL2.cons ?_ ?_
        · intro A W hB hs hJ K hK
          have s0 : A.tmps.getD 15 undef = .func (.func 24) #[] #[] := hJ 2 15 (by kernel_rfl) (by kernel_rfl)
          simp at s0
          have s1 : A.tmps.getD 18 undef = .int .i64 (zs.getD m 0) := hJ 5 18 (by kernel_rfl) (by kernel_rfl)
          simp at s1
          have s2 : A.tmps.getD 21 undef = .int .i64 (zs.getD (m + 1) 0) := hJ 8 21 (by kernel_rfl) (by kernel_rfl)
          simp at s2
          rw [if_pos (by rfl)]
          clear hs hJ
          go_simp
          refine (take4 _ _ _).mono ?_
          rintro e W2 ⟨rfl, rfl⟩
          exact hK _ _ (Below.refl _ _) rfl
        refine grow.EachL2.cons ?_ ?_
        · intro A W hB hs hJ K hK
          have s0 : A.tmps.getD 22 undef = .int .i64 (ap 4 (zs.getD m 0) (zs.getD (m + 1) 0)) := hJ 9 22 (by kernel_rfl) (by kernel_rfl)
          simp at s0
          rw [if_pos (by rfl)]
          clear hs hJ
          go_simp
          exact hK _ _ (belowAlloc _ _) ⟨_, rfl, (by have h1 := hB.size; have h2 := hBB.size; omega), heap_alloc_new _ _⟩
        exact grow.EachL2.nil
      case fin =>
        intro f W hB hF
        have f0 : f 0 = v := hF 0 (by decide)
        have f1 : f 1 = .pointer (some ⟨w.heap.size, 1, none⟩) := hF 1 (by decide)
        have f2 : f 2 = .func (.func 24) #[] #[] := hF 2 (by decide)
        have f3 : f 3 = .slice (some ⟨b, off + m, none⟩) 2 2 := hF 3 (by decide)
        have f4 : f 4 = .pointer (some ⟨b, off + m, none⟩) := hF 4 (by decide)
        have f5 : f 5 = .int .i64 (zs.getD m 0) := hF 5 (by decide)
        have f6 : f 6 = .slice (some ⟨b, off + m, none⟩) 2 2 := hF 6 (by decide)
        have f7 : f 7 = .pointer (some ⟨b, off + m + 1, none⟩) := hF 7 (by decide)
        have f8 : f 8 = .int .i64 (zs.getD (m + 1) 0) := hF 8 (by decide)
        have f9 : f 9 = .int .i64 (ap 4 (zs.getD m 0) (zs.getD (m + 1) 0)) := hF 9 (by decide)
        obtain ⟨g_10, f10, hg_10, hO_10⟩ := hF 10 (by decide)
        clear hF
        intro A hA
        simp only [grow.puts, Act.put, List.getElem?_toArray, List.getElem?_cons_zero, List.getElem?_cons_succ, Option.bind_some, List.setIfInBounds_toArray, List.set_cons_zero, List.set_cons_succ, f0, f1, f2, f3, f4, f5, f6, f7, f8, f9, f10] at hA
        subst hA
        refine wp_append_own W (.tmp 13) (.tmp 23) 22 rfl (w.heap.size + 4) 3 i0 (.int .i64 0) 1 8 Try.underlying22 hi hz0 hz1 hz2 rfl (by decide) v pre.length _ rfl (rowUp hrow hB) ⟨g_10, 0, none⟩ 1 1 [.int .i64 (ap 4 (zs.getD m 0) (zs.getD (m + 1) 0))] rfl rfl (World.news_of_block hO_10) (by simp [Value.oneCell']) (by unfold maxLen; omega) (by omega) (by have := hB.size; omega) ?_
        intro v' w1 hown' hgrow _
        have hvW : Boxed W (w.heap.size + 1) 22 v := upb hB hv
        obtain ⟨hc1, hf1, hb1, ho1, hk1, hl1, hs1, hn1⟩ := boxNext (n₀ := w.heap.size + 1) (Bs := w.heap.size + 1 + 1) (Bn := w.heap.size + 1 + 1 + 1) hvW (rowUp hrow hB) (by have := hB.size; omega) (Nat.le_refl _) (by omega) (by omega) (by omega) (by omega) hown' hgrow
        obtain ⟨g', cap', rfl⟩ := ownsRow_succ hown'
        go_simp
        refine ⟨(keepsOfB hB).trans hk1, ⟨(hB.mono (by omega)).trans hl1, hs1.trans (hB.block _ (by omega)), hn1.trans (hB.block _ (by omega))⟩, ⟨_, hb1, ?_, trivial⟩, hBB.trans ((hB.mono (by omega)).trans hl1)⟩
        rw [List.length_append, List.map_append, List.length_singleton, List.map_singleton]
        have e : pv 4 zs x.val = ap 4 (zs.getD m 0) (zs.getD (m + 1) 0) := Hpv.out
        rw [e]
        exact ho1
    · have hch : ch b off len x.val = .slice (some ⟨b, off + m, none⟩) 1 1 := by rw [ch, ← hm, show min 2 (len - m) = 1 by omega]
      have q0 := upc hWB (hc m (by omega))
      have Hpv : Hid (pv 4 zs x.val = zs.getD m 0) := Lib.hid (by rw [pv, ← hm, ← Hlen.out, if_neg (by omega)])
      rw [hch]
      clear hch hm hc h2x
      gi_wp2
      refine grow.wpIn_grow_last2 5 _ _ (by kernel_rfl) [grow.kEq (v), grow.kEq (.slice (some ⟨b, off + m, none⟩) 1 1), grow.kEq (.pointer (some ⟨b, off + m, none⟩)), grow.kEq (.int .i64 (zs.getD m 0)), kOne w.heap.size (zs.getD m 0)] rfl rfl rfl rfl rfl (by decide) (by kernel_rfl) (by kernel_rfl) (by kernel_rfl) (by kernel_rfl) (by kernel_rfl) ?step ?fin
      case step =>
        refine grow.EachL2.cons ?_ ?_
        · intro A W hB hs hJ K hK
          have s0 := hs 5 (by kernel_rfl)
          simp at s0
          have kk := upc hB hcell
          rw [if_pos (by rfl)]
          clear hs hJ
          go_simp
          exact hK _ _ (Below.refl _ _) rfl
        refine grow.EachL2.cons ?_ ?_
        · intro A W hB hs hJ K hK
          have s0 := hs 6 (by kernel_rfl)
          simp at s0
          rw [if_pos (by rfl)]
          clear hs hJ
          go_simp
          exact hK _ _ (Below.refl _ _) rfl
        refine grow.EachL2.cons ?_ ?_
        · intro A W hB hs hJ K hK
          have s0 : A.tmps.getD 26 undef = .slice (some ⟨b, off + m, none⟩) 1 1 := hJ 1 26 (by kernel_rfl) (by kernel_rfl)
          simp at s0
          rw [if_pos (by rfl)]
          clear hs hJ
          go_simp
          exact hK _ _ (Below.refl _ _) rfl
        refine grow.EachL2.cons ?_ ?_
        · intro A W hB hs hJ K hK
          have s0 : A.tmps.getD 27 undef = .pointer (some ⟨b, off + m, none⟩) := hJ 2 27 (by kernel_rfl) (by kernel_rfl)
          simp at s0
          have kk := upc hB q0
          rw [if_pos (by rfl)]
          clear hs hJ
          go_simp
          exact hK _ _ (Below.refl _ _) rfl
        refine grow.EachL2.cons ?_ ?_
        · intro A W hB hs hJ K hK
          have s0 : A.tmps.getD 28 undef = .int .i64 (zs.getD m 0) := hJ 3 28 (by kernel_rfl) (by kernel_rfl)
          simp at s0
          rw [if_pos (by rfl)]
          clear hs hJ
          go_simp
          exact hK _ _ (belowAlloc _ _) ⟨_, rfl, (by have h1 := hB.size; have h2 := hBB.size; omega), heap_alloc_new _ _⟩
        exact grow.EachL2.nil
      case fin =>
        intro f W hB hF
        have f0 : f 0 = v := hF 0 (by decide)
        have f1 : f 1 = .slice (some ⟨b, off + m, none⟩) 1 1 := hF 1 (by decide)
        have f2 : f 2 = .pointer (some ⟨b, off + m, none⟩) := hF 2 (by decide)
        have f3 : f 3 = .int .i64 (zs.getD m 0) := hF 3 (by decide)
        obtain ⟨g_4, f4, hg_4, hO_4⟩ := hF 4 (by decide)
        clear hF
        intro A hA
        simp only [grow.puts, Act.put, List.getElem?_toArray, List.getElem?_cons_zero, List.getElem?_cons_succ, Option.bind_some, List.setIfInBounds_toArray, List.set_cons_zero, List.set_cons_succ, f0, f1, f2, f3, f4] at hA
        subst hA
        refine wp_append_own W (.tmp 25) (.tmp 29) 22 rfl (w.heap.size + 4) 3 i0 (.int .i64 0) 1 8 Try.underlying22 hi hz0 hz1 hz2 rfl (by decide) v pre.length _ rfl (rowUp hrow hB) ⟨g_4, 0, none⟩ 1 1 [.int .i64 (zs.getD m 0)] rfl rfl (World.news_of_block hO_4) (by simp [Value.oneCell']) (by unfold maxLen; omega) (by omega) (by have := hB.size; omega) ?_
        intro v' w1 hown' hgrow _
        have hvW : Boxed W (w.heap.size + 1) 22 v := upb hB hv
        obtain ⟨hc1, hf1, hb1, ho1, hk1, hl1, hs1, hn1⟩ := boxNext (n₀ := w.heap.size + 1) (Bs := w.heap.size + 1 + 1) (Bn := w.heap.size + 1 + 1 + 1) hvW (rowUp hrow hB) (by have := hB.size; omega) (Nat.le_refl _) (by omega) (by omega) (by omega) (by omega) hown' hgrow
        obtain ⟨g', cap', rfl⟩ := ownsRow_succ hown'
        go_simp
        refine ⟨(keepsOfB hB).trans hk1, ⟨(hB.mono (by omega)).trans hl1, hs1.trans (hB.block _ (by omega)), hn1.trans (hB.block _ (by omega))⟩, ⟨_, hb1, ?_, trivial⟩, hBB.trans ((hB.mono (by omega)).trans hl1)⟩
        rw [List.length_append, List.map_append, List.length_singleton, List.map_singleton]
        have e : pv 4 zs x.val = zs.getD m 0 := Hpv.out
        rw [e]
        exact ho1
  case done =>
    rintro D ys W1 hD hys ⟨⟨v, hv, hrow, _⟩, hBB⟩ hK
    have hcc := hv.cell
    obtain ⟨he, hel⟩ := pairsP_of (k := 4) Hlen.out rfl hys
    have hmap : ys.map (fun j => Value.int .i64 (pv 4 zs j.val)) = (pairsP 4 zs).map (Value.int .i64) := by rw [← he, List.map_map]; rfl
    rw [hmap, hel, Hlen.out, ← pairsP_length 4 zs] at hrow
    clear he hel hmap hys
    gi_wp2
    refine ⟨by simp, .inl ⟨_, _, rfl, run_takeDeferred hK, ?_⟩⟩
    refine ⟨_, results_tmp rfl _ _ _, ?_⟩
    exact RetI.mk (ownsRow_lower (ownsRow_putObj hrow _ hK rfl) (by omega)) ((hbW.trans (hBB.mono (Nat.le_succ _))).trans (belowK_b (w := w) (Nat.le_refl _) W1 D _ _ (by omega) hK rfl rfl))
  case stop =>
    rintro D c pre W _ _ h _
    exact h.elim
end Go.Proofs.Ytnnpeblpdkeffaa.scan
