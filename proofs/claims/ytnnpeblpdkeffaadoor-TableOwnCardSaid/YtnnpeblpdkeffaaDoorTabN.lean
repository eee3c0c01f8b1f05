/- Package table: next. (Printed by nx.py.) -/
import Derived.Test.YtnnpeblpdkeffaaDoorTabT
import Derived.Test.YtnnpeblpdkeffaaDoorGrow4
import Derived.Test.YtnnpeblpdkeffaaDoorFill
import Derived.Laws.AppendOwn
import Derived.RangeFuncBox
namespace Go.Proofs.YtnnpeblpdkeffaaDoor.table
open Go.RowKit Go

def kOne (n : Nat) (x : Int) : grow.Kept := ⟨fun v W => ∃ g, v = .slice (some ⟨g, 0, none⟩) 1 1 ∧ n ≤ g ∧ W.heap[g]? = some (.cells #[.int .i64 x] 3 (0, 0)), fun _ _ _ hb ⟨g, h1, h2, h3⟩ => ⟨g, h1, h2, upb hb h3⟩⟩
/-- a new row of places -/
def RetNx (w : World) (n len : Nat) (e : Ending) (w' : World) : Prop := ∃ (a : Option Addr) (c : Nat) (xs : List Nat), e = .returned (.slice a len c) ∧ xs.length = len ∧ w'.ownsRow w.heap.size 3 1 (.slice a len c) len ((ofN xs).map (Value.int .i64)) ∧ (∀ x ∈ xs, x < n) ∧ Below w.heap.size w w'
structure NV (w : World) (n k : Nat) (ov : Value) (W : World) : Prop where
  own : ∃ xs : List Nat, xs.length = k ∧ W.ownsRow w.heap.size 3 1 ov k ((ofN xs).map (Value.int .i64)) ∧ ∀ x ∈ xs, x < n
  bel : Below w.heap.size w W
theorem ofN_append (xs ys : List Nat) : ofN (xs ++ ys) = ofN xs ++ ofN ys := List.map_append ..
theorem row_form {W : World} {B E k : Nat} {v : Value} {xs : List Value} (h : W.ownsRow B E 1 v k xs) : ∃ a c, v = .slice a k c := by
  rcases h.2 with ⟨e1, e2⟩ | ⟨g, cap, cur, e1, _⟩
  · exact ⟨none, 0, by rw [e1, e2]⟩
  · exact ⟨_, _, e1⟩

set_option maxRecDepth 100000 in
set_option maxHeartbeats 2000000 in
theorem next_low (base tb n m N : Nat) (L : List Int) (row : List Nat) (w : World) (va : Option Addr) (vc : Nat) (h : TL base tb n L w) (hN : N = row.length) (hr : Reads w va (ofN row)) (hx : ∀ x ∈ row, x < n) (hm : m ≤ 20000) (hn : N ≤ 20000) :
    Calls Tryd.prog 10 #[.pointer (some ⟨tb, 0, none⟩), .slice va N vc, .int .i64 m, .func (.func 11) #[.pointer (some ⟨tb, 0, none⟩)] #[]] w (RetNx w n (N - m)) := by
  obtain ⟨i0, hi, hz0, hz1, hz2⟩ := info_parts infoInt
  have Hi := Lib.hid (And.intro hi (And.intro hz0 (And.intro hz1 hz2)))
  have HT := Lib.hid h
  have HR := Lib.hid (And.intro hN (And.intro hr hx))
  have H0 : Hid (NV w n 0 (.slice none 0 0) w) := Lib.hid ⟨⟨[], rfl, World.ownsRow_nil _ _ _ _, by simp⟩, Below.refl _ _⟩
  clear h hN hr hx hi hz0 hz1 hz2
  go_enter Tryd.func10, Tryd.ntmps10
  go_wp2_with fail
  go_loopw [9, 10] (fun ov iv wr => ∃ (k : Nat) (ow : Value), k ≤ N - m ∧ iv = .int .i64 k ∧ ow = ov ∧ Hid (NV w n k ow wr)) (fun _ iv _ => N - (intOf iv).toNat)
  case atStart => exact ⟨0, _, Nat.zero_le _, rfl, rfl, H0⟩
  case round =>
    obtain ⟨k, ow, hk, rfl, rfl, HS⟩ := hrel
    obtain ⟨xs, hxl, hxo, hxb⟩ := HS.out.own
    obtain ⟨oa, oc, rfl⟩ := row_form hxo
    have HO := Lib.hid (And.intro hxl (And.intro hxo hxb))
    clear hxl hxo hxb H0
    obtain ⟨km, hkm⟩ : ∃ km, km = k + m := ⟨_, rfl⟩
    have e1 : (k : Int) + (m : Int) = (km : Int) := by omega
    have r1 : IntKind.i64.wrap (km : Int) = (km : Int) := by rw [IntKind.wrap_i64]; omega
    have HE := Lib.hid (And.intro e1 r1)
    clear e1 r1
    by_cases hlt : km < N
    · obtain ⟨x, hx⟩ : ∃ x, row[k]? = some x := ⟨_, List.getElem?_eq_getElem (by rw [← HR.out.1]; omega)⟩
      obtain ⟨y, hy⟩ : ∃ y, row[km]? = some y := ⟨_, List.getElem?_eq_getElem (by rw [← HR.out.1]; omega)⟩
      have hrd := HR.out.2.1.up HS.out.bel
      obtain ⟨rb, ro, rfl, cx, cy⟩ : ∃ rb ro, va = some ⟨rb, ro, none⟩ ∧ wr.cell? ⟨rb, ro + k, none⟩ = some (.int .i64 (x : Nat)) ∧ wr.cell? ⟨rb, ro + km, none⟩ = some (.int .i64 (y : Nat)) := by
        rcases hrd with e | ⟨rb, ro, e, hc⟩
        · have h1 := congrArg List.length e
          rw [ofN_length, ← HR.out.1] at h1
          simp at h1
          omega
        · refine ⟨rb, ro, e, ?_, ?_⟩
          · rw [hc k (by rw [ofN_length, ← HR.out.1]; omega), ofN_getD hx]
          · rw [hc km (by rw [ofN_length, ← HR.out.1]; omega), ofN_getD hy]
      have HXY := Lib.hid (And.intro (HR.out.2.2 x (List.mem_of_getElem? hx)) (HR.out.2.2 y (List.mem_of_getElem? hy)))
      have t1 : (k : Int) + (m : Int) < (N : Int) := by omega
      have k0 : (0 : Int) ≤ (k : Int) := by omega
      have k1 : (k : Int) < (N : Int) := by omega
      have m0 : (0 : Int) ≤ (km : Int) := by omega
      have m1 : (km : Int) < (N : Int) := by omega
      have hkN : k + 1 ≤ N - m := by omega
      clear hx hy hrd hkm
      go_wp2_with fail
      clear t1
      refine grow.wp_grow_last2 14 _ _ [grow.kEq (.slice oa k oc), grow.kEq (.func (.func 11) #[.pointer (some ⟨tb, 0, none⟩)] #[]), grow.kEq (.slice (some ⟨rb, ro, none⟩) N vc), grow.kEq (.int .i64 k), grow.kEq (.pointer (some ⟨rb, ro + k, none⟩)), grow.kEq (.int .i64 (x : Nat)), grow.kEq (.slice (some ⟨rb, ro, none⟩) N vc), grow.kEq (.int .i64 k), grow.kEq (.int .i64 m), grow.kEq (.int .i64 (km : Nat)), grow.kEq (.pointer (some ⟨rb, ro + km, none⟩)), grow.kEq (.int .i64 (y : Nat)), grow.kEq (.int .i64 (lowF L x y : Nat)), kOne w.heap.size (lowF L x y : Nat)] rfl rfl rfl rfl rfl (by decide) (by kernel_rfl) (by kernel_rfl) (by kernel_rfl) (by kernel_rfl) (by kernel_rfl) ?step ?fin
      case step =>
        obtain ⟨e1, r1⟩ := HE.out
        refine grow.EachL2.cons ?_ ?_
        · intro A W hB hs hJ K hK
          have s0 := hs 9 (by kernel_rfl)
          simp at s0
          rw [if_pos (by rfl)]
          clear hs hJ
          go_simp
          exact hK _ _ (Below.refl _ _) rfl
        refine grow.EachL2.cons ?_ ?_
        · intro A W hB hs hJ K hK
          have s0 := hs 3 (by kernel_rfl)
          simp at s0
          rw [if_pos (by rfl)]
          clear hs hJ
          go_simp
          exact hK _ _ (Below.refl _ _) rfl
        refine grow.EachL2.cons ?_ ?_
        · intro A W hB hs hJ K hK
          have s0 := hs 1 (by kernel_rfl)
          simp at s0
          rw [if_pos (by rfl)]
          clear hs hJ
          go_simp
          exact hK _ _ (Below.refl _ _) rfl
        refine grow.EachL2.cons ?_ ?_
        · intro A W hB hs hJ K hK
          have s0 := hs 10 (by kernel_rfl)
          simp at s0
          rw [if_pos (by rfl)]
          clear hs hJ
          go_simp
          exact hK _ _ (Below.refl _ _) rfl
        refine grow.EachL2.cons ?_ ?_
        · intro A W hB hs hJ K hK
          have s0 : A.tmps.getD 21 undef = .slice (some ⟨rb, ro, none⟩) N vc := hJ 2 21 (by kernel_rfl) (by kernel_rfl)
          simp at s0
          have s1 : A.tmps.getD 22 undef = .int .i64 k := hJ 3 22 (by kernel_rfl) (by kernel_rfl)
          simp at s1
          rw [if_pos (by rfl)]
          clear hs hJ
          go_simp
          exact hK _ _ (Below.refl _ _) rfl
        refine grow.EachL2.cons ?_ ?_
        · intro A W hB hs hJ K hK
          have s0 : A.tmps.getD 23 undef = .pointer (some ⟨rb, ro + k, none⟩) := hJ 4 23 (by kernel_rfl) (by kernel_rfl)
          simp at s0
          have kk := upc hB cx
          rw [if_pos (by rfl)]
          clear hs hJ
          go_simp
          exact hK _ _ (Below.refl _ _) rfl
        refine grow.EachL2.cons ?_ ?_
        · intro A W hB hs hJ K hK
          have s0 := hs 1 (by kernel_rfl)
          simp at s0
          rw [if_pos (by rfl)]
          clear hs hJ
          go_simp
          exact hK _ _ (Below.refl _ _) rfl
        refine grow.EachL2.cons ?_ ?_
        · intro A W hB hs hJ K hK
          have s0 := hs 10 (by kernel_rfl)
          simp at s0
          rw [if_pos (by rfl)]
          clear hs hJ
          go_simp
          exact hK _ _ (Below.refl _ _) rfl
        refine grow.EachL2.cons ?_ ?_
        · intro A W hB hs hJ K hK
          have s0 := hs 2 (by kernel_rfl)
          simp at s0
          rw [if_pos (by rfl)]
          clear hs hJ
          go_simp
          exact hK _ _ (Below.refl _ _) rfl
        refine grow.EachL2.cons ?_ ?_
        · intro A W hB hs hJ K hK
          have s0 : A.tmps.getD 26 undef = .int .i64 k := hJ 7 26 (by kernel_rfl) (by kernel_rfl)
          simp at s0
          have s1 : A.tmps.getD 27 undef = .int .i64 m := hJ 8 27 (by kernel_rfl) (by kernel_rfl)
          simp at s1
          rw [if_pos (by rfl)]
          clear hs hJ
          go_simp
          exact hK _ _ (Below.refl _ _) rfl
        refine grow.EachL2.cons ?_ ?_
        · intro A W hB hs hJ K hK
          have s0 : A.tmps.getD 25 undef = .slice (some ⟨rb, ro, none⟩) N vc := hJ 6 25 (by kernel_rfl) (by kernel_rfl)
          simp at s0
          have s1 : A.tmps.getD 28 undef = .int .i64 (km : Nat) := hJ 9 28 (by kernel_rfl) (by kernel_rfl)
          simp at s1
          rw [if_pos (by rfl)]
          clear hs hJ
          go_simp
          exact hK _ _ (Below.refl _ _) rfl
        refine grow.EachL2.cons ?_ ?_
        · intro A W hB hs hJ K hK
          have s0 : A.tmps.getD 29 undef = .pointer (some ⟨rb, ro + km, none⟩) := hJ 10 29 (by kernel_rfl) (by kernel_rfl)
          simp at s0
          have kk := upc hB cy
          rw [if_pos (by rfl)]
          clear hs hJ
          go_simp
          exact hK _ _ (Below.refl _ _) rfl
        refine grow.EachL2.cons ?_ ?_
        · intro A W hB hs hJ K hK
          have s0 : A.tmps.getD 20 undef = .func (.func 11) #[.pointer (some ⟨tb, 0, none⟩)] #[] := hJ 1 20 (by kernel_rfl) (by kernel_rfl)
          simp at s0
          have s1 : A.tmps.getD 24 undef = .int .i64 (x : Nat) := hJ 5 24 (by kernel_rfl) (by kernel_rfl)
          simp at s1
          have s2 : A.tmps.getD 30 undef = .int .i64 (y : Nat) := hJ 11 30 (by kernel_rfl) (by kernel_rfl)
          simp at s2
          rw [if_pos (by rfl)]
          clear hs hJ
          go_simp
          refine (low_any base tb n x y L W (HT.out.fm (Fm.of (belowTrans HS.out.bel hB))) HXY.out.1 HXY.out.2).mono ?_
          rintro e W2 ⟨rfl, hbn⟩
          exact hK _ _ hbn rfl
        refine grow.EachL2.cons ?_ ?_
        · intro A W hB hs hJ K hK
          have s0 : A.tmps.getD 31 undef = .int .i64 (lowF L x y : Nat) := hJ 12 31 (by kernel_rfl) (by kernel_rfl)
          simp at s0
          rw [if_pos (by rfl)]
          clear hs hJ
          go_simp
          exact hK _ _ (belowAlloc _ _) ⟨_, rfl, (by have h1 := hB.size; have h2 := HS.out.bel.size; omega), heap_alloc_new _ _⟩
        exact grow.EachL2.nil
      case fin =>
        intro f W hB hF
        have f0 : f 0 = .slice oa k oc := hF 0 (by decide)
        have f1 : f 1 = .func (.func 11) #[.pointer (some ⟨tb, 0, none⟩)] #[] := hF 1 (by decide)
        have f2 : f 2 = .slice (some ⟨rb, ro, none⟩) N vc := hF 2 (by decide)
        have f3 : f 3 = .int .i64 k := hF 3 (by decide)
        have f4 : f 4 = .pointer (some ⟨rb, ro + k, none⟩) := hF 4 (by decide)
        have f5 : f 5 = .int .i64 (x : Nat) := hF 5 (by decide)
        have f6 : f 6 = .slice (some ⟨rb, ro, none⟩) N vc := hF 6 (by decide)
        have f7 : f 7 = .int .i64 k := hF 7 (by decide)
        have f8 : f 8 = .int .i64 m := hF 8 (by decide)
        have f9 : f 9 = .int .i64 (km : Nat) := hF 9 (by decide)
        have f10 : f 10 = .pointer (some ⟨rb, ro + km, none⟩) := hF 10 (by decide)
        have f11 : f 11 = .int .i64 (y : Nat) := hF 11 (by decide)
        have f12 : f 12 = .int .i64 (lowF L x y : Nat) := hF 12 (by decide)
        obtain ⟨g_13, f13, hg_13, hO_13⟩ := hF 13 (by decide)
        clear hF
        intro A hA
        simp only [grow.puts, Act.put, List.getElem?_toArray, List.getElem?_cons_zero, List.getElem?_cons_succ, Option.bind_some, List.setIfInBounds_toArray, List.set_cons_zero, List.set_cons_succ, f0, f1, f2, f3, f4, f5, f6, f7, f8, f9, f10, f11, f12, f13] at hA
        subst hA
        obtain ⟨hi, hz0, hz1, hz2⟩ := Hi.out
        refine wp_append_own W (.tmp 19) (.tmp 32) 22 rfl w.heap.size 3 i0 (.int .i64 0) 1 8 Tryd.underlying22 hi hz0 hz1 hz2 rfl (by decide) (.slice oa k oc) k _ rfl (rowUp HO.out.2.1 hB) ⟨g_13, 0, none⟩ 1 1 [.int .i64 (lowF L x y : Nat)] rfl rfl (World.news_of_block hO_13) (by simp [Value.oneCell']) (by unfold maxLen; omega) (by omega) (by have := HS.out.bel.size; have := hB.size; omega) ?_
        intro v' w1 hown' hgrow _
        obtain ⟨g', cap', rfl⟩ := ownsRow_succ hown'
        have HN : Hid (NV w n (k + 1) (.slice (some ⟨g', 0, none⟩) (k + 1) cap') w1) := by
          refine Lib.hid ⟨⟨xs ++ [lowF L x y], by simp [HO.out.1], ?_, ?_⟩, Below.grown (belowTrans HS.out.bel hB) hgrow (by have := HS.out.bel.size; have := hB.size; omega) (fun b hb => (World.ownsRow.lt HO.out.2.1 b hb).1)⟩
          · rw [ofN_append, List.map_append]
            exact hown'
          · intro z hz
            rcases List.mem_append.1 hz with hz | hz
            · exact HO.out.2.2 z hz
            · rw [List.mem_singleton.1 hz]
              unfold lowF
              split
              · exact HXY.out.2
              · exact HXY.out.1
        clear hown' hgrow hi hz0 hz1 hz2
        go_simp
        go_wp2_with fail
        exact ⟨⟨k + 1, _, hkN, by go_num, rfl, HN⟩, by simp [intOf]; omega⟩
    · have HK := Lib.hid (show N - m = k by omega)
      have hd : ¬ ((k : Int) + (m : Int) < (N : Int)) := by omega
      have hd2 : decide ((k : Int) + (m : Int) < (N : Int)) = false := decide_eq_false hd
      clear hkm
      go_wp2_with fail
      go_ret
      rw [HK.out]
      exact ⟨oa, oc, xs, rfl, HO.out.1, HO.out.2.1, HO.out.2.2, HS.out.bel⟩

set_option maxRecDepth 100000 in
set_option maxHeartbeats 2000000 in
theorem next_high (base tb n m N : Nat) (L : List Int) (row : List Nat) (w : World) (va : Option Addr) (vc : Nat) (h : TL base tb n L w) (hN : N = row.length) (hr : Reads w va (ofN row)) (hx : ∀ x ∈ row, x < n) (hm : m ≤ 20000) (hn : N ≤ 20000) :
    Calls Tryd.prog 10 #[.pointer (some ⟨tb, 0, none⟩), .slice va N vc, .int .i64 m, .func (.func 12) #[.pointer (some ⟨tb, 0, none⟩)] #[]] w (RetNx w n (N - m)) := by
  obtain ⟨i0, hi, hz0, hz1, hz2⟩ := info_parts infoInt
  have Hi := Lib.hid (And.intro hi (And.intro hz0 (And.intro hz1 hz2)))
  have HT := Lib.hid h
  have HR := Lib.hid (And.intro hN (And.intro hr hx))
  have H0 : Hid (NV w n 0 (.slice none 0 0) w) := Lib.hid ⟨⟨[], rfl, World.ownsRow_nil _ _ _ _, by simp⟩, Below.refl _ _⟩
  clear h hN hr hx hi hz0 hz1 hz2
  go_enter Tryd.func10, Tryd.ntmps10
  go_wp2_with fail
  go_loopw [9, 10] (fun ov iv wr => ∃ (k : Nat) (ow : Value), k ≤ N - m ∧ iv = .int .i64 k ∧ ow = ov ∧ Hid (NV w n k ow wr)) (fun _ iv _ => N - (intOf iv).toNat)
  case atStart => exact ⟨0, _, Nat.zero_le _, rfl, rfl, H0⟩
  case round =>
    obtain ⟨k, ow, hk, rfl, rfl, HS⟩ := hrel
    obtain ⟨xs, hxl, hxo, hxb⟩ := HS.out.own
    obtain ⟨oa, oc, rfl⟩ := row_form hxo
    have HO := Lib.hid (And.intro hxl (And.intro hxo hxb))
    clear hxl hxo hxb H0
    obtain ⟨km, hkm⟩ : ∃ km, km = k + m := ⟨_, rfl⟩
    have e1 : (k : Int) + (m : Int) = (km : Int) := by omega
    have r1 : IntKind.i64.wrap (km : Int) = (km : Int) := by rw [IntKind.wrap_i64]; omega
    have HE := Lib.hid (And.intro e1 r1)
    clear e1 r1
    by_cases hlt : km < N
    · obtain ⟨x, hx⟩ : ∃ x, row[k]? = some x := ⟨_, List.getElem?_eq_getElem (by rw [← HR.out.1]; omega)⟩
      obtain ⟨y, hy⟩ : ∃ y, row[km]? = some y := ⟨_, List.getElem?_eq_getElem (by rw [← HR.out.1]; omega)⟩
      have hrd := HR.out.2.1.up HS.out.bel
      obtain ⟨rb, ro, rfl, cx, cy⟩ : ∃ rb ro, va = some ⟨rb, ro, none⟩ ∧ wr.cell? ⟨rb, ro + k, none⟩ = some (.int .i64 (x : Nat)) ∧ wr.cell? ⟨rb, ro + km, none⟩ = some (.int .i64 (y : Nat)) := by
        rcases hrd with e | ⟨rb, ro, e, hc⟩
        · have h1 := congrArg List.length e
          rw [ofN_length, ← HR.out.1] at h1
          simp at h1
          omega
        · refine ⟨rb, ro, e, ?_, ?_⟩
          · rw [hc k (by rw [ofN_length, ← HR.out.1]; omega), ofN_getD hx]
          · rw [hc km (by rw [ofN_length, ← HR.out.1]; omega), ofN_getD hy]
      have HXY := Lib.hid (And.intro (HR.out.2.2 x (List.mem_of_getElem? hx)) (HR.out.2.2 y (List.mem_of_getElem? hy)))
      have t1 : (k : Int) + (m : Int) < (N : Int) := by omega
      have k0 : (0 : Int) ≤ (k : Int) := by omega
      have k1 : (k : Int) < (N : Int) := by omega
      have m0 : (0 : Int) ≤ (km : Int) := by omega
      have m1 : (km : Int) < (N : Int) := by omega
      have hkN : k + 1 ≤ N - m := by omega
      clear hx hy hrd hkm
      go_wp2_with fail
      clear t1
      refine grow.wp_grow_last2 14 _ _ [grow.kEq (.slice oa k oc), grow.kEq (.func (.func 12) #[.pointer (some ⟨tb, 0, none⟩)] #[]), grow.kEq (.slice (some ⟨rb, ro, none⟩) N vc), grow.kEq (.int .i64 k), grow.kEq (.pointer (some ⟨rb, ro + k, none⟩)), grow.kEq (.int .i64 (x : Nat)), grow.kEq (.slice (some ⟨rb, ro, none⟩) N vc), grow.kEq (.int .i64 k), grow.kEq (.int .i64 m), grow.kEq (.int .i64 (km : Nat)), grow.kEq (.pointer (some ⟨rb, ro + km, none⟩)), grow.kEq (.int .i64 (y : Nat)), grow.kEq (.int .i64 (highF L x y : Nat)), kOne w.heap.size (highF L x y : Nat)] rfl rfl rfl rfl rfl (by decide) (by kernel_rfl) (by kernel_rfl) (by kernel_rfl) (by kernel_rfl) (by kernel_rfl) ?step ?fin
      case step =>
        obtain ⟨e1, r1⟩ := HE.out
        refine grow.EachL2.cons ?_ ?_
        · intro A W hB hs hJ K hK
          have s0 := hs 9 (by kernel_rfl)
          simp at s0
          rw [if_pos (by rfl)]
          clear hs hJ
          go_simp
          exact hK _ _ (Below.refl _ _) rfl
        refine grow.EachL2.cons ?_ ?_
        · intro A W hB hs hJ K hK
          have s0 := hs 3 (by kernel_rfl)
          simp at s0
          rw [if_pos (by rfl)]
          clear hs hJ
          go_simp
          exact hK _ _ (Below.refl _ _) rfl
        refine grow.EachL2.cons ?_ ?_
        · intro A W hB hs hJ K hK
          have s0 := hs 1 (by kernel_rfl)
          simp at s0
          rw [if_pos (by rfl)]
          clear hs hJ
          go_simp
          exact hK _ _ (Below.refl _ _) rfl
        refine grow.EachL2.cons ?_ ?_
        · intro A W hB hs hJ K hK
          have s0 := hs 10 (by kernel_rfl)
          simp at s0
          rw [if_pos (by rfl)]
          clear hs hJ
          go_simp
          exact hK _ _ (Below.refl _ _) rfl
        refine grow.EachL2.cons ?_ ?_
        · intro A W hB hs hJ K hK
          have s0 : A.tmps.getD 21 undef = .slice (some ⟨rb, ro, none⟩) N vc := hJ 2 21 (by kernel_rfl) (by kernel_rfl)
          simp at s0
          have s1 : A.tmps.getD 22 undef = .int .i64 k := hJ 3 22 (by kernel_rfl) (by kernel_rfl)
          simp at s1
          rw [if_pos (by rfl)]
          clear hs hJ
          go_simp
          exact hK _ _ (Below.refl _ _) rfl
        refine grow.EachL2.cons ?_ ?_
        · intro A W hB hs hJ K hK
          have s0 : A.tmps.getD 23 undef = .pointer (some ⟨rb, ro + k, none⟩) := hJ 4 23 (by kernel_rfl) (by kernel_rfl)
          simp at s0
          have kk := upc hB cx
          rw [if_pos (by rfl)]
          clear hs hJ
          go_simp
          exact hK _ _ (Below.refl _ _) rfl
        refine grow.EachL2.cons ?_ ?_
        · intro A W hB hs hJ K hK
          have s0 := hs 1 (by kernel_rfl)
          simp at s0
          rw [if_pos (by rfl)]
          clear hs hJ
          go_simp
          exact hK _ _ (Below.refl _ _) rfl
        refine grow.EachL2.cons ?_ ?_
        · intro A W hB hs hJ K hK
          have s0 := hs 10 (by kernel_rfl)
          simp at s0
          rw [if_pos (by rfl)]
          clear hs hJ
          go_simp
          exact hK _ _ (Below.refl _ _) rfl
        refine grow.EachL2.cons ?_ ?_
        · intro A W hB hs hJ K hK
          have s0 := hs 2 (by kernel_rfl)
          simp at s0
          rw [if_pos (by rfl)]
          clear hs hJ
          go_simp
          exact hK _ _ (Below.refl _ _) rfl
        refine grow.EachL2.cons ?_ ?_
        · intro A W hB hs hJ K hK
          have s0 : A.tmps.getD 26 undef = .int .i64 k := hJ 7 26 (by kernel_rfl) (by kernel_rfl)
          simp at s0
          have s1 : A.tmps.getD 27 undef = .int .i64 m := hJ 8 27 (by kernel_rfl) (by kernel_rfl)
          simp at s1
          rw [if_pos (by rfl)]
          clear hs hJ
          go_simp
          exact hK _ _ (Below.refl _ _) rfl
        refine grow.EachL2.cons ?_ ?_
        · intro A W hB hs hJ K hK
          have s0 : A.tmps.getD 25 undef = .slice (some ⟨rb, ro, none⟩) N vc := hJ 6 25 (by kernel_rfl) (by kernel_rfl)
          simp at s0
          have s1 : A.tmps.getD 28 undef = .int .i64 (km : Nat) := hJ 9 28 (by kernel_rfl) (by kernel_rfl)
          simp at s1
          rw [if_pos (by rfl)]
          clear hs hJ
          go_simp
          exact hK _ _ (Below.refl _ _) rfl
        refine grow.EachL2.cons ?_ ?_
        · intro A W hB hs hJ K hK
          have s0 : A.tmps.getD 29 undef = .pointer (some ⟨rb, ro + km, none⟩) := hJ 10 29 (by kernel_rfl) (by kernel_rfl)
          simp at s0
          have kk := upc hB cy
          rw [if_pos (by rfl)]
          clear hs hJ
          go_simp
          exact hK _ _ (Below.refl _ _) rfl
        refine grow.EachL2.cons ?_ ?_
        · intro A W hB hs hJ K hK
          have s0 : A.tmps.getD 20 undef = .func (.func 12) #[.pointer (some ⟨tb, 0, none⟩)] #[] := hJ 1 20 (by kernel_rfl) (by kernel_rfl)
          simp at s0
          have s1 : A.tmps.getD 24 undef = .int .i64 (x : Nat) := hJ 5 24 (by kernel_rfl) (by kernel_rfl)
          simp at s1
          have s2 : A.tmps.getD 30 undef = .int .i64 (y : Nat) := hJ 11 30 (by kernel_rfl) (by kernel_rfl)
          simp at s2
          rw [if_pos (by rfl)]
          clear hs hJ
          go_simp
          refine (high_any base tb n x y L W (HT.out.fm (Fm.of (belowTrans HS.out.bel hB))) HXY.out.1 HXY.out.2).mono ?_
          rintro e W2 ⟨rfl, hbn⟩
          exact hK _ _ hbn rfl
        refine grow.EachL2.cons ?_ ?_
        · intro A W hB hs hJ K hK
          have s0 : A.tmps.getD 31 undef = .int .i64 (highF L x y : Nat) := hJ 12 31 (by kernel_rfl) (by kernel_rfl)
          simp at s0
          rw [if_pos (by rfl)]
          clear hs hJ
          go_simp
          exact hK _ _ (belowAlloc _ _) ⟨_, rfl, (by have h1 := hB.size; have h2 := HS.out.bel.size; omega), heap_alloc_new _ _⟩
        exact grow.EachL2.nil
      case fin =>
        intro f W hB hF
        have f0 : f 0 = .slice oa k oc := hF 0 (by decide)
        have f1 : f 1 = .func (.func 12) #[.pointer (some ⟨tb, 0, none⟩)] #[] := hF 1 (by decide)
        have f2 : f 2 = .slice (some ⟨rb, ro, none⟩) N vc := hF 2 (by decide)
        have f3 : f 3 = .int .i64 k := hF 3 (by decide)
        have f4 : f 4 = .pointer (some ⟨rb, ro + k, none⟩) := hF 4 (by decide)
        have f5 : f 5 = .int .i64 (x : Nat) := hF 5 (by decide)
        have f6 : f 6 = .slice (some ⟨rb, ro, none⟩) N vc := hF 6 (by decide)
        have f7 : f 7 = .int .i64 k := hF 7 (by decide)
        have f8 : f 8 = .int .i64 m := hF 8 (by decide)
        have f9 : f 9 = .int .i64 (km : Nat) := hF 9 (by decide)
        have f10 : f 10 = .pointer (some ⟨rb, ro + km, none⟩) := hF 10 (by decide)
        have f11 : f 11 = .int .i64 (y : Nat) := hF 11 (by decide)
        have f12 : f 12 = .int .i64 (highF L x y : Nat) := hF 12 (by decide)
        obtain ⟨g_13, f13, hg_13, hO_13⟩ := hF 13 (by decide)
        clear hF
        intro A hA
        simp only [grow.puts, Act.put, List.getElem?_toArray, List.getElem?_cons_zero, List.getElem?_cons_succ, Option.bind_some, List.setIfInBounds_toArray, List.set_cons_zero, List.set_cons_succ, f0, f1, f2, f3, f4, f5, f6, f7, f8, f9, f10, f11, f12, f13] at hA
        subst hA
        obtain ⟨hi, hz0, hz1, hz2⟩ := Hi.out
        refine wp_append_own W (.tmp 19) (.tmp 32) 22 rfl w.heap.size 3 i0 (.int .i64 0) 1 8 Tryd.underlying22 hi hz0 hz1 hz2 rfl (by decide) (.slice oa k oc) k _ rfl (rowUp HO.out.2.1 hB) ⟨g_13, 0, none⟩ 1 1 [.int .i64 (highF L x y : Nat)] rfl rfl (World.news_of_block hO_13) (by simp [Value.oneCell']) (by unfold maxLen; omega) (by omega) (by have := HS.out.bel.size; have := hB.size; omega) ?_
        intro v' w1 hown' hgrow _
        obtain ⟨g', cap', rfl⟩ := ownsRow_succ hown'
        have HN : Hid (NV w n (k + 1) (.slice (some ⟨g', 0, none⟩) (k + 1) cap') w1) := by
          refine Lib.hid ⟨⟨xs ++ [highF L x y], by simp [HO.out.1], ?_, ?_⟩, Below.grown (belowTrans HS.out.bel hB) hgrow (by have := HS.out.bel.size; have := hB.size; omega) (fun b hb => (World.ownsRow.lt HO.out.2.1 b hb).1)⟩
          · rw [ofN_append, List.map_append]
            exact hown'
          · intro z hz
            rcases List.mem_append.1 hz with hz | hz
            · exact HO.out.2.2 z hz
            · rw [List.mem_singleton.1 hz]
              unfold highF
              split
              · exact HXY.out.2
              · exact HXY.out.1
        clear hown' hgrow hi hz0 hz1 hz2
        go_simp
        go_wp2_with fail
        exact ⟨⟨k + 1, _, hkN, by go_num, rfl, HN⟩, by simp [intOf]; omega⟩
    · have HK := Lib.hid (show N - m = k by omega)
      have hd : ¬ ((k : Int) + (m : Int) < (N : Int)) := by omega
      have hd2 : decide ((k : Int) + (m : Int) < (N : Int)) = false := decide_eq_false hd
      clear hkm
      go_wp2_with fail
      go_ret
      rw [HK.out]
      exact ⟨oa, oc, xs, rfl, HO.out.1, HO.out.2.1, HO.out.2.2, HS.out.bel⟩
end Go.Proofs.YtnnpeblpdkeffaaDoor.table
