/- Tries: Longest. -/
import Derived.Test.YteglhcpochcopaaTrieV
import Derived.Test.YteglhcpochcopaaTwo
import Derived.Test.YteglhcpochcopaaGrowT
namespace Go.Proofs.Yteglhcpochcopaa.trie
open Go.RowKit

/-- the longest one with which a text begins, shorter than i -/
def best (t : TT) (s : Wd) : Nat → Option (Wd × Int)
  | 0 => none
  | i + 1 => match get t (s.take i) with
    | some x => some (s.take i, x)
    | none => best t s i
theorem best_end {t : TT} {s : Wd} {i : Nat} (h : under t (s.take i) = .nil) : ∀ j, i ≤ j → best t s j = best t s i := by
  intro j
  induction j with
  | zero => intro hj; rw [show i = 0 by omega]
  | succ j ih =>
    intro hj
    rcases Nat.eq_or_lt_of_le hj with e | e
    · rw [e]
    · have hg : get t (s.take j) = none := by
        have e : s.take j = s.take i ++ (s.take j).drop i := by
          have h1 := (List.take_append_drop i (s.take j)).symm
          rw [List.take_take, Nat.min_eq_left (by omega)] at h1
          exact h1
        unfold get
        rw [e, under_app, h, under_nil]
        rfl
      rw [show best t s (j + 1) = best t s j by simp only [best, hg]]
      exact ih (by omega)
theorem best_none {t : TT} {s : Wd} {i : Nat} {k : UInt8 → TT} (h : TT.node none k = under t (s.take i)) : best t s (i + 1) = best t s i := by
  have hg : get t (s.take i) = none := by unfold get; rw [← h]; rfl
  simp only [best, hg]
theorem best_some {t : TT} {s : Wd} {i : Nat} {y : Int} {k : UInt8 → TT} (h : TT.node (some y) k = under t (s.take i)) : best t s (i + 1) = some (s.take i, y) := by
  have hg : get t (s.take i) = some y := by unfold get; rw [← h]; rfl
  simp only [best, hg]
def textOf (o : Option (Wd × Int)) : Wd := match o with
  | some p => p.1
  | none => []
def numOf (o : Option (Wd × Int)) : Int := match o with
  | some p => p.2
  | none => 0
def bw (u : Wd) : ByteArray := ⟨u.toArray⟩
theorem sv_bw (u : Wd) : sv u = .string (bw u) := rfl
/-- what Longest leaves -/
def RetL (w : World) (o : Option (Wd × Int)) (e : Ending) (w' : World) : Prop := e = .returned (.tuple #[.agg #[sv (textOf o), .int .i64 (numOf o)], .bool o.isSome]) ∧ Below w.heap.size w w'
theorem take_succ_under (t : TT) (s : Wd) (i : Nat) (h : i < s.length) : under t (s.take (i + 1)) = (under t (s.take i)).kid (s.getD i 0) := by
  rw [List.take_succ_eq_append_getElem h, under_app, List.getD_eq_getElem?_getD, List.getElem?_eq_getElem h]
  rfl
theorem two_set2 {w : World} {b : Nat} {u v u' v' : Value} {t : Nat} (h : w.heap[b]? = some (.cells #[u, v] t (0, 0))) : ((w.setCell ⟨b, 0, none⟩ u').setCell ⟨b, 1, none⟩ v').heap[b]? = some (.cells #[u', v'] t (0, 0)) := two_set h

set_option maxRecDepth 100000 in
set_option maxHeartbeats 8000000 in
theorem Longest_any (w : World) (p : Option Addr) (t : TT) (s : Wd) (h : In w t p) (hs : s.length < 9223372036854775807) :
    Calls Try.prog 10 #[.agg #[.pointer p], sv s] w (RetL w (best t s (s.length + 1))) := by
  obtain ⟨R, hR⟩ : ∃ R, R = best t s (s.length + 1) := ⟨_, rfl⟩
  rw [← hR]
  have h1 := belowTrans (belowAlloc w (.cells #[.pointer p] 26)) (belowAlloc _ (.cells #[.string { data := #[] }, .int .i64 0] 29))
  have hz := heapNew2 w (.cells #[.pointer p] 26) (.cells #[.string { data := #[] }, .int .i64 0] 29)
  have hz0 := heapNew1 w (.cells #[.pointer p] 26) (.cells #[.string { data := #[] }, .int .i64 0] 29)
  obtain ⟨W, hW⟩ : ∃ W, W = (w.alloc (.cells #[.pointer p] 26)).alloc (.cells #[.string { data := #[] }, .int .i64 0] 29) := ⟨_, rfl⟩
  rw [← hW] at h1 hz hz0
  have kz := cell_of_one hz0
  obtain ⟨N, hN⟩ : ∃ N, N = s.length := ⟨_, rfl⟩
  have H0 : Hid (In w (under t (s.take 0)) p ∧ Below w.heap.size w W ∧ W.heap[w.heap.size + 1]? = some (.cells #[sv (textOf (best t s 0)), .int .i64 (numOf (best t s 0))] 29 (0, 0))) := Lib.hid ⟨h, h1, hz⟩
  have HR := Lib.hid (And.intro hR hN)
  obtain ⟨xs, hxs⟩ : ∃ xs, xs = sv s := ⟨_, rfl⟩
  have hln := fun ty W => sv_len s ty W
  have hix : ∀ i, i < s.length → ∀ W, (Instr.index 9 (sv s) (.int .i64 (i : Int))).run Try.prog W = .ok (bv (s.getD i 0)) W := fun i hi W => by rw [sv_at s i hi W]; simp [List.getD_eq_getElem?_getD, hi]
  have htk := fun i (hi : i ≤ s.length) W => sv_take s i hi W
  simp only [← hxs, ← hN] at hln hix htk
  rw [← hxs]
  have HX := Lib.hid (And.intro hix htk)
  have HW := Lib.hid hW
  rw [← hN] at hs
  clear hW hz hz0 h1 h hxs hR hN hix htk
  go_enter Try.func10, Try.ntmps10
  go_wp2_with fail
  rw [← HW.out]
  go_wp2_with fail
  go_loopw [5, 6, 7] (fun hv nv iv wr => ∃ (i : Nat) (p' : Option Addr) (o : Option (Wd × Int)), hv = .bool o.isSome ∧ nv = .pointer p' ∧ iv = .int .i64 (i : Nat) ∧ i ≤ N ∧ Hid (In w (under t (s.take i)) p' ∧ Below w.heap.size w wr ∧ o = best t s i ∧ wr.heap[w.heap.size + 1]? = some (.cells #[sv (textOf o), .int .i64 (numOf o)] 29 (0, 0)))) (fun _ _ iv _ => N + 1 - (intOf iv).toNat)
  case atStart => exact ⟨0, p, none, rfl, rfl, rfl, Nat.zero_le _, Lib.hid ⟨H0.out.1, H0.out.2.1, rfl, H0.out.2.2⟩⟩
  case round =>
    obtain ⟨i, p', o, rfl, rfl, rfl, hi, HS⟩ := hrel
    clear H0
    obtain ⟨u, hu⟩ : ∃ u, u = under t (s.take i) := ⟨_, rfl⟩
    have hin := HS.out.1
    rw [← hu] at hin
    have HU := Lib.hid hu
    clear hu
    obtain ⟨x, hx⟩ : ∃ x, x = bw (textOf o) := ⟨_, rfl⟩
    have hbx := HS.out.2.2.2
    rw [sv_bw, ← hx] at hbx
    have k0 := two_c0 hbx
    have k1 := two_c1 hbx
    have f0 := two_f (o := 0) hbx
    have f1 := two_f (o := 1) hbx
    have Hx := Lib.hid hx
    have Hbx := Lib.hid hbx
    clear hx hbx
    cases u with
    | nil =>
      obtain rfl : p' = none := hin
      have hRo : R = o := by rw [HR.out.1, HS.out.2.2.1]; exact best_end HU.out.symm _ (by have := HR.out.2; omega)
      have HRo := Lib.hid hRo
      clear hRo
      go_wp2_with fail
      have hst := two_set2 (u' := .string x) (v' := .int .i64 (numOf o)) Hbx.out
      have kr0 := two_c0 hst
      have kr1 := two_c1 hst
      have hBe : Below w.heap.size w ((wr.setCell ⟨w.heap.size + 1, 0, none⟩ (.string x)).setCell ⟨w.heap.size + 1, 1, none⟩ (.int .i64 (numOf o))) := belowSet2 HS.out.2.1 (Nat.le_succ _) _ _
      refine bodyPost_ret (v := .tuple #[.agg #[.string x, .int .i64 (numOf o)], .bool o.isSome]) (by simp only [results, Try.results10]; simp [go_sem, kr0, kr1]) rfl ?_
      rw [HRo.out]; exact ⟨by rw [sv_bw, ← Hx.out], hBe⟩
    | node v k =>
      obtain ⟨b, mo, f, rfl, hb, hm, hk⟩ := hin
      cases v with
      | none =>
        have c2 := nodeC2 (upb HS.out.2.1 hb)
        rw [show (none : Option Int).isSome = false from rfl] at c2
        have HI : Hid (In w (.node none k) (some ⟨b, 0, none⟩)) := Lib.hid ⟨b, mo, f, rfl, hb, hm, hk⟩
        have HB := Lib.hid HS.out.2.1
        have HO : Hid (o = best t s (i + 1)) := Lib.hid (HS.out.2.2.1.trans (best_none HU.out).symm)
        have HXX := Hx
        have HBX := Hbx
        clear hb hm hk HS
        by_cases hiN : i = N
        · subst hiN
          have hRo : R = o := by rw [HR.out.1, ← HR.out.2]; exact HO.out.symm
          have HRo := Lib.hid hRo
          clear hRo
          go_wp2_with fail
          have hst := two_set2 (u' := .string x) (v' := .int .i64 (numOf o)) HBX.out
          have kr0 := two_c0 hst
          have kr1 := two_c1 hst
          have hBe : Below w.heap.size w ((wr.setCell ⟨w.heap.size + 1, 0, none⟩ (.string x)).setCell ⟨w.heap.size + 1, 1, none⟩ (.int .i64 (numOf o))) := belowSet2 HB.out (Nat.le_succ _) _ _
          refine bodyPost_ret (v := .tuple #[.agg #[.string x, .int .i64 (numOf o)], .bool o.isSome]) (by simp only [results, Try.results10]; simp [go_sem, kr0, kr1]) rfl ?_
          rw [HRo.out]; exact ⟨by rw [sv_bw, ← HXX.out], hBe⟩
        · have hil : i < N := by omega
          have hne : ((i : Int) == (N : Int)) = false := by rw [beq_eq_false_iff_ne]; omega
          obtain ⟨b2, mo2, ff, e2, hb, hm, hk⟩ := HI.out
          obtain rfl : b = b2 := by injection e2 with e2; injection e2
          clear e2
          obtain ⟨cv, hcv⟩ : ∃ cv, cv = bv (s.getD i 0) := ⟨_, rfl⟩
          have hx1 := HX.out.1 i hil
          rw [← hcv] at hx1
          have hlk : ∀ W, Below w.heap.size w W → (Instr.lookup 48 (.map mo2) cv false).run Try.prog W = .ok (.pointer (ff (s.getD i 0))) W := fun W hW => by rw [hcv]; exact look (hm.up hW) _
          have hl1 := hlk _ HB.out
          have hl2 := hlk _ HB.out.drew
          have c3 := nodeC3 (upb HB.out hb)
          have hw1 : IntKind.i64.wrap ((i : Int) + 1) = (i : Int) + 1 := IntWalk.i64_in _ (by omega)
          have HN : Hid (In w (under t (s.take (i + 1))) (ff (s.getD i 0)) ∧ Below w.heap.size w wr.drew ∧ o = best t s (i + 1) ∧ wr.drew.heap[w.heap.size + 1]? = some (.cells #[sv (textOf (o)), .int .i64 (numOf (o))] 29 (0, 0))) := Lib.hid ⟨by rw [take_succ_under t s i (by have := HR.out.2; omega), ← HU.out]; exact hk _, HB.out.drew, HO.out, by have h := HBX.out; rw [HXX.out] at h; exact h⟩
          obtain ⟨pk, hpk⟩ : ∃ pk, pk = ff (s.getD i 0) := ⟨_, rfl⟩
          simp only [← hpk] at hl1 hl2 HN
          clear hb hm hk hcv hlk hpk hiN
          go_wp2_with fail
          go_still_tail 8, (by kernel_rfl)
          change wpList _ _ _ _ _ wr.drew
          go_wp2_with fail
          go_roundw
          case rel => exact ⟨i + 1, pk, o, rfl, rfl, by go_num, hil, HN⟩
          case measure => simp [intOf]; omega
      | some y =>
        have c2 := nodeC2 (upb HS.out.2.1 hb)
        have c0 := nodeC0 (upb HS.out.2.1 hb)
        rw [show (some y).isSome = true from rfl] at c2
        rw [show (some y).getD 0 = y from rfl] at c0
        have HIN : Hid (In w (.node (some y) k) (some ⟨b, 0, none⟩)) := Lib.hid ⟨b, mo, f, rfl, hb, hm, hk⟩
        clear hb hm hk k0 k1 f0 f1
        obtain ⟨B, hB0⟩ : ∃ B, B = bw (s.take i) := ⟨_, rfl⟩
        have htk := HX.out.2 i hi
        rw [sv_bw, ← hB0] at htk
        have HBW := Lib.hid hB0
        clear hB0
        go_wp2_with fail
        refine grow.wp_grow_tail 8 [grow.kEq (xs), grow.kEq (.int .i64 (i : Nat)), grow.kEq (.string B), grow.kEq (.pointer (some ⟨b, 0, none⟩)), grow.kEq (.pointer (some ⟨b, 0, none⟩)), grow.kEq (.pointer (some ⟨b, 0, none⟩)), grow.kEq (.int .i64 y), grow.kEq (.agg #[.string B, .int .i64 y])] (of_decide_eq_true (by kernel_rfl)) (by kernel_rfl) (by kernel_rfl) (by kernel_rfl) (by kernel_rfl) (by kernel_rfl) ?step ?fin
        case step =>
          refine grow.EachT.cons ?_ ?_
          · intro A W hB hs hJ K hK
            have s0 := hs 1 (by kernel_rfl)
            simp at s0
            rw [if_pos (by rfl)]
            clear hs hJ
            go_simp
            exact hK _ _ (Below.refl _ _) rfl
          refine grow.EachT.cons ?_ ?_
          · intro A W hB hs hJ K hK
            have s0 := hs 7 (by kernel_rfl)
            simp at s0
            rw [if_pos (by rfl)]
            clear hs hJ
            go_simp
            exact hK _ _ (Below.refl _ _) rfl
          refine grow.EachT.cons ?_ ?_
          · intro A W hB hs hJ K hK
            have s0 : A.tmps.getD 18 undef = xs := hJ 0 18 (by kernel_rfl) (by kernel_rfl)
            simp at s0
            have s1 : A.tmps.getD 19 undef = .int .i64 (i : Nat) := hJ 1 19 (by kernel_rfl) (by kernel_rfl)
            simp at s1
            rw [if_pos (by rfl)]
            clear hs hJ
            go_simp
            exact hK _ _ (Below.refl _ _) rfl
          refine grow.EachT.cons ?_ ?_
          · intro A W hB hs hJ K hK
            have s0 := hs 6 (by kernel_rfl)
            simp at s0
            rw [if_pos (by rfl)]
            clear hs hJ
            go_simp
            exact hK _ _ (Below.refl _ _) rfl
          refine grow.EachT.cons ?_ ?_
          · intro A W hB hs hJ K hK
            have s0 : A.tmps.getD 21 undef = .pointer (some ⟨b, 0, none⟩) := hJ 3 21 (by kernel_rfl) (by kernel_rfl)
            simp at s0
            rw [if_pos (by rfl)]
            clear hs hJ
            go_simp
            exact hK _ _ (Below.refl _ _) rfl
          refine grow.EachT.cons ?_ ?_
          · intro A W hB hs hJ K hK
            have s0 : A.tmps.getD 22 undef = .pointer (some ⟨b, 0, none⟩) := hJ 4 22 (by kernel_rfl) (by kernel_rfl)
            simp at s0
            rw [if_pos (by rfl)]
            clear hs hJ
            go_simp
            exact hK _ _ (Below.refl _ _) rfl
          refine grow.EachT.cons ?_ ?_
          · intro A W hB hs hJ K hK
            have s0 : A.tmps.getD 23 undef = .pointer (some ⟨b, 0, none⟩) := hJ 5 23 (by kernel_rfl) (by kernel_rfl)
            simp at s0
            have kk := upc hB c0
            rw [if_pos (by rfl)]
            clear hs hJ
            go_simp
            exact hK _ _ (Below.refl _ _) rfl
          refine grow.EachT.cons ?_ ?_
          · intro A W hB hs hJ K hK
            have s0 : A.tmps.getD 20 undef = .string B := hJ 2 20 (by kernel_rfl) (by kernel_rfl)
            simp at s0
            have s1 : A.tmps.getD 24 undef = .int .i64 y := hJ 6 24 (by kernel_rfl) (by kernel_rfl)
            simp at s1
            rw [if_pos (by rfl)]
            clear hs hJ
            go_simp
            exact hK _ _ (Below.refl _ _) rfl
          exact grow.EachT.nil
        case fin =>
          intro f W hB hF
          have f0 : f 0 = xs := hF 0 (by decide)
          have f1 : f 1 = .int .i64 (i : Nat) := hF 1 (by decide)
          have f2 : f 2 = .string B := hF 2 (by decide)
          have f3 : f 3 = .pointer (some ⟨b, 0, none⟩) := hF 3 (by decide)
          have f4 : f 4 = .pointer (some ⟨b, 0, none⟩) := hF 4 (by decide)
          have f5 : f 5 = .pointer (some ⟨b, 0, none⟩) := hF 5 (by decide)
          have f6 : f 6 = .int .i64 y := hF 6 (by decide)
          have f7 : f 7 = .agg #[.string B, .int .i64 y] := hF 7 (by decide)
          clear hF
          intro A hA
          simp only [grow.puts, Act.put, List.getElem?_toArray, List.getElem?_cons_zero, List.getElem?_cons_succ, Option.bind_some, List.setIfInBounds_toArray, List.set_cons_zero, List.set_cons_succ, f0, f1, f2, f3, f4, f5, f6, f7] at hA
          subst hA
          simp only [List.drop_succ_cons, List.drop_zero]
          have hbx6 := upb hB Hbx.out
          have f0 := two_f (o := 0) hbx6
          have f1 := two_f (o := 1) hbx6
          have z0 := two_c0 hbx6
          have z1 := two_c1 hbx6
          obtain ⟨W6, hW6⟩ : ∃ V, V = ((W.setCell ⟨w.heap.size + 1, 0, none⟩ (.string B)).setCell ⟨w.heap.size + 1, 1, none⟩ (.int .i64 (y))) := ⟨_, rfl⟩
          have hB6 : Below w.heap.size w W6 := by rw [hW6]; exact belowSet2 (belowTrans HS.out.2.1 hB) (Nat.le_succ _) _ _
          have hx6 : W6.heap[w.heap.size + 1]? = some (.cells #[.string B, .int .i64 y] 29 (0, 0)) := by rw [hW6]; exact two_set2 hbx6
          have HI : Hid (In w (.node (some y) k) (some ⟨b, 0, none⟩)) := Lib.hid HIN.out
          have HB := Lib.hid hB6
          have HBX := Lib.hid hx6
          have HXX : Hid (B = bw (textOf (some (s.take i, y)))) := HBW
          have HO : Hid (some (s.take i, y) = best t s (i + 1)) := Lib.hid (best_some HU.out).symm
          have HW6 := Lib.hid hW6
          have k0 := two_c0 hx6
          have k1 := two_c1 hx6
          have q0 := two_f (o := 0) hx6
          have q1 := two_f (o := 1) hx6
          clear hW6 hB6 hx6 hbx6 hB HS HIN HBW
          by_cases hiN : i = N
          · subst hiN
            have hRo : R = some (s.take i, y) := by rw [HR.out.1, ← HR.out.2]; exact HO.out.symm
            have HRo := Lib.hid hRo
            clear hRo
            go_wp2_with fail
            rw [← HW6.out]
            clear HW6 f0 f1 z0 z1
            go_wp2_with fail
            have hst := two_set2 (u' := .string B) (v' := .int .i64 (y)) HBX.out
            have kr0 := two_c0 hst
            have kr1 := two_c1 hst
            have hBe : Below w.heap.size w ((W6.setCell ⟨w.heap.size + 1, 0, none⟩ (.string B)).setCell ⟨w.heap.size + 1, 1, none⟩ (.int .i64 (y))) := belowSet2 HB.out (Nat.le_succ _) _ _
            refine bodyPost_ret (v := .tuple #[.agg #[.string B, .int .i64 (y)], .bool true]) (by simp only [results, Try.results10]; simp [go_sem, kr0, kr1]) rfl ?_
            rw [HRo.out]; exact ⟨by rw [sv_bw, ← HXX.out]; rfl, hBe⟩
          · have hil : i < N := by omega
            have hne : ((i : Int) == (N : Int)) = false := by rw [beq_eq_false_iff_ne]; omega
            obtain ⟨b2, mo2, ff, e2, hb, hm, hk⟩ := HI.out
            obtain rfl : b = b2 := by injection e2 with e2; injection e2
            clear e2
            obtain ⟨cv, hcv⟩ : ∃ cv, cv = bv (s.getD i 0) := ⟨_, rfl⟩
            have hx1 := HX.out.1 i hil
            rw [← hcv] at hx1
            have hlk : ∀ W, Below w.heap.size w W → (Instr.lookup 48 (.map mo2) cv false).run Try.prog W = .ok (.pointer (ff (s.getD i 0))) W := fun W hW => by rw [hcv]; exact look (hm.up hW) _
            have hl1 := hlk _ HB.out
            have hl2 := hlk _ HB.out.drew
            have c3 := nodeC3 (upb HB.out hb)
            have hw1 : IntKind.i64.wrap ((i : Int) + 1) = (i : Int) + 1 := IntWalk.i64_in _ (by omega)
            have HN : Hid (In w (under t (s.take (i + 1))) (ff (s.getD i 0)) ∧ Below w.heap.size w W6.drew ∧ some (s.take i, y) = best t s (i + 1) ∧ W6.drew.heap[w.heap.size + 1]? = some (.cells #[sv (textOf (some (s.take i, y))), .int .i64 (numOf (some (s.take i, y)))] 29 (0, 0))) := Lib.hid ⟨by rw [take_succ_under t s i (by have := HR.out.2; omega), ← HU.out]; exact hk _, HB.out.drew, HO.out, by have h := HBX.out; rw [HXX.out] at h; exact h⟩
            obtain ⟨pk, hpk⟩ : ∃ pk, pk = ff (s.getD i 0) := ⟨_, rfl⟩
            simp only [← hpk] at hl1 hl2 HN
            clear hb hm hk hcv hlk hpk hiN
            go_wp2_with fail
            rw [← HW6.out]
            clear HW6 f0 f1 z0 z1
            go_wp2_with fail
            go_still_tail 8, (by kernel_rfl)
            change wpList _ _ _ _ _ W6.drew
            go_wp2_with fail
            go_roundw
            case rel => exact ⟨i + 1, pk, some (s.take i, y), rfl, rfl, by go_num, hil, HN⟩
            case measure => simp [intOf]; omega
end Go.Proofs.Yteglhcpochcopaa.trie
