/- None is longer. -/
import Derived.Test.YteglhcpochcopaaTrieK
namespace Go.Proofs.Yteglhcpochcopaa.trie
open Go.RowKit

/-- a slice that reads as words -/
def ReadsS (w : World) (a : Option Addr) (l : List Wd) : Prop := l = [] ∨ ∃ b o, a = some ⟨b, o, none⟩ ∧ ∀ i, i < l.length → w.cell? ⟨b, o + i, none⟩ = some (sv (l.getD i []))
theorem ReadsS.at {w : World} {a : Option Addr} {l : List Wd} (h : ReadsS w a l) {j : Nat} (hj : j < l.length) : ∃ b o, a = some ⟨b, o, none⟩ ∧ w.cell? ⟨b, o + j, none⟩ = some (sv (l.getD j [])) := by
  rcases h with h | ⟨b, o, e, h⟩
  · rw [h] at hj; simp at hj
  · exact ⟨b, o, e, h j hj⟩
/-- words put one after another, each with its place -/
def fillN (l : List Wd) : Nat → TT
  | 0 => .nil
  | j + 1 => put (fillN l j) (l.getD j []) (j : Int)
theorem fillN_cnt (l : List Wd) (j : Nat) : cnt (fillN l j) ≤ j := by
  induction j with
  | zero => simp [fillN]
  | succ j ih => have := cnt_put (fillN l j) (l.getD j []) (j : Int); simp only [fillN]; omega
theorem fillN_ok (l : List Wd) (j : Nat) : Ok (fillN l j) := by
  induction j with
  | zero => exact trivial
  | succ j ih => exact ok_put ih
theorem fillN_has (l : List Wd) {i j : Nat} (h : i < j) : (get (fillN l j) (l.getD i [])).isSome = true := by
  induction j with
  | zero => omega
  | succ j ih =>
    simp only [fillN]
    rw [get_put]
    split
    · rfl
    · rename_i hne
      refine ih ?_
      have : i ≠ j := by rintro rfl; exact hne rfl
      omega
theorem best_form {t : TT} {s : Wd} : ∀ {N : Nat} {p : Wd × Int}, best t s N = some p → ∃ j, j < N ∧ p.1 = s.take j ∧ get t p.1 = some p.2 := by
  intro N
  induction N with
  | zero => intro p h; cases h
  | succ N ih =>
    intro p h
    simp only [best] at h
    split at h
    · rename_i x hx
      cases h
      exact ⟨N, Nat.lt_succ_self _, rfl, hx⟩
    · obtain ⟨j, hj, h2⟩ := ih h
      exact ⟨j, by omega, h2⟩
theorem starts_take (s : Wd) (j : Nat) : startsB s (s.take j) = true := by
  unfold startsB
  rw [List.length_take]
  have h : s.take (min j s.length) = s.take j := by rw [← List.take_take, List.take_length]
  rw [h]
  simp
  omega
theorem starts_iff {s u : Wd} (h : startsB s u = true) : u.length ≤ s.length ∧ s.take u.length = u := by
  unfold startsB at h
  simpa using h
theorem best_max {t : TT} {s u : Wd} (hs : startsB s u = true) (hg : (get t u).isSome = true) : ∀ {N : Nat}, u.length < N → ∃ p, best t s N = some p ∧ u.length ≤ p.1.length := by
  obtain ⟨hl, he⟩ := starts_iff hs
  intro N
  induction N with
  | zero => intro h; omega
  | succ N ih =>
    intro h
    simp only [best]
    cases hx : get t (s.take N) with
    | some x =>
      refine ⟨_, rfl, ?_⟩
      simp only [List.length_take]
      omega
    | none =>
      have : u.length ≠ N := by
        intro e
        rw [← e, he] at hx
        rw [hx] at hg
        cases hg
      exact ih (by omega)
theorem best_self {t : TT} {s : Wd} {x : Int} (h : get t s = some x) : best t s (s.length + 1) = some (s, x) := by
  simp only [best, List.take_length, h]

/-- a trie in a box -/
structure St (w : World) (G : Nat) (t : TT) (p : Option Addr) (W : World) : Prop where
  bel : Below w.heap.size w W
  g : w.heap.size ≤ G
  b0 : W.heap[G]? = some (.cells #[.pointer p] 26 (0, 0))
  h0 : In W t p
theorem St.up {w : World} {G : Nat} {t : TT} {p : Option Addr} {W W' : World} (h : St w G t p W) (hb : Below W.heap.size W W') : St w G t p W' :=
  ⟨h.bel.trans (hb.mono h.bel.size), h.g, upb hb h.b0, h.h0.up hb⟩
theorem St.set {w : World} {G : Nat} {t t' : TT} {p p' : Option Addr} {W : World} (h : St w G t p W) (hp : In W t' p') : St w G t' p' (W.setCell ⟨G, 0, none⟩ (.pointer p')) :=
  ⟨belowSet (a := ⟨G, 0, none⟩) h.bel h.g _, h.g, one_setCell h.b0, In.store (k := G) (off := 0) h.b0 (by decide) hp⟩
def kTrieV (t : TT) : grow.Kept := ⟨fun x W => ∃ p, x = .agg #[.pointer p] ∧ In W t p, fun _ _ _ hb ⟨p, e, h⟩ => ⟨p, e, h.up hb⟩⟩

set_option maxRecDepth 100000 in
set_option maxHeartbeats 16000000 in
theorem longest_law (a : Option Addr) (c n : Nat) (l : List Wd) (s u : Wd) (w : World) (hn : l.length = n) (hb : n < 140737488355328) (hs : s.length < 140737488355328) (hr : ReadsS w a l) :
    Calls Try.prog 3 #[.slice a n c, sv s, sv u] w (Yes w) := by
  have HA := Lib.hid (And.intro hn (And.intro hs hr))
  obtain ⟨xs, hxs⟩ : ∃ xs, xs = bw s := ⟨_, rfl⟩
  obtain ⟨us, hus⟩ : ∃ us, us = bw u := ⟨_, rfl⟩
  rw [sv_bw, sv_bw, ← hxs, ← hus]
  have HX := Lib.hid (And.intro hxs hus)
  clear hn hs hr hxs hus
  go_enter Try.func3, Try.ntmps3
  go_wp2_with fail
  refine (worded_any w).mono ?_
  rintro e w1 ⟨rfl, hb1⟩
  have hst0 : St w w1.heap.size .nil none (w1.alloc (.cells #[.pointer none] 26)) := ⟨belowTrans hb1 (belowAlloc w1 _), hb1.size, heap_alloc_new w1 _, rfl⟩
  have HI : Hid (∃ p, St w w1.heap.size (fillN l 0) p (w1.alloc (.cells #[.pointer none] 26))) := Lib.hid ⟨none, hst0⟩
  have HG := Lib.hid hb1.size
  obtain ⟨G, hG⟩ : ∃ G, G = w1.heap.size := ⟨_, rfl⟩
  clear hst0 hb1
  go_wp2_with fail
  rw [← hG] at HI HG ⊢
  clear hG
  go_loopw [9] (fun iv wr => ∃ j : Nat, iv = .int .i64 j ∧ j ≤ n ∧ Hid (∃ p, St w G (fillN l j) p wr)) (fun iv _ => n - (intOf iv).toNat)
  case atStart => exact ⟨0, rfl, Nat.zero_le _, HI⟩
  case round =>
    obtain ⟨j, rfl, hj, HS⟩ := hrel
    have j0 : (0 : Int) ≤ (j : Int) := by omega
    clear HI
    rcases Nat.lt_or_ge j n with hlt | hge
    · obtain ⟨p, hst⟩ := HS.out
      obtain ⟨ab, ao, rfl, hcell⟩ := HA.out.2.2.at (j := j) (by rw [HA.out.1]; exact hlt)
      have hlt' : (j : Int) < (n : Int) := by omega
      have hw1 : IntKind.i64.wrap ((j : Int) + 1) = (j : Int) + 1 := IntWalk.i64_in _ (by omega)
      have k0 := cell_of_one hst.b0
      obtain ⟨y, hy⟩ : ∃ y, y = l.getD j [] := ⟨_, rfl⟩
      have hk1 := upc hst.bel hcell
      rw [← hy] at hk1
      have HP := Lib.hid (fun W (hW : Below wr.heap.size wr W) => Put_any W p (fillN l j) y (j : Int) (hst.h0.up hW) (by have := fillN_cnt l j; omega))
      obtain ⟨ys, hys⟩ : ∃ ys, ys = sv y := ⟨_, rfl⟩
      rw [← hys] at HP hk1
      have HST := Lib.hid hst
      have HY := Lib.hid hy
      have HC := Lib.hid (And.intro k0 hk1)
      clear hst hcell hy hys HS
      go_wp2_with fail
      refine grow.wp_grow_last 7 _ [grow.kEq (.agg #[.pointer p]), grow.kEq (.slice (some ⟨ab, ao, none⟩) n c), grow.kEq (.int .i64 (j : Nat)), grow.kEq (.pointer (some ⟨ab, ao + j, none⟩)), grow.kEq (ys), grow.kEq (.int .i64 (j : Nat)), kTrieV (put (fillN l j) y (j : Int))] rfl rfl rfl (by kernel_rfl) (by kernel_rfl) (by kernel_rfl) (by kernel_rfl) (by kernel_rfl) ?step ?fin
      case step =>
        refine grow.EachL.cons ?_ ?_
        · intro A W hB hs hJ K hK
          have s0 := hs 8 (by kernel_rfl)
          simp at s0
          have kk := upc hB HC.out.1
          rw [if_pos (by rfl)]
          clear hs hJ
          go_simp
          exact hK _ _ (Below.refl _ _) rfl
        refine grow.EachL.cons ?_ ?_
        · intro A W hB hs hJ K hK
          have s0 := hs 0 (by kernel_rfl)
          simp at s0
          rw [if_pos (by rfl)]
          clear hs hJ
          go_simp
          exact hK _ _ (Below.refl _ _) rfl
        refine grow.EachL.cons ?_ ?_
        · intro A W hB hs hJ K hK
          have s0 := hs 9 (by kernel_rfl)
          simp at s0
          rw [if_pos (by rfl)]
          clear hs hJ
          go_simp
          exact hK _ _ (Below.refl _ _) rfl
        refine grow.EachL.cons ?_ ?_
        · intro A W hB hs hJ K hK
          have s0 : A.tmps.getD 27 undef = .slice (some ⟨ab, ao, none⟩) n c := hJ 1 27 (by kernel_rfl) (by kernel_rfl)
          simp at s0
          have s1 : A.tmps.getD 28 undef = .int .i64 (j : Nat) := hJ 2 28 (by kernel_rfl) (by kernel_rfl)
          simp at s1
          rw [if_pos (by rfl)]
          clear hs hJ
          go_simp
          exact hK _ _ (Below.refl _ _) rfl
        refine grow.EachL.cons ?_ ?_
        · intro A W hB hs hJ K hK
          have s0 : A.tmps.getD 29 undef = .pointer (some ⟨ab, ao + j, none⟩) := hJ 3 29 (by kernel_rfl) (by kernel_rfl)
          simp at s0
          have kk := upc hB HC.out.2
          rw [if_pos (by rfl)]
          clear hs hJ
          go_simp
          exact hK _ _ (Below.refl _ _) rfl
        refine grow.EachL.cons ?_ ?_
        · intro A W hB hs hJ K hK
          have s0 := hs 9 (by kernel_rfl)
          simp at s0
          rw [if_pos (by rfl)]
          clear hs hJ
          go_simp
          exact hK _ _ (Below.refl _ _) rfl
        refine grow.EachL.cons ?_ ?_
        · intro A W hB hs hJ K hK
          have s0 : A.tmps.getD 26 undef = .agg #[.pointer p] := hJ 0 26 (by kernel_rfl) (by kernel_rfl)
          simp at s0
          have s1 : A.tmps.getD 30 undef = ys := hJ 4 30 (by kernel_rfl) (by kernel_rfl)
          simp at s1
          have s2 : A.tmps.getD 31 undef = .int .i64 (j : Nat) := hJ 5 31 (by kernel_rfl) (by kernel_rfl)
          simp at s2
          rw [if_pos (by rfl)]
          clear hs hJ
          go_simp
          go_at_call 9
          refine (HP.out W hB).mono ?_
          rintro e W2 ⟨q1, rfl, hq1, hb1⟩
          exact hK _ _ hb1 ⟨q1, rfl, hq1⟩
        exact grow.EachL.nil
      case fin =>
        intro f W hB hF
        have f0 : f 0 = .agg #[.pointer p] := hF 0 (by decide)
        have f1 : f 1 = .slice (some ⟨ab, ao, none⟩) n c := hF 1 (by decide)
        have f2 : f 2 = .int .i64 (j : Nat) := hF 2 (by decide)
        have f3 : f 3 = .pointer (some ⟨ab, ao + j, none⟩) := hF 3 (by decide)
        have f4 : f 4 = ys := hF 4 (by decide)
        have f5 : f 5 = .int .i64 (j : Nat) := hF 5 (by decide)
        obtain ⟨p1_6, f6, h1_6⟩ := hF 6 (by decide)
        clear hF
        intro A hA
        simp only [grow.puts, Act.put, List.getElem?_toArray, List.getElem?_cons_zero, List.getElem?_cons_succ, Option.bind_some, List.setIfInBounds_toArray, List.set_cons_zero, List.set_cons_succ, f0, f1, f2, f3, f4, f5, f6] at hA
        subst hA
        have hs7 := HST.out.up hB
        have c7 := cell_of_one hs7.b0
        have f7 := free_of_one hs7.b0
        have HE2 : Hid (∃ p, St w G (fillN l (j + 1)) p (W.setCell ⟨G, 0, none⟩ (.pointer p1_6))) := Lib.hid ⟨p1_6, by rw [show fillN l (j + 1) = put (fillN l j) (l.getD j []) (j : Int) from rfl, ← HY.out]; exact hs7.set h1_6⟩
        clear hs7 h1_6 hB HST HC HP
        go_simp
        go_wp2_with fail
        go_roundw
        case rel => exact ⟨j + 1, by go_num, hlt, HE2⟩
        case measure => simp [intOf]; omega
    · obtain rfl : n = j := by omega
      obtain ⟨p, hst⟩ := HS.out
      clear HS
      obtain ⟨T, hT⟩ : ∃ T, T = fillN l n := ⟨_, rfl⟩
      rw [← hT] at hst
      have hTc : cnt T ≤ n := by rw [hT]; exact fillN_cnt l n
      have hTg : ∀ i, i < n → (get T (l.getD i [])).isSome = true := fun i hi => by rw [hT]; exact fillN_has l hi
      have k0 := cell_of_one hst.b0
      obtain ⟨R, hR⟩ : ∃ R, R = best T s (s.length + 1) := ⟨_, rfl⟩
      have HL := Lib.hid (Longest_any wr p T s hst.h0 (by have := HA.out.2.1; omega))
      rw [← hR, sv_bw, ← HX.out.1] at HL
      have HR := Lib.hid hR
      have HT := Lib.hid (And.intro hTc hTg)
      have HST0 := Lib.hid hst
      clear hT hTc hTg hR hst j0 hge
      cases R with
      | none =>
        unfold RetL textOf numOf at HL
        simp only [Option.isSome_none] at HL
        rw [sv_bw] at HL
        obtain ⟨B, hB⟩ : ∃ B, B = bw [] := ⟨_, rfl⟩
        rw [← hB] at HL
        go_wp2_with fail
        refine HL.out.mono ?_
        rintro e w2 ⟨rfl, hb2⟩
        clear HL k0
        have hst2 := HST0.out.up hb2
        clear HST0 hb2
        obtain ⟨W3, hW3⟩ : ∃ V, V = w2.alloc (.cells #[.string B, .int .i64 0] 29) := ⟨_, rfl⟩
        have hb3 := belowAlloc w2 (.cells #[.string B, .int .i64 0] 29)
        have hx3 := heap_alloc_new w2 (.cells #[.string B, .int .i64 0] 29)
        obtain ⟨H, hH⟩ : ∃ H, H = w2.heap.size := ⟨_, rfl⟩
        rw [← hW3, ← hH] at hx3
        rw [← hW3] at hb3
        have hst3 := hst2.up hb3
        have HB := Lib.hid hB
        have HW3 := Lib.hid hW3
        have HI : Hid (St w G T p W3 ∧ W3.heap[H]? = some (.cells #[.string B, .int .i64 0] 29 (0, 0))) := Lib.hid ⟨hst3, hx3⟩
        have HH := Lib.hid hH
        clear hB hW3 hb3 hx3 hst2 hst3 hH
        go_wp2_with fail
        rw [← HW3.out, ← HH.out]
        clear HW3 HH
        go_loopw [12] (fun iv wr' => ∃ j : Nat, iv = .int .i64 j ∧ j ≤ n ∧ Hid (St w G T p wr' ∧ wr'.heap[H]? = some (.cells #[.string B, .int .i64 0] 29 (0, 0)))) (fun iv _ => n - (intOf iv).toNat)
        case atStart => exact ⟨0, rfl, Nat.zero_le _, HI⟩
        case round =>
          obtain ⟨j, rfl, hj, HS⟩ := hrel
          have j0 : (0 : Int) ≤ (j : Int) := by omega
          clear HI
          rcases Nat.lt_or_ge j n with hlt | hge
          · obtain ⟨ab, ao, rfl, hcell⟩ := HA.out.2.2.at (j := j) (by rw [HA.out.1]; exact hlt)
            have hlt' : (j : Int) < (n : Int) := by omega
            have hw1 : IntKind.i64.wrap ((j : Int) + 1) = (j : Int) + 1 := IntWalk.i64_in _ (by omega)
            obtain ⟨y, hy⟩ : ∃ y, y = l.getD j [] := ⟨_, rfl⟩
            have k2 := upc HS.out.1.bel hcell
            rw [← hy] at k2
            have hgy : (get T y).isSome = true := by rw [hy]; exact HT.out.2 j hlt
            have k1 := two_c0 HS.out.2
            have HSt := Lib.hid (fun W => Starts_any W s y)
            rw [sv_bw] at k2
            have hnl := fun ty W => sv_len y ty W
            have hql := fun ty W => sv_len [] ty W
            simp only [sv_bw, ← HX.out.1] at HSt hnl hql
            rw [← HB.out] at hql
            obtain ⟨Y, hY⟩ : ∃ Y, Y = bw y := ⟨_, rfl⟩
            simp only [← hY] at k2 HSt hnl
            clear hcell hY hy
            cases hsb : startsB s y with
            | false =>
              simp only [hsb] at HSt
              clear hsb hgy
              go_wp2_with fail
              go_quiet ((go_at_call 11; exact quietOf (HSt.out _)))
              have HN : Hid (St w G T p (wr.drewN nq) ∧ (wr.drewN nq).heap[H]? = some (.cells #[.string B, .int .i64 0] 29 (0, 0))) := Lib.hid ⟨HS.out.1.up (belowDrewN _ _), HS.out.2⟩
              go_wp2_with fail
              go_roundw
              case rel => exact ⟨j + 1, by go_num, hlt, HN⟩
              case measure => simp [intOf]; omega
            | true =>
              simp only [hsb] at HSt
              exfalso
              obtain ⟨p9, e9, _⟩ := best_max hsb hgy (N := s.length + 1) (by have := (starts_iff hsb).1; omega)
              rw [← HR.out] at e9
              cases e9
          · obtain rfl : n = j := by omega
            obtain ⟨hst, -⟩ := HS.out
            clear HS j0
            have k0 := cell_of_one hst.b0
            have HP1 := Lib.hid (Put_any wr p T s 7 hst.h0 (by have := HT.out.1; omega))
            rw [sv_bw, ← HX.out.1] at HP1
            have HST := Lib.hid hst
            clear hst
            go_wp2_with fail
            refine HP1.out.mono ?_
            rintro e w4 ⟨p4, rfl, h4, hb4⟩
            clear HP1 k0
            have HL1 := Lib.hid (Longest_any w4 p4 (put T s 7) s h4 (by have := HA.out.2.1; omega))
            rw [best_self (x := 7) (by rw [get_put, if_pos rfl])] at HL1
            unfold RetL textOf numOf at HL1
            simp only [Option.isSome_some] at HL1
            simp only [sv_bw, ← HX.out.1] at HL1
            have HST4 := Lib.hid (HST.out.up hb4)
            clear HST h4 hb4
            go_wp2_with fail
            refine HL1.out.mono ?_
            rintro e w5 ⟨rfl, hb5⟩
            clear HL1
            have hst5 := HST4.out.up hb5
            clear HST4 hb5
            obtain ⟨W6, hW6⟩ : ∃ V, V = w5.alloc (.cells #[.string xs, .int .i64 7] 29) := ⟨_, rfl⟩
            have hb6 := belowAlloc w5 (.cells #[.string xs, .int .i64 7] 29)
            have hx6 := heap_alloc_new w5 (.cells #[.string xs, .int .i64 7] 29)
            obtain ⟨J, hJ⟩ : ∃ H, H = w5.heap.size := ⟨_, rfl⟩
            rw [← hW6, ← hJ] at hx6
            rw [← hW6] at hb6
            have hst6 := hst5.up hb6
            have k0 := cell_of_one (hst5.up hb6).b0
            rw [hW6] at k0
            have HW6 := Lib.hid (And.intro hW6 hJ)
            have HP2 := Lib.hid (Put_any W6 p T u 7 hst6.h0 (by have := HT.out.1; omega))
            rw [sv_bw, ← HX.out.2] at HP2
            have HX6 := Lib.hid hx6
            have HST6 := Lib.hid hst6
            clear hW6 hJ hb6 hx6 hst5 hst6
            go_wp2_with fail
            rw [← HW6.out.1, ← HW6.out.2]
            clear HW6
            refine HP2.out.mono ?_
            rintro e w7 ⟨p7, rfl, h7, hb7⟩
            clear HP2 k0
            have HG1 := Lib.hid (Get_any w7 p7 (put T u 7) u h7 (some 7) (by rw [get_put, if_pos rfl]))
            rw [sv_bw, ← HX.out.2] at HG1
            unfold RetV at HG1
            simp only [Option.isSome_some, Option.getD_some] at HG1
            have HX7 := Lib.hid (upb hb7 HX6.out)
            have HST7 := Lib.hid (HST6.out.up hb7)
            clear h7 hb7 HX6 HST6
            go_wp2_with fail
            refine HG1.out.mono ?_
            rintro e w8 ⟨rfl, hb8⟩
            clear HG1
            have hx8 := upb hb8 HX7.out
            have z0 := two_c0 hx8
            have z1 := two_c1 hx8
            have HF := Lib.hid (HST7.out.up hb8).bel
            clear hx8 hb8 HX7 HST7
            go_wp2_with fail
            go_ret
            exact ⟨rfl, HF.out⟩
      | some q =>
        unfold RetL textOf numOf at HL
        simp only [Option.isSome_some] at HL
        rw [sv_bw] at HL
        obtain ⟨B, hB⟩ : ∃ B, B = bw q.1 := ⟨_, rfl⟩
        rw [← hB] at HL
        go_wp2_with fail
        refine HL.out.mono ?_
        rintro e w2 ⟨rfl, hb2⟩
        clear HL k0
        have hst2 := HST0.out.up hb2
        clear HST0 hb2
        obtain ⟨W3, hW3⟩ : ∃ V, V = w2.alloc (.cells #[.string B, .int .i64 q.2] 29) := ⟨_, rfl⟩
        have hb3 := belowAlloc w2 (.cells #[.string B, .int .i64 q.2] 29)
        have hx3 := heap_alloc_new w2 (.cells #[.string B, .int .i64 q.2] 29)
        obtain ⟨H, hH⟩ : ∃ H, H = w2.heap.size := ⟨_, rfl⟩
        rw [← hW3, ← hH] at hx3
        rw [← hW3] at hb3
        have hst3 := hst2.up hb3
        have HB := Lib.hid hB
        have HW3 := Lib.hid hW3
        have HI : Hid (St w G T p W3 ∧ W3.heap[H]? = some (.cells #[.string B, .int .i64 q.2] 29 (0, 0))) := Lib.hid ⟨hst3, hx3⟩
        have k1 := two_c0 hx3
        have HSt := Lib.hid (Starts_any W3 s q.1)
        have hsq : startsB s q.1 = true := by
          obtain ⟨j, _, e, _⟩ := best_form HR.out.symm
          rw [e]
          exact starts_take s j
        rw [hsq, sv_bw, sv_bw, ← HX.out.1, ← HB.out] at HSt
        clear hsq
        have HH := Lib.hid hH
        clear hB hW3 hb3 hx3 hst2 hst3 hH
        go_wp2_with fail
        rw [← HW3.out, ← HH.out]
        refine HSt.out.mono ?_
        rintro e w4 ⟨rfl, rfl⟩
        clear HSt k1
        go_wp2_with fail
        clear HW3 HH
        go_loopw [12] (fun iv wr' => ∃ j : Nat, iv = .int .i64 j ∧ j ≤ n ∧ Hid (St w G T p wr' ∧ wr'.heap[H]? = some (.cells #[.string B, .int .i64 q.2] 29 (0, 0)))) (fun iv _ => n - (intOf iv).toNat)
        case atStart => exact ⟨0, rfl, Nat.zero_le _, HI⟩
        case round =>
          obtain ⟨j, rfl, hj, HS⟩ := hrel
          have j0 : (0 : Int) ≤ (j : Int) := by omega
          clear HI
          rcases Nat.lt_or_ge j n with hlt | hge
          · obtain ⟨ab, ao, rfl, hcell⟩ := HA.out.2.2.at (j := j) (by rw [HA.out.1]; exact hlt)
            have hlt' : (j : Int) < (n : Int) := by omega
            have hw1 : IntKind.i64.wrap ((j : Int) + 1) = (j : Int) + 1 := IntWalk.i64_in _ (by omega)
            obtain ⟨y, hy⟩ : ∃ y, y = l.getD j [] := ⟨_, rfl⟩
            have k2 := upc HS.out.1.bel hcell
            rw [← hy] at k2
            have hgy : (get T y).isSome = true := by rw [hy]; exact HT.out.2 j hlt
            have k1 := two_c0 HS.out.2
            have HSt := Lib.hid (fun W => Starts_any W s y)
            rw [sv_bw] at k2
            have hnl := fun ty W => sv_len y ty W
            have hql := fun ty W => sv_len q.1 ty W
            simp only [sv_bw, ← HX.out.1] at HSt hnl hql
            rw [← HB.out] at hql
            obtain ⟨Y, hY⟩ : ∃ Y, Y = bw y := ⟨_, rfl⟩
            simp only [← hY] at k2 HSt hnl
            clear hcell hY hy
            cases hsb : startsB s y with
            | false =>
              simp only [hsb] at HSt
              clear hsb hgy
              go_wp2_with fail
              go_quiet ((go_at_call 11; exact quietOf (HSt.out _)))
              have HN : Hid (St w G T p (wr.drewN nq) ∧ (wr.drewN nq).heap[H]? = some (.cells #[.string B, .int .i64 q.2] 29 (0, 0))) := Lib.hid ⟨HS.out.1.up (belowDrewN _ _), HS.out.2⟩
              go_wp2_with fail
              go_roundw
              case rel => exact ⟨j + 1, by go_num, hlt, HN⟩
              case measure => simp [intOf]; omega
            | true =>
              simp only [hsb] at HSt
              have hcmp : ¬ ((q.1.length : Int) < (y.length : Int)) := by
                obtain ⟨p9, e9, h9⟩ := best_max hsb hgy (N := s.length + 1) (by have := (starts_iff hsb).1; omega)
                rw [← HR.out] at e9
                cases e9
                omega
              clear hsb hgy
              go_wp2_with fail
              go_quiet ((go_at_call 11; exact quietOf (HSt.out _)))
              have HN : Hid (St w G T p (wr.drewN nq) ∧ (wr.drewN nq).heap[H]? = some (.cells #[.string B, .int .i64 q.2] 29 (0, 0))) := Lib.hid ⟨HS.out.1.up (belowDrewN _ _), HS.out.2⟩
              go_wp2_with fail
              go_roundw
              case rel => exact ⟨j + 1, by go_num, hlt, HN⟩
              case measure => simp [intOf]; omega
          · obtain rfl : n = j := by omega
            obtain ⟨hst, -⟩ := HS.out
            clear HS j0
            have k0 := cell_of_one hst.b0
            have HP1 := Lib.hid (Put_any wr p T s 7 hst.h0 (by have := HT.out.1; omega))
            rw [sv_bw, ← HX.out.1] at HP1
            have HST := Lib.hid hst
            clear hst
            go_wp2_with fail
            refine HP1.out.mono ?_
            rintro e w4 ⟨p4, rfl, h4, hb4⟩
            clear HP1 k0
            have HL1 := Lib.hid (Longest_any w4 p4 (put T s 7) s h4 (by have := HA.out.2.1; omega))
            rw [best_self (x := 7) (by rw [get_put, if_pos rfl])] at HL1
            unfold RetL textOf numOf at HL1
            simp only [Option.isSome_some] at HL1
            simp only [sv_bw, ← HX.out.1] at HL1
            have HST4 := Lib.hid (HST.out.up hb4)
            clear HST h4 hb4
            go_wp2_with fail
            refine HL1.out.mono ?_
            rintro e w5 ⟨rfl, hb5⟩
            clear HL1
            have hst5 := HST4.out.up hb5
            clear HST4 hb5
            obtain ⟨W6, hW6⟩ : ∃ V, V = w5.alloc (.cells #[.string xs, .int .i64 7] 29) := ⟨_, rfl⟩
            have hb6 := belowAlloc w5 (.cells #[.string xs, .int .i64 7] 29)
            have hx6 := heap_alloc_new w5 (.cells #[.string xs, .int .i64 7] 29)
            obtain ⟨J, hJ⟩ : ∃ H, H = w5.heap.size := ⟨_, rfl⟩
            rw [← hW6, ← hJ] at hx6
            rw [← hW6] at hb6
            have hst6 := hst5.up hb6
            have k0 := cell_of_one (hst5.up hb6).b0
            rw [hW6] at k0
            have HW6 := Lib.hid (And.intro hW6 hJ)
            have HP2 := Lib.hid (Put_any W6 p T u 7 hst6.h0 (by have := HT.out.1; omega))
            rw [sv_bw, ← HX.out.2] at HP2
            have HX6 := Lib.hid hx6
            have HST6 := Lib.hid hst6
            clear hW6 hJ hb6 hx6 hst5 hst6
            go_wp2_with fail
            rw [← HW6.out.1, ← HW6.out.2]
            clear HW6
            refine HP2.out.mono ?_
            rintro e w7 ⟨p7, rfl, h7, hb7⟩
            clear HP2 k0
            have HG1 := Lib.hid (Get_any w7 p7 (put T u 7) u h7 (some 7) (by rw [get_put, if_pos rfl]))
            rw [sv_bw, ← HX.out.2] at HG1
            unfold RetV at HG1
            simp only [Option.isSome_some, Option.getD_some] at HG1
            have HX7 := Lib.hid (upb hb7 HX6.out)
            have HST7 := Lib.hid (HST6.out.up hb7)
            clear h7 hb7 HX6 HST6
            go_wp2_with fail
            refine HG1.out.mono ?_
            rintro e w8 ⟨rfl, hb8⟩
            clear HG1
            have hx8 := upb hb8 HX7.out
            have z0 := two_c0 hx8
            have z1 := two_c1 hx8
            have HF := Lib.hid (HST7.out.up hb8).bel
            clear hx8 hb8 HX7 HST7
            go_wp2_with fail
            go_ret
            exact ⟨rfl, HF.out⟩
theorem longest_any (a : Option Addr) (c : Nat) (l : List Wd) (s u : Wd) (w : World) (hb : l.length * 16 ≤ 140737488351232) (hr : ReadsS w a l) (hs : s.length ≤ 140737488351232) (_hu : u.length ≤ 140737488351232) :
    Calls Try.prog 3 #[.slice a l.length c, sv s, sv u] w (Yes w) := longest_law a c l.length l s u w rfl (by omega) (by omega) hr
end Go.Proofs.Yteglhcpochcopaa.trie
