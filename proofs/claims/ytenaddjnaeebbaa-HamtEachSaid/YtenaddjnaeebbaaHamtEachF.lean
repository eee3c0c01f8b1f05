/- The functions of the law HamtEach. -/
import Derived.Test.YtenaddjnaeebbaaHamtE
import Derived.Test.YtenaddjnaeebbaaPatK
import Derived.BigQuiet
namespace Go.Proofs.Ytenaddjnaeebbaa.hamt
open Go.RowKit
open pat (PT OOk ocnt olist oput odrop oget tk I64 tk_lt tk_inj lk told Yes fill fill_snoc fill_ok fill_cnt oput_spec valued_told told_eq told_rising told_range)

def fA (a : Int) (k v : Int) : Int := wrap64 (wrap64 (a * v) + k)
def fB (b c : Int) (_k v : Int) : Int := wrap64 (wrap64 (b * v) + c)
set_option maxHeartbeats 400000 in
theorem f1_any (gA : Nat) (a : Int) (W0 : World) (h : W0.heap[gA]? = some (.cells #[.int .i64 a] 3 (0, 0))) : Fun W0 15 #[.pointer (some ⟨gA, 0, none⟩)] (fA a) := by
  intro k v W hW
  show Calls Try.prog 15 #[.int .i64 k, .int .i64 v, .pointer (some ⟨gA, 0, none⟩)] W _
  have k0 := cell_of_one (upb hW h)
  clear h hW
  go_enter Try.func15, Try.ntmps15
  go_wp2_with fail
  go_ret
  exact ⟨rfl, Below.refl _ _⟩
set_option maxHeartbeats 400000 in
theorem f2_any (gB gC : Nat) (b c : Int) (W0 : World) (h : W0.heap[gB]? = some (.cells #[.int .i64 b] 3 (0, 0))) (h' : W0.heap[gC]? = some (.cells #[.int .i64 c] 3 (0, 0))) : Fun W0 16 #[.pointer (some ⟨gB, 0, none⟩), .pointer (some ⟨gC, 0, none⟩)] (fB b c) := by
  intro k v W hW
  show Calls Try.prog 16 #[.int .i64 k, .int .i64 v, .pointer (some ⟨gB, 0, none⟩), .pointer (some ⟨gC, 0, none⟩)] W _
  have k0 := cell_of_one (upb hW h)
  have k1 := cell_of_one (upb hW h')
  clear h hW
  go_enter Try.func16, Try.ntmps16
  go_wp2_with fail
  go_ret
  exact ⟨rfl, Below.refl _ _⟩
-- MARK
set_option maxRecDepth 100000 in
set_option maxHeartbeats 2000000 in
theorem f3_any (gA gB gC gF gG : Nat) (a b c : Int) (W0 : World) (hA : W0.heap[gA]? = some (.cells #[.int .i64 a] 3 (0, 0))) (hB : W0.heap[gB]? = some (.cells #[.int .i64 b] 3 (0, 0))) (hC : W0.heap[gC]? = some (.cells #[.int .i64 c] 3 (0, 0)))
    (hF : W0.heap[gF]? = some (.cells #[.func (.func 15) #[] #[.pointer (some ⟨gA, 0, none⟩)]] 36 (0, 0))) (hG : W0.heap[gG]? = some (.cells #[.func (.func 16) #[] #[.pointer (some ⟨gB, 0, none⟩), .pointer (some ⟨gC, 0, none⟩)]] 36 (0, 0))) : Fun W0 18 #[.pointer (some ⟨gG, 0, none⟩), .pointer (some ⟨gF, 0, none⟩)] (fun k v => fB b c k (fA a k v)) := by
  intro k v W hW
  show Calls Try.prog 18 #[.int .i64 k, .int .i64 v, .pointer (some ⟨gG, 0, none⟩), .pointer (some ⟨gF, 0, none⟩)] W _
  have kG := cell_of_one (upb hW hG)
  have kF := cell_of_one (upb hW hF)
  obtain ⟨x, hx⟩ : ∃ x, x = fA a k v := ⟨_, rfl⟩
  obtain ⟨y, hy⟩ : ∃ y, y = fB b c k x := ⟨_, rfl⟩
  have H1 : Hid (∀ V, Below W.heap.size W V → Calls Try.prog 15 #[.int .i64 k, .int .i64 v, .pointer (some ⟨gA, 0, none⟩)] V fun e W' => e = .returned (.int .i64 x) ∧ Below V.heap.size V W') := Lib.hid fun V hV => by rw [hx]; exact f1_any gA a W0 hA k v V (hW.trans (hV.mono hW.size))
  have H2 : Hid (∀ V, Below W.heap.size W V → Calls Try.prog 16 #[.int .i64 k, .int .i64 x, .pointer (some ⟨gB, 0, none⟩), .pointer (some ⟨gC, 0, none⟩)] V fun e W' => e = .returned (.int .i64 y) ∧ Below V.heap.size V W') := Lib.hid fun V hV => by rw [hy]; exact f2_any gB gC b c W0 hB hC k x V (hW.trans (hV.mono hW.size))
  show Calls _ _ _ _ fun e W' => e = .returned (.int .i64 (fB b c k (fA a k v))) ∧ _
  rw [← hx, ← hy]
  clear hx hy hA hB hC hF hG hW
  go_enter Try.func18, Try.ntmps18
  go_wp2_with fail
  refine grow.wp_grow_last 7 _ [grow.kEq (.func (.func 16) #[] #[.pointer (some ⟨gB, 0, none⟩), .pointer (some ⟨gC, 0, none⟩)]), grow.kEq (.int .i64 k), grow.kEq (.func (.func 15) #[] #[.pointer (some ⟨gA, 0, none⟩)]), grow.kEq (.int .i64 k), grow.kEq (.int .i64 v), grow.kEq (.int .i64 x), grow.kEq (.int .i64 y)] rfl rfl rfl (by kernel_rfl) (by kernel_rfl) (by kernel_rfl) (by kernel_rfl) (by kernel_rfl) ?step ?fin
  case step =>
    refine grow.EachL.cons ?_ ?_
    · intro A W2 hB hs hJ K hK
      have s0 := hs 2 (by kernel_rfl)
      simp at s0
      have kk := upc hB kG
      rw [if_pos (by rfl)]
      clear hs hJ
      go_simp
      exact hK _ _ (Below.refl _ _) rfl
    refine grow.EachL.cons ?_ ?_
    · intro A W2 hB hs hJ K hK
      have s0 := hs 0 (by kernel_rfl)
      simp at s0
      rw [if_pos (by rfl)]
      clear hs hJ
      go_simp
      exact hK _ _ (Below.refl _ _) rfl
    refine grow.EachL.cons ?_ ?_
    · intro A W2 hB hs hJ K hK
      have s0 := hs 3 (by kernel_rfl)
      simp at s0
      have kk := upc hB kF
      rw [if_pos (by rfl)]
      clear hs hJ
      go_simp
      exact hK _ _ (Below.refl _ _) rfl
    refine grow.EachL.cons ?_ ?_
    · intro A W2 hB hs hJ K hK
      have s0 := hs 0 (by kernel_rfl)
      simp at s0
      rw [if_pos (by rfl)]
      clear hs hJ
      go_simp
      exact hK _ _ (Below.refl _ _) rfl
    refine grow.EachL.cons ?_ ?_
    · intro A W2 hB hs hJ K hK
      have s0 := hs 1 (by kernel_rfl)
      simp at s0
      rw [if_pos (by rfl)]
      clear hs hJ
      go_simp
      exact hK _ _ (Below.refl _ _) rfl
    refine grow.EachL.cons ?_ ?_
    · intro A W2 hB hs hJ K hK
      have s0 : A.tmps.getD 9 undef = .func (.func 15) #[] #[.pointer (some ⟨gA, 0, none⟩)] := hJ 2 9 (by kernel_rfl) (by kernel_rfl)
      simp at s0
      have s1 : A.tmps.getD 10 undef = .int .i64 k := hJ 3 10 (by kernel_rfl) (by kernel_rfl)
      simp at s1
      have s2 : A.tmps.getD 11 undef = .int .i64 v := hJ 4 11 (by kernel_rfl) (by kernel_rfl)
      simp at s2
      rw [if_pos (by rfl)]
      clear hs hJ
      go_simp
      refine (H1.out W2 hB).mono ?_
      rintro e W3 ⟨rfl, hb2⟩
      exact hK _ _ hb2 rfl
    refine grow.EachL.cons ?_ ?_
    · intro A W2 hB hs hJ K hK
      have s0 : A.tmps.getD 7 undef = .func (.func 16) #[] #[.pointer (some ⟨gB, 0, none⟩), .pointer (some ⟨gC, 0, none⟩)] := hJ 0 7 (by kernel_rfl) (by kernel_rfl)
      simp at s0
      have s1 : A.tmps.getD 8 undef = .int .i64 k := hJ 1 8 (by kernel_rfl) (by kernel_rfl)
      simp at s1
      have s2 : A.tmps.getD 12 undef = .int .i64 x := hJ 5 12 (by kernel_rfl) (by kernel_rfl)
      simp at s2
      rw [if_pos (by rfl)]
      clear hs hJ
      go_simp
      refine (H2.out W2 hB).mono ?_
      rintro e W3 ⟨rfl, hb2⟩
      exact hK _ _ hb2 rfl
    exact grow.EachL.nil
  case fin =>
    intro f W hB hF
    have f0 : f 0 = .func (.func 16) #[] #[.pointer (some ⟨gB, 0, none⟩), .pointer (some ⟨gC, 0, none⟩)] := hF 0 (by decide)
    have f1 : f 1 = .int .i64 k := hF 1 (by decide)
    have f2 : f 2 = .func (.func 15) #[] #[.pointer (some ⟨gA, 0, none⟩)] := hF 2 (by decide)
    have f3 : f 3 = .int .i64 k := hF 3 (by decide)
    have f4 : f 4 = .int .i64 v := hF 4 (by decide)
    have f5 : f 5 = .int .i64 x := hF 5 (by decide)
    have f6 : f 6 = .int .i64 y := hF 6 (by decide)
    clear hF
    intro A hA
    simp only [grow.puts, Act.put, List.getElem?_toArray, List.getElem?_cons_zero, List.getElem?_cons_succ, Option.bind_some, List.setIfInBounds_toArray, List.set_cons_zero, List.set_cons_succ, f0, f1, f2, f3, f4, f5, f6] at hA
    subst hA
    go_simp
    go_wp2_with fail
    go_ret
    exact ⟨rfl, hB⟩
end Go.Proofs.Ytenaddjnaeebbaa.hamt
