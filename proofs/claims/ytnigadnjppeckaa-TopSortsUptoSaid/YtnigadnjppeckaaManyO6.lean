/- Package finger, many things (ord): Find. (Printed by mm.py.) -/
import Derived.Test.YtnigadnjppeckaaManyO5
import Derived.Test.YtnigadnjppeckaaGrowT
import Derived.Test.YtnigadnjppeckaaGrowD
namespace Go.Proofs.Ytnigadnjppeckaa.manyO
open Go.RowKit

/-- the place that Find tells: q is asked of what is ahead, so -/
def findT (q : S → Bool) : S → BT V → Nat
  | _, .nil => 0
  | so, .node x l r => if q (join so (sm l)) then findT q so l else if q (join (join so (sm l)) (one x)) then l.size else l.size + 1 + findT q (join (join so (sm l)) (one x)) r
theorem findT_le (q : S → Bool) (t : BT V) : ∀ so, findT q so t ≤ t.size := by
  induction t with
  | nil => intro so; exact Nat.le_refl _
  | node x l r ihl ihr =>
    intro so
    have h1 := ihl so
    have h2 := ihr (join (join so (sm l)) (one x))
    simp only [findT, BT.size]
    repeat' split
    all_goals omega
/-- where all together is so, and what is ahead is not, the place is one of the tree's -/
theorem findT_lt (q : S → Bool) (t : BT V) : ∀ so, q so = false → q (join so (sm t)) = true → findT q so t < t.size := by
  induction t with
  | nil =>
    intro so h1 h2
    rw [sm_nil, none_join, h1] at h2
    cases h2
  | node x l r ihl ihr =>
    intro so h1 h2
    simp only [findT, BT.size]
    by_cases e1 : q (join so (sm l)) = true
    · rw [if_pos e1]
      have := ihl so h1 e1
      omega
    · rw [if_neg e1]
      by_cases e2 : q (join (join so (sm l)) (one x)) = true
      · rw [if_pos e2]
        omega
      · rw [if_neg e2]
        have := ihr (join (join so (sm l)) (one x)) (Bool.eq_false_iff.2 e2) (by rw [sm_node, ← join_assoc, ← join_assoc] at h2; exact h2)
        omega
/-- a new box -/
def kBox (n : Nat) : grow.Kept := ⟨fun v W => ∃ g, v = .pointer (some ⟨g, 0, none⟩) ∧ n ≤ g ∧ W.heap[g]? = some (.cells #[.bool false, .int .i64 0] 101 (0, 0)), fun _ _ _ hb ⟨g, h1, h2, h3⟩ => ⟨g, h1, h2, upb hb h3⟩⟩
theorem HoldsSet {B k : Nat} {w : World} {p : Option Addr} {t : BT V} {c : Array Value} {fz : Nat × Nat} {u0 u1 : Value} {ty : Nat} (h : In B w p t) (hk : w.heap[k]? = some (.cells c ty fz)) (hne : ty ≠ 142) : In B ((w.setCell ⟨k, 0, none⟩ (u0)).setCell ⟨k, 1, none⟩ (u1)) p t := by
  induction t generalizing p with
  | nil => exact h
  | node a l r ihl ihr =>
    obtain ⟨b, pl, pr, rfl, hB, hc, hl, hr⟩ := h
    refine ⟨b, pl, pr, rfl, hB, Eq.trans ?_ hc, ihl hl, ihr hr⟩
    have hne2 : b ≠ k := by
      rintro rfl
      rw [hk] at hc
      cases hc
      exact hne rfl
    exact (Below.heap_setCell _ _ _ _ hne2).trans (Below.heap_setCell _ _ _ _ hne2)
theorem InUpS {S : List Nat} {B : Nat} {w w' : World} {p : Option Addr} {t : BT V} (h : In B w p t) (hS : ∀ b ∈ S, ∃ c ty fz, w.heap[b]? = some (.cells c ty fz) ∧ ty ≠ 142) (hb : grow.BelowS S w w') : In B w' p t := by
  induction t generalizing p with
  | nil => exact h
  | node a l r ihl ihr =>
    obtain ⟨b, pl, pr, rfl, hB, hc, hl, hr⟩ := h
    refine ⟨b, pl, pr, rfl, hB, hb.up (fun hm => ?_) hc, ihl hl, ihr hr⟩
    obtain ⟨c, ty, fz, h1, h2⟩ := hS b hm
    rw [hc] at h1
    cases h1
    exact h2 rfl
theorem heapSetOther {w : World} {b k : Nat} {u0 u1 : Value} (h : b ≠ k) : ((w.setCell ⟨k, 0, none⟩ (u0)).setCell ⟨k, 1, none⟩ (u1)).heap[b]? = w.heap[b]? :=
  (Below.heap_setCell _ _ _ _ h).trans (Below.heap_setCell _ _ _ _ h)
/-- between two rounds of Find: box bs holds what is told of all ahead, n nodes at most are still to be seen -/
def FRel (B : Nat) (w : World) (t : BT V) (q : S → Bool) (bs k a : Nat) (pn : Option Addr) (wr : World) : Prop :=
  ∃ (t1 : BT V) (so : S), k = t1.size ∧ In B wr pn t1 ∧ wr.heap[bs]? = some (.cells #[.bool (so).isSome, .int .i64 ((so).getD 0)] 101 (0, 0)) ∧ Below w.heap.size w wr ∧ a + findT q so t1 = findT q none t ∧ wr.heap[w.heap.size + 1]? = some (.cells #[] 103 (0, 0)) ∧ a + t1.size ≤ t.size ∧ w.heap.size + 1 < bs

/-- what the function says of a sum -/
def q_behind (x : Int) : S → Bool := fun s => match s with | none => false | some y => decide (x < y)
set_option maxHeartbeats 1000000 in
theorem p_behind (w : World) (b : Nat) (x : Int) (s : S) (h : w.heap[b]? = some (.cells #[.int .i64 x] 3 (0, 0))) :
    Calls Try.prog 80 #[.agg #[.bool (s).isSome, .int .i64 ((s).getD 0)], .pointer (some ⟨b, 0, none⟩)] w fun e w' => e = .returned (.bool (q_behind x s)) ∧ Below w.heap.size w w' := by
  have k0 : ∀ o : Obj, (w.alloc o).cell? ⟨b, 0, none⟩ = some (.int .i64 x) := fun o => by have hb := upb (belowAlloc w o) h; simp [World.cell?, hb]
  clear h
  cases s
  all_goals
    go_enter Try.func80, Try.ntmps80
    go_wp2_with fail
    go_ret
    exact ⟨rfl, belowAlloc _ _⟩

set_option maxRecDepth 100000 in
set_option maxHeartbeats 8000000 in
theorem Find_behind (B : Nat) (w : World) (p : Option Addr) (t : BT V) (bx : Nat) (x0 : Int) (_hB : B ≤ w.heap.size) (h : In B w p t) (hs : t.size ≤ 1152921504606820000) (hbx : w.heap[bx]? = some (.cells #[.int .i64 x0] 3 (0, 0))) :
    Calls Try.prog 79 #[.agg #[.pointer p], .func (.func 80) #[] #[.pointer (some ⟨bx, 0, none⟩)]] w fun e w' => e = .returned (.int .i64 ((findT (q_behind x0) none t : Nat) : Int)) ∧ Below w.heap.size w w' := by
  obtain ⟨q, hq⟩ : ∃ q, q = q_behind x0 := ⟨_, rfl⟩
  have HP : Hid (∀ W, Below w.heap.size w W → ∀ s, Calls Try.prog 80 #[.agg #[.bool (s).isSome, .int .i64 ((s).getD 0)], .pointer (some ⟨bx, 0, none⟩)] W fun e w' => e = .returned (.bool (q s)) ∧ Below W.heap.size W w') := Lib.hid (fun W hW s => by rw [hq]; exact p_behind W bx x0 s (upb hW hbx))
  rw [← hq]
  have hbb := belowTrans (belowAlloc w (.cells #[.pointer p] 40)) (belowAlloc _ (.cells #[] 103))
  have hem := heapNew2 w (.cells #[.pointer p] 40) (.cells #[] 103)
  have Hbb := Lib.hid hbb
  have Hem := Lib.hid hem
  have Hh := Lib.hid h
  have hm := mNone
  clear hq hbx hbb hem h
  go_enter Try.func79, Try.ntmps79
  go_wp2_with fail
  refine (None_any _).mono ?_
  rintro e w1 ⟨rfl, hb1⟩
  have kp := cell_of_one (upb hb1 (heapNew1 w (.cells #[.pointer p] 40) (.cells #[] 103)))
  have hb2 := belowTrans (belowTrans Hbb.out hb1) (belowAlloc w1 (.cells #[.bool false, .int .i64 0] 101))
  have kp2 := upc (belowAlloc w1 (.cells #[.bool false, .int .i64 0] 101)) kp
  have hso := heap_alloc_new w1 (.cells #[.bool false, .int .i64 0] 101)
  have hem2 := upb (belowAlloc w1 (.cells #[.bool false, .int .i64 0] 101)) (upb hb1 Hem.out)
  have hz1 := hb1.size
  simp only [World.size_alloc] at hz1
  have HL : Hid (FRel B w t q w1.heap.size t.size 0 p (w1.alloc (.cells #[.bool false, .int .i64 0] 101))) := Lib.hid ⟨t, none, rfl, Hh.out.up hb2, hso, hb2, by simp, hem2, by omega⟩
  clear hb1 hb2 hso hem2 Hem Hbb Hh hm kp
  go_wp2_with fail
  go_loopg [6, 8] t.size (fun k av nv wr => ∃ (a : Nat) (pn : Option Addr), av = .int .i64 (a : Nat) ∧ nv = .pointer pn ∧ Hid (FRel B w t q w1.heap.size k a pn wr))
  case atStart => exact ⟨0, p, rfl, rfl, HL⟩
  case round =>
    obtain ⟨a, pn, rfl, rfl, HR⟩ := hrel
    obtain ⟨t1, so, hk, hin, hso, hw, hfin, hem, hbd⟩ := HR.out
    cases t1 with
    | nil =>
      obtain rfl : pn = none := hin
      have hfa : findT q none t = a := by rw [← hfin]; simp [findT]
      have Hfa := Lib.hid hfa
      have Hw := Lib.hid hw
      clear HR hso hw hfin hem hk hfa
      go_wp2_with fail
      go_ret
      exact ⟨by rw [Hfa.out]; rfl, Hw.out⟩
    | node x l r =>
      obtain ⟨b, pl, pr, rfl, _, hb, hl, hr⟩ := hin
      simp only [BT.size] at hbd hk
      have kl := cl hb
      have kr := cr hb
      have kx0 := cv0 hb
      have ks0 := bc0 hso
      have ks1 := bc1 hso
      have Hbn := Lib.hid hb
      have Hl := Lib.hid hl
      have Hr := Lib.hid hr
      have Hso := Lib.hid hso
      have Hw := Lib.hid hw
      have Hem := Lib.hid hem
      have hfin := Lib.hid hfin
      have hzw : w1.heap.size < wr.heap.size := (Array.getElem?_eq_some_iff.1 hso).1
      clear HR hb hl hr hso hw hem
      by_cases eL : q (join so (sm l)) = true
      · have EL := Lib.hid eL
        clear eL
        go_wp2_with fail
        refine grow.wp_grow_tail 10 [grow.kEq (.agg #[]), grow.kEq (.iface 103 (.agg #[])), grow.kEq (.agg #[.bool (so).isSome, .int .i64 ((so).getD 0)]), grow.kEq (.pointer (some ⟨b, 0, none⟩)), grow.kEq (.pointer (some ⟨b, 0, none⟩)), grow.kEq (.pointer (some ⟨b, 4, none⟩)), grow.kEq (.pointer pl), grow.kEq (.agg #[.bool (sm l).isSome, .int .i64 ((sm l).getD 0)]), grow.kEq (.agg #[.bool (join so (sm l)).isSome, .int .i64 ((join so (sm l)).getD 0)]), kBox wr.heap.size] (of_decide_eq_true (by kernel_rfl)) (by kernel_rfl) (by kernel_rfl) (by kernel_rfl) (by kernel_rfl) (by kernel_rfl) ?step ?fin
        case step =>
          refine grow.EachT.cons ?_ ?_
          · intro A W hB hs hJ K hK
            have s0 := hs 5 (by kernel_rfl)
            simp at s0
            rw [if_pos (by rfl)]
            clear hs hJ
            go_simp
            exact hK _ _ (Below.refl _ _) rfl
          refine grow.EachT.cons ?_ ?_
          · intro A W hB hs hJ K hK
            have s0 : A.tmps.getD 18 undef = .agg #[] := hJ 0 18 (by kernel_rfl) (by kernel_rfl)
            simp at s0
            rw [if_pos (by rfl)]
            clear hs hJ
            go_simp
            exact hK _ _ (Below.refl _ _) rfl
          refine grow.EachT.cons ?_ ?_
          · intro A W hB hs hJ K hK
            have s0 := hs 7 (by kernel_rfl)
            simp at s0
            have kk0 := upc hB ks0
            have kk1 := upc hB ks1
            rw [if_pos (by rfl)]
            clear hs hJ
            go_simp
            exact hK _ _ (Below.refl _ _) rfl
          refine grow.EachT.cons ?_ ?_
          · intro A W hB hs hJ K hK
            have s0 := hs 8 (by kernel_rfl)
            simp at s0
            rw [if_pos (by rfl)]
            clear hs hJ
            go_simp
            exact hK _ _ (Below.refl _ _) rfl
          refine grow.EachT.cons ?_ ?_
          · intro A W hB hs hJ K hK
            have s0 : A.tmps.getD 21 undef = .pointer (some ⟨b, 0, none⟩) := hJ 3 21 (by kernel_rfl) (by kernel_rfl)
            simp at s0
            rw [if_pos (by rfl)]
            clear hs hJ
            go_simp
            exact hK _ _ (Below.refl _ _) rfl
          refine grow.EachT.cons ?_ ?_
          · intro A W hB hs hJ K hK
            have s0 : A.tmps.getD 22 undef = .pointer (some ⟨b, 0, none⟩) := hJ 4 22 (by kernel_rfl) (by kernel_rfl)
            simp at s0
            rw [if_pos (by rfl)]
            clear hs hJ
            go_simp
            exact hK _ _ (Below.refl _ _) rfl
          refine grow.EachT.cons ?_ ?_
          · intro A W hB hs hJ K hK
            have s0 : A.tmps.getD 23 undef = .pointer (some ⟨b, 4, none⟩) := hJ 5 23 (by kernel_rfl) (by kernel_rfl)
            simp at s0
            have kk := upc hB kl
            rw [if_pos (by rfl)]
            clear hs hJ
            go_simp
            exact hK _ _ (Below.refl _ _) rfl
          refine grow.EachT.cons ?_ ?_
          · intro A W hB hs hJ K hK
            have s0 : A.tmps.getD 24 undef = .pointer pl := hJ 6 24 (by kernel_rfl) (by kernel_rfl)
            simp at s0
            rw [if_pos (by rfl)]
            clear hs hJ
            go_simp
            go_at_call 117
            refine (total_any (Hl.out.up hB)).mono ?_
            rintro e W2 ⟨rfl, hbn⟩
            exact hK _ _ hbn rfl
          refine grow.EachT.cons ?_ ?_
          · intro A W hB hs hJ K hK
            have s0 : A.tmps.getD 19 undef = .iface 103 (.agg #[]) := hJ 1 19 (by kernel_rfl) (by kernel_rfl)
            simp at s0
            have s1 : A.tmps.getD 20 undef = .agg #[.bool (so).isSome, .int .i64 ((so).getD 0)] := hJ 2 20 (by kernel_rfl) (by kernel_rfl)
            simp at s1
            have s2 : A.tmps.getD 25 undef = .agg #[.bool (sm l).isSome, .int .i64 ((sm l).getD 0)] := hJ 7 25 (by kernel_rfl) (by kernel_rfl)
            simp at s2
            have hm := mJoin
            rw [if_pos (by rfl)]
            clear hs hJ
            go_simp
            refine (Join_any _ so (sm l)).mono ?_
            rintro e W2 ⟨rfl, hbn⟩
            exact hK _ _ hbn rfl
          refine grow.EachT.cons ?_ ?_
          · intro A W hB hs hJ K hK
            rw [if_pos (by rfl)]
            clear hs hJ
            go_simp
            exact hK _ _ (belowAlloc _ _) ⟨_, rfl, hB.size, heap_alloc_new _ _⟩
          exact grow.EachT.nil
        case fin =>
          intro f W hB hF
          have f0 : f 0 = .agg #[] := hF 0 (by decide)
          have f1 : f 1 = .iface 103 (.agg #[]) := hF 1 (by decide)
          have f2 : f 2 = .agg #[.bool (so).isSome, .int .i64 ((so).getD 0)] := hF 2 (by decide)
          have f3 : f 3 = .pointer (some ⟨b, 0, none⟩) := hF 3 (by decide)
          have f4 : f 4 = .pointer (some ⟨b, 0, none⟩) := hF 4 (by decide)
          have f5 : f 5 = .pointer (some ⟨b, 4, none⟩) := hF 5 (by decide)
          have f6 : f 6 = .pointer pl := hF 6 (by decide)
          have f7 : f 7 = .agg #[.bool (sm l).isSome, .int .i64 ((sm l).getD 0)] := hF 7 (by decide)
          have f8 : f 8 = .agg #[.bool (join so (sm l)).isSome, .int .i64 ((join so (sm l)).getD 0)] := hF 8 (by decide)
          obtain ⟨g_9, f9, hg_9, hk_9⟩ := hF 9 (by decide)
          clear hF
          intro A hA
          simp only [grow.puts, Act.put, List.getElem?_toArray, List.getElem?_cons_zero, List.getElem?_cons_succ, Option.bind_some, List.setIfInBounds_toArray, List.set_cons_zero, List.set_cons_succ, f0, f1, f2, f3, f4, f5, f6, f7, f8, f9] at hA
          subst hA
          simp only [List.drop_succ_cons, List.drop_zero]
          have k0 := bc0 hk_9; have k1 := bc1 hk_9; have f0 := bf (o := 0) hk_9; have f1 := bf (o := 1) hk_9
          go_wp2_with fail
          obtain ⟨W2, hW2⟩ : ∃ W2, W2 = ((W.setCell ⟨g_9, 0, none⟩ (.bool (join so (sm l)).isSome)).setCell ⟨g_9, 1, none⟩ (.int .i64 ((join so (sm l)).getD 0))) := ⟨_, rfl⟩
          rw [← hW2]
          have hb2 : Below wr.heap.size wr W2 := by rw [hW2]; exact belowSetS hB hg_9 (.bool (join so (sm l)).isSome) (.int .i64 ((join so (sm l)).getD 0))
          have hL2 : W2.heap[g_9]? = some (.cells #[.bool (join so (sm l)).isSome, .int .i64 ((join so (sm l)).getD 0)] 101 (0, 0)) := by rw [hW2]; exact bset hk_9
          clear hW2 hB hk_9 hg_9 k0 f0 k1 f1
          have HpL := Lib.hid (HP.out W2 (belowTrans Hw.out hb2) (join so (sm l)))
          rw [EL.out] at HpL
          have kL0 := bc0 hL2
          have kL1 := bc1 hL2
          have HL2 := Lib.hid hL2
          have Hb2 := Lib.hid hb2
          clear hL2 hb2
          go_wp2_with fail
          refine HpL.out.mono ?_
          rintro e W3 ⟨rfl, hb3⟩
          have Hb3 := Lib.hid (belowTrans Hb2.out hb3)
          have HL3 := Lib.hid (upb hb3 HL2.out)
          clear hb3 HpL kL0 kL1
          replace kl := upc Hb3.out kl
          replace kr := upc Hb3.out kr
          replace kx0 := upc Hb3.out kx0
          replace ks0 := upc Hb3.out ks0
          replace ks1 := upc Hb3.out ks1
          replace Hl := Lib.hid (Hl.out.up Hb3.out)
          replace Hr := Lib.hid (Hr.out.up Hb3.out)
          have Hs3 := Lib.hid (upb Hb3.out Hso.out)
          have He3 := Lib.hid (upb Hb3.out Hem.out)
          have Hw3 := Lib.hid (belowTrans Hw.out Hb3.out)
          have hz3 := Hb3.out.size
          replace Hbn := Lib.hid (upb Hb3.out Hbn.out)
          clear HL2 Hb2
          go_wp2_with fail
          go_roundg (l.size)
          case measure => omega
          case rel => exact ⟨a, pl, rfl, rfl, Lib.hid ⟨l, so, rfl, Hl.out, Hs3.out, Hw3.out, by rw [← hfin.out, findT, EL.out]; simp, He3.out, by omega⟩⟩
      · have EL := Lib.hid (Bool.eq_false_iff.2 eL)
        clear eL
        by_cases eK : q (join (join so (sm l)) (one x)) = true
        · have EK := Lib.hid eK
          clear eK
          go_wp2_with fail
          refine grow.wp_grow_tail 10 [grow.kEq (.agg #[]), grow.kEq (.iface 103 (.agg #[])), grow.kEq (.agg #[.bool (so).isSome, .int .i64 ((so).getD 0)]), grow.kEq (.pointer (some ⟨b, 0, none⟩)), grow.kEq (.pointer (some ⟨b, 0, none⟩)), grow.kEq (.pointer (some ⟨b, 4, none⟩)), grow.kEq (.pointer pl), grow.kEq (.agg #[.bool (sm l).isSome, .int .i64 ((sm l).getD 0)]), grow.kEq (.agg #[.bool (join so (sm l)).isSome, .int .i64 ((join so (sm l)).getD 0)]), kBox wr.heap.size] (of_decide_eq_true (by kernel_rfl)) (by kernel_rfl) (by kernel_rfl) (by kernel_rfl) (by kernel_rfl) (by kernel_rfl) ?step ?fin
          case step =>
            refine grow.EachT.cons ?_ ?_
            · intro A W hB hs hJ K hK
              have s0 := hs 5 (by kernel_rfl)
              simp at s0
              rw [if_pos (by rfl)]
              clear hs hJ
              go_simp
              exact hK _ _ (Below.refl _ _) rfl
            refine grow.EachT.cons ?_ ?_
            · intro A W hB hs hJ K hK
              have s0 : A.tmps.getD 18 undef = .agg #[] := hJ 0 18 (by kernel_rfl) (by kernel_rfl)
              simp at s0
              rw [if_pos (by rfl)]
              clear hs hJ
              go_simp
              exact hK _ _ (Below.refl _ _) rfl
            refine grow.EachT.cons ?_ ?_
            · intro A W hB hs hJ K hK
              have s0 := hs 7 (by kernel_rfl)
              simp at s0
              have kk0 := upc hB ks0
              have kk1 := upc hB ks1
              rw [if_pos (by rfl)]
              clear hs hJ
              go_simp
              exact hK _ _ (Below.refl _ _) rfl
            refine grow.EachT.cons ?_ ?_
            · intro A W hB hs hJ K hK
              have s0 := hs 8 (by kernel_rfl)
              simp at s0
              rw [if_pos (by rfl)]
              clear hs hJ
              go_simp
              exact hK _ _ (Below.refl _ _) rfl
            refine grow.EachT.cons ?_ ?_
            · intro A W hB hs hJ K hK
              have s0 : A.tmps.getD 21 undef = .pointer (some ⟨b, 0, none⟩) := hJ 3 21 (by kernel_rfl) (by kernel_rfl)
              simp at s0
              rw [if_pos (by rfl)]
              clear hs hJ
              go_simp
              exact hK _ _ (Below.refl _ _) rfl
            refine grow.EachT.cons ?_ ?_
            · intro A W hB hs hJ K hK
              have s0 : A.tmps.getD 22 undef = .pointer (some ⟨b, 0, none⟩) := hJ 4 22 (by kernel_rfl) (by kernel_rfl)
              simp at s0
              rw [if_pos (by rfl)]
              clear hs hJ
              go_simp
              exact hK _ _ (Below.refl _ _) rfl
            refine grow.EachT.cons ?_ ?_
            · intro A W hB hs hJ K hK
              have s0 : A.tmps.getD 23 undef = .pointer (some ⟨b, 4, none⟩) := hJ 5 23 (by kernel_rfl) (by kernel_rfl)
              simp at s0
              have kk := upc hB kl
              rw [if_pos (by rfl)]
              clear hs hJ
              go_simp
              exact hK _ _ (Below.refl _ _) rfl
            refine grow.EachT.cons ?_ ?_
            · intro A W hB hs hJ K hK
              have s0 : A.tmps.getD 24 undef = .pointer pl := hJ 6 24 (by kernel_rfl) (by kernel_rfl)
              simp at s0
              rw [if_pos (by rfl)]
              clear hs hJ
              go_simp
              go_at_call 117
              refine (total_any (Hl.out.up hB)).mono ?_
              rintro e W2 ⟨rfl, hbn⟩
              exact hK _ _ hbn rfl
            refine grow.EachT.cons ?_ ?_
            · intro A W hB hs hJ K hK
              have s0 : A.tmps.getD 19 undef = .iface 103 (.agg #[]) := hJ 1 19 (by kernel_rfl) (by kernel_rfl)
              simp at s0
              have s1 : A.tmps.getD 20 undef = .agg #[.bool (so).isSome, .int .i64 ((so).getD 0)] := hJ 2 20 (by kernel_rfl) (by kernel_rfl)
              simp at s1
              have s2 : A.tmps.getD 25 undef = .agg #[.bool (sm l).isSome, .int .i64 ((sm l).getD 0)] := hJ 7 25 (by kernel_rfl) (by kernel_rfl)
              simp at s2
              have hm := mJoin
              rw [if_pos (by rfl)]
              clear hs hJ
              go_simp
              refine (Join_any _ so (sm l)).mono ?_
              rintro e W2 ⟨rfl, hbn⟩
              exact hK _ _ hbn rfl
            refine grow.EachT.cons ?_ ?_
            · intro A W hB hs hJ K hK
              rw [if_pos (by rfl)]
              clear hs hJ
              go_simp
              exact hK _ _ (belowAlloc _ _) ⟨_, rfl, hB.size, heap_alloc_new _ _⟩
            exact grow.EachT.nil
          case fin =>
            intro f W hB hF
            have f0 : f 0 = .agg #[] := hF 0 (by decide)
            have f1 : f 1 = .iface 103 (.agg #[]) := hF 1 (by decide)
            have f2 : f 2 = .agg #[.bool (so).isSome, .int .i64 ((so).getD 0)] := hF 2 (by decide)
            have f3 : f 3 = .pointer (some ⟨b, 0, none⟩) := hF 3 (by decide)
            have f4 : f 4 = .pointer (some ⟨b, 0, none⟩) := hF 4 (by decide)
            have f5 : f 5 = .pointer (some ⟨b, 4, none⟩) := hF 5 (by decide)
            have f6 : f 6 = .pointer pl := hF 6 (by decide)
            have f7 : f 7 = .agg #[.bool (sm l).isSome, .int .i64 ((sm l).getD 0)] := hF 7 (by decide)
            have f8 : f 8 = .agg #[.bool (join so (sm l)).isSome, .int .i64 ((join so (sm l)).getD 0)] := hF 8 (by decide)
            obtain ⟨g_9, f9, hg_9, hk_9⟩ := hF 9 (by decide)
            clear hF
            intro A hA
            simp only [grow.puts, Act.put, List.getElem?_toArray, List.getElem?_cons_zero, List.getElem?_cons_succ, Option.bind_some, List.setIfInBounds_toArray, List.set_cons_zero, List.set_cons_succ, f0, f1, f2, f3, f4, f5, f6, f7, f8, f9] at hA
            subst hA
            simp only [List.drop_succ_cons, List.drop_zero]
            have k0 := bc0 hk_9; have k1 := bc1 hk_9; have f0 := bf (o := 0) hk_9; have f1 := bf (o := 1) hk_9
            go_wp2_with fail
            obtain ⟨W2, hW2⟩ : ∃ W2, W2 = ((W.setCell ⟨g_9, 0, none⟩ (.bool (join so (sm l)).isSome)).setCell ⟨g_9, 1, none⟩ (.int .i64 ((join so (sm l)).getD 0))) := ⟨_, rfl⟩
            rw [← hW2]
            have hb2 : Below wr.heap.size wr W2 := by rw [hW2]; exact belowSetS hB hg_9 (.bool (join so (sm l)).isSome) (.int .i64 ((join so (sm l)).getD 0))
            have hL2 : W2.heap[g_9]? = some (.cells #[.bool (join so (sm l)).isSome, .int .i64 ((join so (sm l)).getD 0)] 101 (0, 0)) := by rw [hW2]; exact bset hk_9
            clear hW2 hB hk_9 hg_9 k0 f0 k1 f1
            have HpL := Lib.hid (HP.out W2 (belowTrans Hw.out hb2) (join so (sm l)))
            rw [EL.out] at HpL
            have kL0 := bc0 hL2
            have kL1 := bc1 hL2
            have HL2 := Lib.hid hL2
            have Hb2 := Lib.hid hb2
            clear hL2 hb2
            go_wp2_with fail
            refine HpL.out.mono ?_
            rintro e W3 ⟨rfl, hb3⟩
            have Hb3 := Lib.hid (belowTrans Hb2.out hb3)
            have HL3 := Lib.hid (upb hb3 HL2.out)
            clear hb3 HpL kL0 kL1
            replace kl := upc Hb3.out kl
            replace kr := upc Hb3.out kr
            replace kx0 := upc Hb3.out kx0
            replace ks0 := upc Hb3.out ks0
            replace ks1 := upc Hb3.out ks1
            replace Hl := Lib.hid (Hl.out.up Hb3.out)
            replace Hr := Lib.hid (Hr.out.up Hb3.out)
            have Hs3 := Lib.hid (upb Hb3.out Hso.out)
            have He3 := Lib.hid (upb Hb3.out Hem.out)
            have Hw3 := Lib.hid (belowTrans Hw.out Hb3.out)
            have hz3 := Hb3.out.size
            replace Hbn := Lib.hid (upb Hb3.out Hbn.out)
            clear HL2 Hb2
            go_wp2_with fail
            have kL0 := bc0 HL3.out
            have kL1 := bc1 HL3.out
            refine grow.wp_grow_tail 12 [grow.kEq (.agg #[]), grow.kEq (.iface 103 (.agg #[])), grow.kEq (.agg #[.bool (join so (sm l)).isSome, .int .i64 ((join so (sm l)).getD 0)]), grow.kEq (.agg #[]), grow.kEq (.iface 103 (.agg #[])), grow.kEq (.pointer (some ⟨b, 0, none⟩)), grow.kEq (.pointer (some ⟨b, 0, none⟩)), grow.kEq (.pointer (some ⟨b, 0, none⟩)), grow.kEq (.int .i64 x), grow.kEq (.agg #[.bool (one x).isSome, .int .i64 ((one x).getD 0)]), grow.kEq (.agg #[.bool (join (join so (sm l)) (one x)).isSome, .int .i64 ((join (join so (sm l)) (one x)).getD 0)]), kBox W3.heap.size] (of_decide_eq_true (by kernel_rfl)) (by kernel_rfl) (by kernel_rfl) (by kernel_rfl) (by kernel_rfl) (by kernel_rfl) ?step ?fin
            case step =>
              refine grow.EachT.cons ?_ ?_
              · intro A W hB hs hJ K hK
                have s0 := hs 5 (by kernel_rfl)
                simp at s0
                rw [if_pos (by rfl)]
                clear hs hJ
                go_simp
                exact hK _ _ (Below.refl _ _) rfl
              refine grow.EachT.cons ?_ ?_
              · intro A W hB hs hJ K hK
                have s0 : A.tmps.getD 34 undef = .agg #[] := hJ 0 34 (by kernel_rfl) (by kernel_rfl)
                simp at s0
                rw [if_pos (by rfl)]
                clear hs hJ
                go_simp
                exact hK _ _ (Below.refl _ _) rfl
              refine grow.EachT.cons ?_ ?_
              · intro A W hB hs hJ K hK
                have s0 := hs 9 (by kernel_rfl)
                simp at s0
                have kk0 := upc hB kL0
                have kk1 := upc hB kL1
                rw [if_pos (by rfl)]
                clear hs hJ
                go_simp
                exact hK _ _ (Below.refl _ _) rfl
              refine grow.EachT.cons ?_ ?_
              · intro A W hB hs hJ K hK
                have s0 := hs 5 (by kernel_rfl)
                simp at s0
                rw [if_pos (by rfl)]
                clear hs hJ
                go_simp
                exact hK _ _ (Below.refl _ _) rfl
              refine grow.EachT.cons ?_ ?_
              · intro A W hB hs hJ K hK
                have s0 : A.tmps.getD 37 undef = .agg #[] := hJ 3 37 (by kernel_rfl) (by kernel_rfl)
                simp at s0
                rw [if_pos (by rfl)]
                clear hs hJ
                go_simp
                exact hK _ _ (Below.refl _ _) rfl
              refine grow.EachT.cons ?_ ?_
              · intro A W hB hs hJ K hK
                have s0 := hs 8 (by kernel_rfl)
                simp at s0
                rw [if_pos (by rfl)]
                clear hs hJ
                go_simp
                exact hK _ _ (Below.refl _ _) rfl
              refine grow.EachT.cons ?_ ?_
              · intro A W hB hs hJ K hK
                have s0 : A.tmps.getD 39 undef = .pointer (some ⟨b, 0, none⟩) := hJ 5 39 (by kernel_rfl) (by kernel_rfl)
                simp at s0
                rw [if_pos (by rfl)]
                clear hs hJ
                go_simp
                exact hK _ _ (Below.refl _ _) rfl
              refine grow.EachT.cons ?_ ?_
              · intro A W hB hs hJ K hK
                have s0 : A.tmps.getD 40 undef = .pointer (some ⟨b, 0, none⟩) := hJ 6 40 (by kernel_rfl) (by kernel_rfl)
                simp at s0
                rw [if_pos (by rfl)]
                clear hs hJ
                go_simp
                exact hK _ _ (Below.refl _ _) rfl
              refine grow.EachT.cons ?_ ?_
              · intro A W hB hs hJ K hK
                have s0 : A.tmps.getD 41 undef = .pointer (some ⟨b, 0, none⟩) := hJ 7 41 (by kernel_rfl) (by kernel_rfl)
                simp at s0
                have kk0 := upc hB kx0
                rw [if_pos (by rfl)]
                clear hs hJ
                go_simp
                exact hK _ _ (Below.refl _ _) rfl
              refine grow.EachT.cons ?_ ?_
              · intro A W hB hs hJ K hK
                have s0 : A.tmps.getD 38 undef = .iface 103 (.agg #[]) := hJ 4 38 (by kernel_rfl) (by kernel_rfl)
                simp at s0
                have s1 : A.tmps.getD 42 undef = .int .i64 x := hJ 8 42 (by kernel_rfl) (by kernel_rfl)
                simp at s1
                have hm := mOne
                rw [if_pos (by rfl)]
                clear hs hJ
                go_simp
                refine (One_any _ x).mono ?_
                rintro e W2 ⟨rfl, hbn⟩
                exact hK _ _ hbn rfl
              refine grow.EachT.cons ?_ ?_
              · intro A W hB hs hJ K hK
                have s0 : A.tmps.getD 35 undef = .iface 103 (.agg #[]) := hJ 1 35 (by kernel_rfl) (by kernel_rfl)
                simp at s0
                have s1 : A.tmps.getD 36 undef = .agg #[.bool (join so (sm l)).isSome, .int .i64 ((join so (sm l)).getD 0)] := hJ 2 36 (by kernel_rfl) (by kernel_rfl)
                simp at s1
                have s2 : A.tmps.getD 43 undef = .agg #[.bool (one x).isSome, .int .i64 ((one x).getD 0)] := hJ 9 43 (by kernel_rfl) (by kernel_rfl)
                simp at s2
                have hm := mJoin
                rw [if_pos (by rfl)]
                clear hs hJ
                go_simp
                refine (Join_any _ (join so (sm l)) (one x)).mono ?_
                rintro e W2 ⟨rfl, hbn⟩
                exact hK _ _ hbn rfl
              refine grow.EachT.cons ?_ ?_
              · intro A W hB hs hJ K hK
                rw [if_pos (by rfl)]
                clear hs hJ
                go_simp
                exact hK _ _ (belowAlloc _ _) ⟨_, rfl, hB.size, heap_alloc_new _ _⟩
              exact grow.EachT.nil
            case fin =>
              intro f W hB hF
              have f0 : f 0 = .agg #[] := hF 0 (by decide)
              have f1 : f 1 = .iface 103 (.agg #[]) := hF 1 (by decide)
              have f2 : f 2 = .agg #[.bool (join so (sm l)).isSome, .int .i64 ((join so (sm l)).getD 0)] := hF 2 (by decide)
              have f3 : f 3 = .agg #[] := hF 3 (by decide)
              have f4 : f 4 = .iface 103 (.agg #[]) := hF 4 (by decide)
              have f5 : f 5 = .pointer (some ⟨b, 0, none⟩) := hF 5 (by decide)
              have f6 : f 6 = .pointer (some ⟨b, 0, none⟩) := hF 6 (by decide)
              have f7 : f 7 = .pointer (some ⟨b, 0, none⟩) := hF 7 (by decide)
              have f8 : f 8 = .int .i64 x := hF 8 (by decide)
              have f9 : f 9 = .agg #[.bool (one x).isSome, .int .i64 ((one x).getD 0)] := hF 9 (by decide)
              have f10 : f 10 = .agg #[.bool (join (join so (sm l)) (one x)).isSome, .int .i64 ((join (join so (sm l)) (one x)).getD 0)] := hF 10 (by decide)
              obtain ⟨g2_11, f11, hg2_11, hk2_11⟩ := hF 11 (by decide)
              clear hF
              intro A hA
              simp only [grow.puts, Act.put, List.getElem?_toArray, List.getElem?_cons_zero, List.getElem?_cons_succ, Option.bind_some, List.setIfInBounds_toArray, List.set_cons_zero, List.set_cons_succ, f0, f1, f2, f3, f4, f5, f6, f7, f8, f9, f10, f11] at hA
              subst hA
              simp only [List.drop_succ_cons, List.drop_zero]
              have k0 := bc0 hk2_11; have k1 := bc1 hk2_11; have f0 := bf (o := 0) hk2_11; have f1 := bf (o := 1) hk2_11
              go_wp2_with fail
              obtain ⟨W4, hW4⟩ : ∃ W4, W4 = ((W.setCell ⟨g2_11, 0, none⟩ (.bool (join (join so (sm l)) (one x)).isSome)).setCell ⟨g2_11, 1, none⟩ (.int .i64 ((join (join so (sm l)) (one x)).getD 0))) := ⟨_, rfl⟩
              rw [← hW4]
              have hb4 : Below W3.heap.size W3 W4 := by rw [hW4]; exact belowSetS hB hg2_11 (.bool (join (join so (sm l)) (one x)).isSome) (.int .i64 ((join (join so (sm l)) (one x)).getD 0))
              have hK4 : W4.heap[g2_11]? = some (.cells #[.bool (join (join so (sm l)) (one x)).isSome, .int .i64 ((join (join so (sm l)) (one x)).getD 0)] 101 (0, 0)) := by rw [hW4]; exact bset hk2_11
              clear hW4 hB hk2_11 k0 f0 k1 f1
              have HpK := Lib.hid (HP.out W4 (belowTrans Hw3.out hb4) (join (join so (sm l)) (one x)))
              rw [EK.out] at HpK
              have kK0 := bc0 hK4
              have kK1 := bc1 hK4
              have HK4 := Lib.hid hK4
              have Hb4 := Lib.hid hb4
              clear hK4 hb4
              go_wp2_with fail
              refine HpK.out.mono ?_
              rintro e W5 ⟨rfl, hb5⟩
              have Hb5 := Lib.hid (belowTrans Hb4.out hb5)
              have HK5 := Lib.hid (upb hb5 HK4.out)
              clear hb5 HpK kK0 kK1
              replace kl := upc Hb5.out kl
              replace kr := upc Hb5.out kr
              replace Hl := Lib.hid (Hl.out.up Hb5.out)
              replace Hr := Lib.hid (Hr.out.up Hb5.out)
              replace Hs3 := Lib.hid (upb Hb5.out Hs3.out)
              replace He3 := Lib.hid (upb Hb5.out He3.out)
              replace Hw3 := Lib.hid (belowTrans Hw3.out Hb5.out)
              have hz5 := Hb5.out.size
              replace Hbn := Lib.hid (upb Hb5.out Hbn.out)
              clear HK4 Hb4
              go_wp2_with fail
              refine (size_any Hl.out).mono ?_
              rintro e w' ⟨rfl, rfl⟩
              go_wp2_with fail
              go_ret
              have hres : ((findT q none t : Nat) : Int) = (a : Int) + (l.size : Nat) := by rw [← hfin.out, findT, EL.out, EK.out]; simp
              exact ⟨by rw [hres]; rfl, Hw3.out⟩
        · have EK := Lib.hid (Bool.eq_false_iff.2 eK)
          clear eK
          go_wp2_with fail
          refine grow.wp_grow_tail 10 [grow.kEq (.agg #[]), grow.kEq (.iface 103 (.agg #[])), grow.kEq (.agg #[.bool (so).isSome, .int .i64 ((so).getD 0)]), grow.kEq (.pointer (some ⟨b, 0, none⟩)), grow.kEq (.pointer (some ⟨b, 0, none⟩)), grow.kEq (.pointer (some ⟨b, 4, none⟩)), grow.kEq (.pointer pl), grow.kEq (.agg #[.bool (sm l).isSome, .int .i64 ((sm l).getD 0)]), grow.kEq (.agg #[.bool (join so (sm l)).isSome, .int .i64 ((join so (sm l)).getD 0)]), kBox wr.heap.size] (of_decide_eq_true (by kernel_rfl)) (by kernel_rfl) (by kernel_rfl) (by kernel_rfl) (by kernel_rfl) (by kernel_rfl) ?step ?fin
          case step =>
            refine grow.EachT.cons ?_ ?_
            · intro A W hB hs hJ K hK
              have s0 := hs 5 (by kernel_rfl)
              simp at s0
              rw [if_pos (by rfl)]
              clear hs hJ
              go_simp
              exact hK _ _ (Below.refl _ _) rfl
            refine grow.EachT.cons ?_ ?_
            · intro A W hB hs hJ K hK
              have s0 : A.tmps.getD 18 undef = .agg #[] := hJ 0 18 (by kernel_rfl) (by kernel_rfl)
              simp at s0
              rw [if_pos (by rfl)]
              clear hs hJ
              go_simp
              exact hK _ _ (Below.refl _ _) rfl
            refine grow.EachT.cons ?_ ?_
            · intro A W hB hs hJ K hK
              have s0 := hs 7 (by kernel_rfl)
              simp at s0
              have kk0 := upc hB ks0
              have kk1 := upc hB ks1
              rw [if_pos (by rfl)]
              clear hs hJ
              go_simp
              exact hK _ _ (Below.refl _ _) rfl
            refine grow.EachT.cons ?_ ?_
            · intro A W hB hs hJ K hK
              have s0 := hs 8 (by kernel_rfl)
              simp at s0
              rw [if_pos (by rfl)]
              clear hs hJ
              go_simp
              exact hK _ _ (Below.refl _ _) rfl
            refine grow.EachT.cons ?_ ?_
            · intro A W hB hs hJ K hK
              have s0 : A.tmps.getD 21 undef = .pointer (some ⟨b, 0, none⟩) := hJ 3 21 (by kernel_rfl) (by kernel_rfl)
              simp at s0
              rw [if_pos (by rfl)]
              clear hs hJ
              go_simp
              exact hK _ _ (Below.refl _ _) rfl
            refine grow.EachT.cons ?_ ?_
            · intro A W hB hs hJ K hK
              have s0 : A.tmps.getD 22 undef = .pointer (some ⟨b, 0, none⟩) := hJ 4 22 (by kernel_rfl) (by kernel_rfl)
              simp at s0
              rw [if_pos (by rfl)]
              clear hs hJ
              go_simp
              exact hK _ _ (Below.refl _ _) rfl
            refine grow.EachT.cons ?_ ?_
            · intro A W hB hs hJ K hK
              have s0 : A.tmps.getD 23 undef = .pointer (some ⟨b, 4, none⟩) := hJ 5 23 (by kernel_rfl) (by kernel_rfl)
              simp at s0
              have kk := upc hB kl
              rw [if_pos (by rfl)]
              clear hs hJ
              go_simp
              exact hK _ _ (Below.refl _ _) rfl
            refine grow.EachT.cons ?_ ?_
            · intro A W hB hs hJ K hK
              have s0 : A.tmps.getD 24 undef = .pointer pl := hJ 6 24 (by kernel_rfl) (by kernel_rfl)
              simp at s0
              rw [if_pos (by rfl)]
              clear hs hJ
              go_simp
              go_at_call 117
              refine (total_any (Hl.out.up hB)).mono ?_
              rintro e W2 ⟨rfl, hbn⟩
              exact hK _ _ hbn rfl
            refine grow.EachT.cons ?_ ?_
            · intro A W hB hs hJ K hK
              have s0 : A.tmps.getD 19 undef = .iface 103 (.agg #[]) := hJ 1 19 (by kernel_rfl) (by kernel_rfl)
              simp at s0
              have s1 : A.tmps.getD 20 undef = .agg #[.bool (so).isSome, .int .i64 ((so).getD 0)] := hJ 2 20 (by kernel_rfl) (by kernel_rfl)
              simp at s1
              have s2 : A.tmps.getD 25 undef = .agg #[.bool (sm l).isSome, .int .i64 ((sm l).getD 0)] := hJ 7 25 (by kernel_rfl) (by kernel_rfl)
              simp at s2
              have hm := mJoin
              rw [if_pos (by rfl)]
              clear hs hJ
              go_simp
              refine (Join_any _ so (sm l)).mono ?_
              rintro e W2 ⟨rfl, hbn⟩
              exact hK _ _ hbn rfl
            refine grow.EachT.cons ?_ ?_
            · intro A W hB hs hJ K hK
              rw [if_pos (by rfl)]
              clear hs hJ
              go_simp
              exact hK _ _ (belowAlloc _ _) ⟨_, rfl, hB.size, heap_alloc_new _ _⟩
            exact grow.EachT.nil
          case fin =>
            intro f W hB hF
            have f0 : f 0 = .agg #[] := hF 0 (by decide)
            have f1 : f 1 = .iface 103 (.agg #[]) := hF 1 (by decide)
            have f2 : f 2 = .agg #[.bool (so).isSome, .int .i64 ((so).getD 0)] := hF 2 (by decide)
            have f3 : f 3 = .pointer (some ⟨b, 0, none⟩) := hF 3 (by decide)
            have f4 : f 4 = .pointer (some ⟨b, 0, none⟩) := hF 4 (by decide)
            have f5 : f 5 = .pointer (some ⟨b, 4, none⟩) := hF 5 (by decide)
            have f6 : f 6 = .pointer pl := hF 6 (by decide)
            have f7 : f 7 = .agg #[.bool (sm l).isSome, .int .i64 ((sm l).getD 0)] := hF 7 (by decide)
            have f8 : f 8 = .agg #[.bool (join so (sm l)).isSome, .int .i64 ((join so (sm l)).getD 0)] := hF 8 (by decide)
            obtain ⟨g_9, f9, hg_9, hk_9⟩ := hF 9 (by decide)
            clear hF
            intro A hA
            simp only [grow.puts, Act.put, List.getElem?_toArray, List.getElem?_cons_zero, List.getElem?_cons_succ, Option.bind_some, List.setIfInBounds_toArray, List.set_cons_zero, List.set_cons_succ, f0, f1, f2, f3, f4, f5, f6, f7, f8, f9] at hA
            subst hA
            simp only [List.drop_succ_cons, List.drop_zero]
            have k0 := bc0 hk_9; have k1 := bc1 hk_9; have f0 := bf (o := 0) hk_9; have f1 := bf (o := 1) hk_9
            go_wp2_with fail
            obtain ⟨W2, hW2⟩ : ∃ W2, W2 = ((W.setCell ⟨g_9, 0, none⟩ (.bool (join so (sm l)).isSome)).setCell ⟨g_9, 1, none⟩ (.int .i64 ((join so (sm l)).getD 0))) := ⟨_, rfl⟩
            rw [← hW2]
            have hb2 : Below wr.heap.size wr W2 := by rw [hW2]; exact belowSetS hB hg_9 (.bool (join so (sm l)).isSome) (.int .i64 ((join so (sm l)).getD 0))
            have hL2 : W2.heap[g_9]? = some (.cells #[.bool (join so (sm l)).isSome, .int .i64 ((join so (sm l)).getD 0)] 101 (0, 0)) := by rw [hW2]; exact bset hk_9
            clear hW2 hB hk_9 hg_9 k0 f0 k1 f1
            have HpL := Lib.hid (HP.out W2 (belowTrans Hw.out hb2) (join so (sm l)))
            rw [EL.out] at HpL
            have kL0 := bc0 hL2
            have kL1 := bc1 hL2
            have HL2 := Lib.hid hL2
            have Hb2 := Lib.hid hb2
            clear hL2 hb2
            go_wp2_with fail
            refine HpL.out.mono ?_
            rintro e W3 ⟨rfl, hb3⟩
            have Hb3 := Lib.hid (belowTrans Hb2.out hb3)
            have HL3 := Lib.hid (upb hb3 HL2.out)
            clear hb3 HpL kL0 kL1
            replace kl := upc Hb3.out kl
            replace kr := upc Hb3.out kr
            replace kx0 := upc Hb3.out kx0
            replace ks0 := upc Hb3.out ks0
            replace ks1 := upc Hb3.out ks1
            replace Hl := Lib.hid (Hl.out.up Hb3.out)
            replace Hr := Lib.hid (Hr.out.up Hb3.out)
            have Hs3 := Lib.hid (upb Hb3.out Hso.out)
            have He3 := Lib.hid (upb Hb3.out Hem.out)
            have Hw3 := Lib.hid (belowTrans Hw.out Hb3.out)
            have hz3 := Hb3.out.size
            replace Hbn := Lib.hid (upb Hb3.out Hbn.out)
            clear HL2 Hb2
            go_wp2_with fail
            have kL0 := bc0 HL3.out
            have kL1 := bc1 HL3.out
            refine grow.wp_grow_tail 12 [grow.kEq (.agg #[]), grow.kEq (.iface 103 (.agg #[])), grow.kEq (.agg #[.bool (join so (sm l)).isSome, .int .i64 ((join so (sm l)).getD 0)]), grow.kEq (.agg #[]), grow.kEq (.iface 103 (.agg #[])), grow.kEq (.pointer (some ⟨b, 0, none⟩)), grow.kEq (.pointer (some ⟨b, 0, none⟩)), grow.kEq (.pointer (some ⟨b, 0, none⟩)), grow.kEq (.int .i64 x), grow.kEq (.agg #[.bool (one x).isSome, .int .i64 ((one x).getD 0)]), grow.kEq (.agg #[.bool (join (join so (sm l)) (one x)).isSome, .int .i64 ((join (join so (sm l)) (one x)).getD 0)]), kBox W3.heap.size] (of_decide_eq_true (by kernel_rfl)) (by kernel_rfl) (by kernel_rfl) (by kernel_rfl) (by kernel_rfl) (by kernel_rfl) ?step ?fin
            case step =>
              refine grow.EachT.cons ?_ ?_
              · intro A W hB hs hJ K hK
                have s0 := hs 5 (by kernel_rfl)
                simp at s0
                rw [if_pos (by rfl)]
                clear hs hJ
                go_simp
                exact hK _ _ (Below.refl _ _) rfl
              refine grow.EachT.cons ?_ ?_
              · intro A W hB hs hJ K hK
                have s0 : A.tmps.getD 34 undef = .agg #[] := hJ 0 34 (by kernel_rfl) (by kernel_rfl)
                simp at s0
                rw [if_pos (by rfl)]
                clear hs hJ
                go_simp
                exact hK _ _ (Below.refl _ _) rfl
              refine grow.EachT.cons ?_ ?_
              · intro A W hB hs hJ K hK
                have s0 := hs 9 (by kernel_rfl)
                simp at s0
                have kk0 := upc hB kL0
                have kk1 := upc hB kL1
                rw [if_pos (by rfl)]
                clear hs hJ
                go_simp
                exact hK _ _ (Below.refl _ _) rfl
              refine grow.EachT.cons ?_ ?_
              · intro A W hB hs hJ K hK
                have s0 := hs 5 (by kernel_rfl)
                simp at s0
                rw [if_pos (by rfl)]
                clear hs hJ
                go_simp
                exact hK _ _ (Below.refl _ _) rfl
              refine grow.EachT.cons ?_ ?_
              · intro A W hB hs hJ K hK
                have s0 : A.tmps.getD 37 undef = .agg #[] := hJ 3 37 (by kernel_rfl) (by kernel_rfl)
                simp at s0
                rw [if_pos (by rfl)]
                clear hs hJ
                go_simp
                exact hK _ _ (Below.refl _ _) rfl
              refine grow.EachT.cons ?_ ?_
              · intro A W hB hs hJ K hK
                have s0 := hs 8 (by kernel_rfl)
                simp at s0
                rw [if_pos (by rfl)]
                clear hs hJ
                go_simp
                exact hK _ _ (Below.refl _ _) rfl
              refine grow.EachT.cons ?_ ?_
              · intro A W hB hs hJ K hK
                have s0 : A.tmps.getD 39 undef = .pointer (some ⟨b, 0, none⟩) := hJ 5 39 (by kernel_rfl) (by kernel_rfl)
                simp at s0
                rw [if_pos (by rfl)]
                clear hs hJ
                go_simp
                exact hK _ _ (Below.refl _ _) rfl
              refine grow.EachT.cons ?_ ?_
              · intro A W hB hs hJ K hK
                have s0 : A.tmps.getD 40 undef = .pointer (some ⟨b, 0, none⟩) := hJ 6 40 (by kernel_rfl) (by kernel_rfl)
                simp at s0
                rw [if_pos (by rfl)]
                clear hs hJ
                go_simp
                exact hK _ _ (Below.refl _ _) rfl
              refine grow.EachT.cons ?_ ?_
              · intro A W hB hs hJ K hK
                have s0 : A.tmps.getD 41 undef = .pointer (some ⟨b, 0, none⟩) := hJ 7 41 (by kernel_rfl) (by kernel_rfl)
                simp at s0
                have kk0 := upc hB kx0
                rw [if_pos (by rfl)]
                clear hs hJ
                go_simp
                exact hK _ _ (Below.refl _ _) rfl
              refine grow.EachT.cons ?_ ?_
              · intro A W hB hs hJ K hK
                have s0 : A.tmps.getD 38 undef = .iface 103 (.agg #[]) := hJ 4 38 (by kernel_rfl) (by kernel_rfl)
                simp at s0
                have s1 : A.tmps.getD 42 undef = .int .i64 x := hJ 8 42 (by kernel_rfl) (by kernel_rfl)
                simp at s1
                have hm := mOne
                rw [if_pos (by rfl)]
                clear hs hJ
                go_simp
                refine (One_any _ x).mono ?_
                rintro e W2 ⟨rfl, hbn⟩
                exact hK _ _ hbn rfl
              refine grow.EachT.cons ?_ ?_
              · intro A W hB hs hJ K hK
                have s0 : A.tmps.getD 35 undef = .iface 103 (.agg #[]) := hJ 1 35 (by kernel_rfl) (by kernel_rfl)
                simp at s0
                have s1 : A.tmps.getD 36 undef = .agg #[.bool (join so (sm l)).isSome, .int .i64 ((join so (sm l)).getD 0)] := hJ 2 36 (by kernel_rfl) (by kernel_rfl)
                simp at s1
                have s2 : A.tmps.getD 43 undef = .agg #[.bool (one x).isSome, .int .i64 ((one x).getD 0)] := hJ 9 43 (by kernel_rfl) (by kernel_rfl)
                simp at s2
                have hm := mJoin
                rw [if_pos (by rfl)]
                clear hs hJ
                go_simp
                refine (Join_any _ (join so (sm l)) (one x)).mono ?_
                rintro e W2 ⟨rfl, hbn⟩
                exact hK _ _ hbn rfl
              refine grow.EachT.cons ?_ ?_
              · intro A W hB hs hJ K hK
                rw [if_pos (by rfl)]
                clear hs hJ
                go_simp
                exact hK _ _ (belowAlloc _ _) ⟨_, rfl, hB.size, heap_alloc_new _ _⟩
              exact grow.EachT.nil
            case fin =>
              intro f W hB hF
              have f0 : f 0 = .agg #[] := hF 0 (by decide)
              have f1 : f 1 = .iface 103 (.agg #[]) := hF 1 (by decide)
              have f2 : f 2 = .agg #[.bool (join so (sm l)).isSome, .int .i64 ((join so (sm l)).getD 0)] := hF 2 (by decide)
              have f3 : f 3 = .agg #[] := hF 3 (by decide)
              have f4 : f 4 = .iface 103 (.agg #[]) := hF 4 (by decide)
              have f5 : f 5 = .pointer (some ⟨b, 0, none⟩) := hF 5 (by decide)
              have f6 : f 6 = .pointer (some ⟨b, 0, none⟩) := hF 6 (by decide)
              have f7 : f 7 = .pointer (some ⟨b, 0, none⟩) := hF 7 (by decide)
              have f8 : f 8 = .int .i64 x := hF 8 (by decide)
              have f9 : f 9 = .agg #[.bool (one x).isSome, .int .i64 ((one x).getD 0)] := hF 9 (by decide)
              have f10 : f 10 = .agg #[.bool (join (join so (sm l)) (one x)).isSome, .int .i64 ((join (join so (sm l)) (one x)).getD 0)] := hF 10 (by decide)
              obtain ⟨g2_11, f11, hg2_11, hk2_11⟩ := hF 11 (by decide)
              clear hF
              intro A hA
              simp only [grow.puts, Act.put, List.getElem?_toArray, List.getElem?_cons_zero, List.getElem?_cons_succ, Option.bind_some, List.setIfInBounds_toArray, List.set_cons_zero, List.set_cons_succ, f0, f1, f2, f3, f4, f5, f6, f7, f8, f9, f10, f11] at hA
              subst hA
              simp only [List.drop_succ_cons, List.drop_zero]
              have k0 := bc0 hk2_11; have k1 := bc1 hk2_11; have f0 := bf (o := 0) hk2_11; have f1 := bf (o := 1) hk2_11
              go_wp2_with fail
              obtain ⟨W4, hW4⟩ : ∃ W4, W4 = ((W.setCell ⟨g2_11, 0, none⟩ (.bool (join (join so (sm l)) (one x)).isSome)).setCell ⟨g2_11, 1, none⟩ (.int .i64 ((join (join so (sm l)) (one x)).getD 0))) := ⟨_, rfl⟩
              rw [← hW4]
              have hb4 : Below W3.heap.size W3 W4 := by rw [hW4]; exact belowSetS hB hg2_11 (.bool (join (join so (sm l)) (one x)).isSome) (.int .i64 ((join (join so (sm l)) (one x)).getD 0))
              have hK4 : W4.heap[g2_11]? = some (.cells #[.bool (join (join so (sm l)) (one x)).isSome, .int .i64 ((join (join so (sm l)) (one x)).getD 0)] 101 (0, 0)) := by rw [hW4]; exact bset hk2_11
              clear hW4 hB hk2_11 k0 f0 k1 f1
              have HpK := Lib.hid (HP.out W4 (belowTrans Hw3.out hb4) (join (join so (sm l)) (one x)))
              rw [EK.out] at HpK
              have kK0 := bc0 hK4
              have kK1 := bc1 hK4
              have HK4 := Lib.hid hK4
              have Hb4 := Lib.hid hb4
              clear hK4 hb4
              go_wp2_with fail
              refine HpK.out.mono ?_
              rintro e W5 ⟨rfl, hb5⟩
              have Hb5 := Lib.hid (belowTrans Hb4.out hb5)
              have HK5 := Lib.hid (upb hb5 HK4.out)
              clear hb5 HpK kK0 kK1
              replace kl := upc Hb5.out kl
              replace kr := upc Hb5.out kr
              replace Hl := Lib.hid (Hl.out.up Hb5.out)
              replace Hr := Lib.hid (Hr.out.up Hb5.out)
              replace Hs3 := Lib.hid (upb Hb5.out Hs3.out)
              replace He3 := Lib.hid (upb Hb5.out He3.out)
              replace Hw3 := Lib.hid (belowTrans Hw3.out Hb5.out)
              have hz5 := Hb5.out.size
              replace Hbn := Lib.hid (upb Hb5.out Hbn.out)
              clear HK4 Hb4
              go_wp2_with fail
              have kK0 := bc0 HK5.out
              have kK1 := bc1 HK5.out
              have hgS : ∀ b ∈ [w1.heap.size], ∃ c ty fz, W5.heap[b]? = some (.cells c ty fz) ∧ ty ≠ 142 := fun b hb => by simp at hb; subst hb; exact ⟨_, _, _, Hs3.out, by decide⟩
              have HlS := Lib.hid (fun W (hB : grow.BelowS [w1.heap.size] W5 W) => InUpS Hl.out hgS hB)
              have HrS := Lib.hid (fun W (hB : grow.BelowS [w1.heap.size] W5 W) => InUpS Hr.out hgS hB)
              have Hnb : Hid (b ∉ [w1.heap.size]) := Lib.hid (fun hb => by simp at hb; have h1 := Hbn.out; rw [hb, Hs3.out] at h1; cases h1)
              have Hng : Hid (g2_11 ∉ [w1.heap.size]) := Lib.hid (fun hb => by simp at hb; omega)
              clear hgS
              refine grow.wp_grow_dag [w1.heap.size] [grow.kEq (.agg #[.bool (join (join so (sm l)) (one x)).isSome, .int .i64 ((join (join so (sm l)) (one x)).getD 0)]), grow.kEq (.int .i64 (a : Nat)), grow.kEq (.pointer (some ⟨b, 0, none⟩)), grow.kEq (.pointer (some ⟨b, 0, none⟩)), grow.kEq (.pointer (some ⟨b, 4, none⟩)), grow.kEq (.pointer pl), grow.kEq (.int .i64 (l.size : Nat)), grow.kEq (.int .i64 ((a : Int) + (l.size : Nat))), grow.kEq (.int .i64 ((a : Int) + (l.size : Nat) + 1)), grow.kEq (.pointer (some ⟨b, 0, none⟩)), grow.kEq (.pointer (some ⟨b, 0, none⟩)), grow.kEq (.pointer (some ⟨b, 5, none⟩)), grow.kEq (.pointer pr), grow.kHeap w1.heap.size (.cells #[.bool (join (join so (sm l)) (one x)).isSome, .int .i64 ((join (join so (sm l)) (one x)).getD 0)] 101), grow.kEq (.int .i64 ((a : Int) + (l.size : Nat) + 1)), grow.kEq (.pointer pr)] [none, none, none, none, none, none, none, none, none, none, none, none, none, some (w1.heap.size), none, none] (grow.sps_of (by simp)) (by kernel_rfl) (by kernel_rfl) (by kernel_rfl) (by kernel_rfl) ?monoS ?step ?fin
              case monoS =>
                refine grow.monoS_of ?_
                intro i hi j b hne hsj
                match i, hi with
                | 0, _ => exact fun _ _ _ _ h => h
                | 1, _ => exact fun _ _ _ _ h => h
                | 2, _ => exact fun _ _ _ _ h => h
                | 3, _ => exact fun _ _ _ _ h => h
                | 4, _ => exact fun _ _ _ _ h => h
                | 5, _ => exact fun _ _ _ _ h => h
                | 6, _ => exact fun _ _ _ _ h => h
                | 7, _ => exact fun _ _ _ _ h => h
                | 8, _ => exact fun _ _ _ _ h => h
                | 9, _ => exact fun _ _ _ _ h => h
                | 10, _ => exact fun _ _ _ _ h => h
                | 11, _ => exact fun _ _ _ _ h => h
                | 12, _ => exact fun _ _ _ _ h => h
                | 13, _ => exact absurd (grow.only_of (s := 13) (by kernel_rfl) hsj) hne
                | 14, _ => exact fun _ _ _ _ h => h
                | 15, _ => exact fun _ _ _ _ h => h
                | i + 16, hi => simp at hi; omega
              case step =>
                refine grow.EachD.cons ?_ ?_
                · intro A W hB hs hJ K hK
                  have s0 := hs 10 (by kernel_rfl)
                  simp at s0
                  have kk0 := hB.upc (a := ⟨g2_11, 0, none⟩) Hng.out kK0
                  have kk1 := hB.upc (a := ⟨g2_11, 1, none⟩) Hng.out kK1
                  rw [if_pos (by rfl)]
                  clear hs hJ
                  go_simp
                  exact hK _ _ (Below.refl _ _) rfl
                refine grow.EachD.cons ?_ ?_
                · intro A W hB hs hJ K hK
                  have s0 := hs 6 (by kernel_rfl)
                  simp at s0
                  rw [if_pos (by rfl)]
                  clear hs hJ
                  go_simp
                  exact hK _ _ (Below.refl _ _) rfl
                refine grow.EachD.cons ?_ ?_
                · intro A W hB hs hJ K hK
                  have s0 := hs 8 (by kernel_rfl)
                  simp at s0
                  rw [if_pos (by rfl)]
                  clear hs hJ
                  go_simp
                  exact hK _ _ (Below.refl _ _) rfl
                refine grow.EachD.cons ?_ ?_
                · intro A W hB hs hJ K hK
                  have s0 : A.tmps.getD 51 undef = .pointer (some ⟨b, 0, none⟩) := hJ 2 51 (by kernel_rfl) (by kernel_rfl)
                  simp at s0
                  rw [if_pos (by rfl)]
                  clear hs hJ
                  go_simp
                  exact hK _ _ (Below.refl _ _) rfl
                refine grow.EachD.cons ?_ ?_
                · intro A W hB hs hJ K hK
                  have s0 : A.tmps.getD 52 undef = .pointer (some ⟨b, 0, none⟩) := hJ 3 52 (by kernel_rfl) (by kernel_rfl)
                  simp at s0
                  rw [if_pos (by rfl)]
                  clear hs hJ
                  go_simp
                  exact hK _ _ (Below.refl _ _) rfl
                refine grow.EachD.cons ?_ ?_
                · intro A W hB hs hJ K hK
                  have s0 : A.tmps.getD 53 undef = .pointer (some ⟨b, 4, none⟩) := hJ 4 53 (by kernel_rfl) (by kernel_rfl)
                  simp at s0
                  have kk := hB.upc Hnb.out kl
                  rw [if_pos (by rfl)]
                  clear hs hJ
                  go_simp
                  exact hK _ _ (Below.refl _ _) rfl
                refine grow.EachD.cons ?_ ?_
                · intro A W hB hs hJ K hK
                  have s0 : A.tmps.getD 54 undef = .pointer pl := hJ 5 54 (by kernel_rfl) (by kernel_rfl)
                  simp at s0
                  rw [if_pos (by rfl)]
                  clear hs hJ
                  go_simp
                  go_at_call 108
                  refine (size_any (HlS.out W hB)).mono ?_
                  rintro e W2 ⟨rfl, rfl⟩
                  exact hK _ _ (Below.refl _ _) rfl
                refine grow.EachD.cons ?_ ?_
                · intro A W hB hs hJ K hK
                  have s0 : A.tmps.getD 50 undef = .int .i64 (a : Nat) := hJ 1 50 (by kernel_rfl) (by kernel_rfl)
                  simp at s0
                  have s1 : A.tmps.getD 55 undef = .int .i64 (l.size : Nat) := hJ 6 55 (by kernel_rfl) (by kernel_rfl)
                  simp at s1
                  have hw : IntKind.i64.wrap ((a : Int) + (l.size : Nat)) = (a : Int) + (l.size : Nat) := IntWalk.i64_in _ (by omega)
                  rw [if_pos (by rfl)]
                  clear hs hJ
                  go_simp
                  exact hK _ _ (Below.refl _ _) rfl
                refine grow.EachD.cons ?_ ?_
                · intro A W hB hs hJ K hK
                  have s0 : A.tmps.getD 56 undef = .int .i64 ((a : Int) + (l.size : Nat)) := hJ 7 56 (by kernel_rfl) (by kernel_rfl)
                  simp at s0
                  have hw : IntKind.i64.wrap ((a : Int) + (l.size : Nat) + 1) = (a : Int) + (l.size : Nat) + 1 := IntWalk.i64_in _ (by omega)
                  rw [if_pos (by rfl)]
                  clear hs hJ
                  go_simp
                  exact hK _ _ (Below.refl _ _) rfl
                refine grow.EachD.cons ?_ ?_
                · intro A W hB hs hJ K hK
                  have s0 := hs 8 (by kernel_rfl)
                  simp at s0
                  rw [if_pos (by rfl)]
                  clear hs hJ
                  go_simp
                  exact hK _ _ (Below.refl _ _) rfl
                refine grow.EachD.cons ?_ ?_
                · intro A W hB hs hJ K hK
                  have s0 : A.tmps.getD 58 undef = .pointer (some ⟨b, 0, none⟩) := hJ 9 58 (by kernel_rfl) (by kernel_rfl)
                  simp at s0
                  rw [if_pos (by rfl)]
                  clear hs hJ
                  go_simp
                  exact hK _ _ (Below.refl _ _) rfl
                refine grow.EachD.cons ?_ ?_
                · intro A W hB hs hJ K hK
                  have s0 : A.tmps.getD 59 undef = .pointer (some ⟨b, 0, none⟩) := hJ 10 59 (by kernel_rfl) (by kernel_rfl)
                  simp at s0
                  rw [if_pos (by rfl)]
                  clear hs hJ
                  go_simp
                  exact hK _ _ (Below.refl _ _) rfl
                refine grow.EachD.cons ?_ ?_
                · intro A W hB hs hJ K hK
                  have s0 : A.tmps.getD 60 undef = .pointer (some ⟨b, 5, none⟩) := hJ 11 60 (by kernel_rfl) (by kernel_rfl)
                  simp at s0
                  have kk := hB.upc Hnb.out kr
                  rw [if_pos (by rfl)]
                  clear hs hJ
                  go_simp
                  exact hK _ _ (Below.refl _ _) rfl
                refine grow.EachD.cons ?_ ?_
                · intro A W hB hs hJ K hK
                  have s0 := hs 7 (by kernel_rfl)
                  simp at s0
                  have s1 : A.tmps.getD 49 undef = .agg #[.bool (join (join so (sm l)) (one x)).isSome, .int .i64 ((join (join so (sm l)) (one x)).getD 0)] := hJ 0 49 (by kernel_rfl) (by kernel_rfl)
                  simp at s1
                  obtain ⟨c', hc', hcs⟩ := hB.typ _ _ _ _ Hs3.out
                  obtain ⟨u, v, rfl⟩ := grow.size2 (show c'.size = 2 from hcs)
                  have k0 := bc0 hc'; have k1 := bc1 hc'; have f0 := bf (o := 0) hc'; have f1 := bf (o := 1) hc'
                  have Hc' := Lib.hid hc'
                  clear hc' hcs
                  rw [if_pos (by rfl)]
                  clear hs hJ
                  go_simp
                  exact hK undef _ ((grow.BelowS.set [w1.heap.size] _ _ 0 (by simp) _).trans (grow.BelowS.set [w1.heap.size] _ _ 1 (by simp) _)) (bset Hc'.out)
                refine grow.EachD.cons ?_ ?_
                · intro A W hB hs hJ K hK
                  have s0 : A.tmps.getD 57 undef = .int .i64 ((a : Int) + (l.size : Nat) + 1) := hJ 8 57 (by kernel_rfl) (by kernel_rfl)
                  simp at s0
                  rw [if_pos (by rfl)]
                  clear hs hJ
                  go_simp
                  exact hK _ _ (Below.refl _ _) rfl
                refine grow.EachD.cons ?_ ?_
                · intro A W hB hs hJ K hK
                  have s0 : A.tmps.getD 61 undef = .pointer pr := hJ 12 61 (by kernel_rfl) (by kernel_rfl)
                  simp at s0
                  rw [if_pos (by rfl)]
                  clear hs hJ
                  go_simp
                  exact hK _ _ (Below.refl _ _) rfl
                exact grow.EachD.nil
              case fin =>
                intro f W hB hF
                have f0 : f 0 = .agg #[.bool (join (join so (sm l)) (one x)).isSome, .int .i64 ((join (join so (sm l)) (one x)).getD 0)] := hF 0 (by decide)
                have f1 : f 1 = .int .i64 (a : Nat) := hF 1 (by decide)
                have f2 : f 2 = .pointer (some ⟨b, 0, none⟩) := hF 2 (by decide)
                have f3 : f 3 = .pointer (some ⟨b, 0, none⟩) := hF 3 (by decide)
                have f4 : f 4 = .pointer (some ⟨b, 4, none⟩) := hF 4 (by decide)
                have f5 : f 5 = .pointer pl := hF 5 (by decide)
                have f6 : f 6 = .int .i64 (l.size : Nat) := hF 6 (by decide)
                have f7 : f 7 = .int .i64 ((a : Int) + (l.size : Nat)) := hF 7 (by decide)
                have f8 : f 8 = .int .i64 ((a : Int) + (l.size : Nat) + 1) := hF 8 (by decide)
                have f9 : f 9 = .pointer (some ⟨b, 0, none⟩) := hF 9 (by decide)
                have f10 : f 10 = .pointer (some ⟨b, 0, none⟩) := hF 10 (by decide)
                have f11 : f 11 = .pointer (some ⟨b, 5, none⟩) := hF 11 (by decide)
                have f12 : f 12 = .pointer pr := hF 12 (by decide)
                have hst13 := hF 13 (by decide)
                have f14 : f 14 = .int .i64 ((a : Int) + (l.size : Nat) + 1) := hF 14 (by decide)
                have f15 : f 15 = .pointer pr := hF 15 (by decide)
                clear hF
                intro A hA
                simp only [List.length_cons, List.length_nil, Nat.reduceAdd, grow.puts, Act.put, List.getElem?_toArray, List.getElem?_cons_zero, List.getElem?_cons_succ, Option.bind_some, List.setIfInBounds_toArray, List.set_cons_zero, List.set_cons_succ, f0, f1, f2, f3, f4, f5, f6, f7, f8, f9, f10, f11, f12, f14, f15] at hA
                subst hA
                have Hr6 := Lib.hid (HrS.out W hB)
                have Hs6 := Lib.hid hst13
                have He6 := Lib.hid (hB.up (by simp; omega) He3.out)
                have Hw6 : Hid (Below w.heap.size w W) := Lib.hid (Hw3.out.trans (hB.below Hw3.out.size (fun b hb => by simp at hb; omega)))
                have hz6 := hB.size
                clear hst13 hB
                go_wp2_with fail
                go_roundg (r.size)
                case measure => omega
                case rel => exact ⟨a + l.size + 1, pr, by go_num, rfl, Lib.hid ⟨r, join (join so (sm l)) (one x), rfl, Hr6.out, Hs6.out, Hw6.out, by rw [← hfin.out, findT, EL.out, EK.out]; simp; omega, He6.out, by omega, by omega⟩⟩

/-- what the function says of a sum -/
def q_from (x : Int) : S → Bool := fun s => match s with | none => false | some y => decide (x ≤ y)
set_option maxHeartbeats 1000000 in
theorem p_from (w : World) (b : Nat) (x : Int) (s : S) (h : w.heap[b]? = some (.cells #[.int .i64 x] 3 (0, 0))) :
    Calls Try.prog 81 #[.agg #[.bool (s).isSome, .int .i64 ((s).getD 0)], .pointer (some ⟨b, 0, none⟩)] w fun e w' => e = .returned (.bool (q_from x s)) ∧ Below w.heap.size w w' := by
  have k0 : ∀ o : Obj, (w.alloc o).cell? ⟨b, 0, none⟩ = some (.int .i64 x) := fun o => by have hb := upb (belowAlloc w o) h; simp [World.cell?, hb]
  clear h
  cases s
  all_goals
    go_enter Try.func81, Try.ntmps81
    go_wp2_with fail
    go_ret
    exact ⟨rfl, belowAlloc _ _⟩

set_option maxRecDepth 100000 in
set_option maxHeartbeats 8000000 in
theorem Find_from (B : Nat) (w : World) (p : Option Addr) (t : BT V) (bx : Nat) (x0 : Int) (_hB : B ≤ w.heap.size) (h : In B w p t) (hs : t.size ≤ 1152921504606820000) (hbx : w.heap[bx]? = some (.cells #[.int .i64 x0] 3 (0, 0))) :
    Calls Try.prog 79 #[.agg #[.pointer p], .func (.func 81) #[] #[.pointer (some ⟨bx, 0, none⟩)]] w fun e w' => e = .returned (.int .i64 ((findT (q_from x0) none t : Nat) : Int)) ∧ Below w.heap.size w w' := by
  obtain ⟨q, hq⟩ : ∃ q, q = q_from x0 := ⟨_, rfl⟩
  have HP : Hid (∀ W, Below w.heap.size w W → ∀ s, Calls Try.prog 81 #[.agg #[.bool (s).isSome, .int .i64 ((s).getD 0)], .pointer (some ⟨bx, 0, none⟩)] W fun e w' => e = .returned (.bool (q s)) ∧ Below W.heap.size W w') := Lib.hid (fun W hW s => by rw [hq]; exact p_from W bx x0 s (upb hW hbx))
  rw [← hq]
  have hbb := belowTrans (belowAlloc w (.cells #[.pointer p] 40)) (belowAlloc _ (.cells #[] 103))
  have hem := heapNew2 w (.cells #[.pointer p] 40) (.cells #[] 103)
  have Hbb := Lib.hid hbb
  have Hem := Lib.hid hem
  have Hh := Lib.hid h
  have hm := mNone
  clear hq hbx hbb hem h
  go_enter Try.func79, Try.ntmps79
  go_wp2_with fail
  refine (None_any _).mono ?_
  rintro e w1 ⟨rfl, hb1⟩
  have kp := cell_of_one (upb hb1 (heapNew1 w (.cells #[.pointer p] 40) (.cells #[] 103)))
  have hb2 := belowTrans (belowTrans Hbb.out hb1) (belowAlloc w1 (.cells #[.bool false, .int .i64 0] 101))
  have kp2 := upc (belowAlloc w1 (.cells #[.bool false, .int .i64 0] 101)) kp
  have hso := heap_alloc_new w1 (.cells #[.bool false, .int .i64 0] 101)
  have hem2 := upb (belowAlloc w1 (.cells #[.bool false, .int .i64 0] 101)) (upb hb1 Hem.out)
  have hz1 := hb1.size
  simp only [World.size_alloc] at hz1
  have HL : Hid (FRel B w t q w1.heap.size t.size 0 p (w1.alloc (.cells #[.bool false, .int .i64 0] 101))) := Lib.hid ⟨t, none, rfl, Hh.out.up hb2, hso, hb2, by simp, hem2, by omega⟩
  clear hb1 hb2 hso hem2 Hem Hbb Hh hm kp
  go_wp2_with fail
  go_loopg [6, 8] t.size (fun k av nv wr => ∃ (a : Nat) (pn : Option Addr), av = .int .i64 (a : Nat) ∧ nv = .pointer pn ∧ Hid (FRel B w t q w1.heap.size k a pn wr))
  case atStart => exact ⟨0, p, rfl, rfl, HL⟩
  case round =>
    obtain ⟨a, pn, rfl, rfl, HR⟩ := hrel
    obtain ⟨t1, so, hk, hin, hso, hw, hfin, hem, hbd⟩ := HR.out
    cases t1 with
    | nil =>
      obtain rfl : pn = none := hin
      have hfa : findT q none t = a := by rw [← hfin]; simp [findT]
      have Hfa := Lib.hid hfa
      have Hw := Lib.hid hw
      clear HR hso hw hfin hem hk hfa
      go_wp2_with fail
      go_ret
      exact ⟨by rw [Hfa.out]; rfl, Hw.out⟩
    | node x l r =>
      obtain ⟨b, pl, pr, rfl, _, hb, hl, hr⟩ := hin
      simp only [BT.size] at hbd hk
      have kl := cl hb
      have kr := cr hb
      have kx0 := cv0 hb
      have ks0 := bc0 hso
      have ks1 := bc1 hso
      have Hbn := Lib.hid hb
      have Hl := Lib.hid hl
      have Hr := Lib.hid hr
      have Hso := Lib.hid hso
      have Hw := Lib.hid hw
      have Hem := Lib.hid hem
      have hfin := Lib.hid hfin
      have hzw : w1.heap.size < wr.heap.size := (Array.getElem?_eq_some_iff.1 hso).1
      clear HR hb hl hr hso hw hem
      by_cases eL : q (join so (sm l)) = true
      · have EL := Lib.hid eL
        clear eL
        go_wp2_with fail
        refine grow.wp_grow_tail 10 [grow.kEq (.agg #[]), grow.kEq (.iface 103 (.agg #[])), grow.kEq (.agg #[.bool (so).isSome, .int .i64 ((so).getD 0)]), grow.kEq (.pointer (some ⟨b, 0, none⟩)), grow.kEq (.pointer (some ⟨b, 0, none⟩)), grow.kEq (.pointer (some ⟨b, 4, none⟩)), grow.kEq (.pointer pl), grow.kEq (.agg #[.bool (sm l).isSome, .int .i64 ((sm l).getD 0)]), grow.kEq (.agg #[.bool (join so (sm l)).isSome, .int .i64 ((join so (sm l)).getD 0)]), kBox wr.heap.size] (of_decide_eq_true (by kernel_rfl)) (by kernel_rfl) (by kernel_rfl) (by kernel_rfl) (by kernel_rfl) (by kernel_rfl) ?step ?fin
        case step =>
          refine grow.EachT.cons ?_ ?_
          · intro A W hB hs hJ K hK
            have s0 := hs 5 (by kernel_rfl)
            simp at s0
            rw [if_pos (by rfl)]
            clear hs hJ
            go_simp
            exact hK _ _ (Below.refl _ _) rfl
          refine grow.EachT.cons ?_ ?_
          · intro A W hB hs hJ K hK
            have s0 : A.tmps.getD 18 undef = .agg #[] := hJ 0 18 (by kernel_rfl) (by kernel_rfl)
            simp at s0
            rw [if_pos (by rfl)]
            clear hs hJ
            go_simp
            exact hK _ _ (Below.refl _ _) rfl
          refine grow.EachT.cons ?_ ?_
          · intro A W hB hs hJ K hK
            have s0 := hs 7 (by kernel_rfl)
            simp at s0
            have kk0 := upc hB ks0
            have kk1 := upc hB ks1
            rw [if_pos (by rfl)]
            clear hs hJ
            go_simp
            exact hK _ _ (Below.refl _ _) rfl
          refine grow.EachT.cons ?_ ?_
          · intro A W hB hs hJ K hK
            have s0 := hs 8 (by kernel_rfl)
            simp at s0
            rw [if_pos (by rfl)]
            clear hs hJ
            go_simp
            exact hK _ _ (Below.refl _ _) rfl
          refine grow.EachT.cons ?_ ?_
          · intro A W hB hs hJ K hK
            have s0 : A.tmps.getD 21 undef = .pointer (some ⟨b, 0, none⟩) := hJ 3 21 (by kernel_rfl) (by kernel_rfl)
            simp at s0
            rw [if_pos (by rfl)]
            clear hs hJ
            go_simp
            exact hK _ _ (Below.refl _ _) rfl
          refine grow.EachT.cons ?_ ?_
          · intro A W hB hs hJ K hK
            have s0 : A.tmps.getD 22 undef = .pointer (some ⟨b, 0, none⟩) := hJ 4 22 (by kernel_rfl) (by kernel_rfl)
            simp at s0
            rw [if_pos (by rfl)]
            clear hs hJ
            go_simp
            exact hK _ _ (Below.refl _ _) rfl
          refine grow.EachT.cons ?_ ?_
          · intro A W hB hs hJ K hK
            have s0 : A.tmps.getD 23 undef = .pointer (some ⟨b, 4, none⟩) := hJ 5 23 (by kernel_rfl) (by kernel_rfl)
            simp at s0
            have kk := upc hB kl
            rw [if_pos (by rfl)]
            clear hs hJ
            go_simp
            exact hK _ _ (Below.refl _ _) rfl
          refine grow.EachT.cons ?_ ?_
          · intro A W hB hs hJ K hK
            have s0 : A.tmps.getD 24 undef = .pointer pl := hJ 6 24 (by kernel_rfl) (by kernel_rfl)
            simp at s0
            rw [if_pos (by rfl)]
            clear hs hJ
            go_simp
            go_at_call 117
            refine (total_any (Hl.out.up hB)).mono ?_
            rintro e W2 ⟨rfl, hbn⟩
            exact hK _ _ hbn rfl
          refine grow.EachT.cons ?_ ?_
          · intro A W hB hs hJ K hK
            have s0 : A.tmps.getD 19 undef = .iface 103 (.agg #[]) := hJ 1 19 (by kernel_rfl) (by kernel_rfl)
            simp at s0
            have s1 : A.tmps.getD 20 undef = .agg #[.bool (so).isSome, .int .i64 ((so).getD 0)] := hJ 2 20 (by kernel_rfl) (by kernel_rfl)
            simp at s1
            have s2 : A.tmps.getD 25 undef = .agg #[.bool (sm l).isSome, .int .i64 ((sm l).getD 0)] := hJ 7 25 (by kernel_rfl) (by kernel_rfl)
            simp at s2
            have hm := mJoin
            rw [if_pos (by rfl)]
            clear hs hJ
            go_simp
            refine (Join_any _ so (sm l)).mono ?_
            rintro e W2 ⟨rfl, hbn⟩
            exact hK _ _ hbn rfl
          refine grow.EachT.cons ?_ ?_
          · intro A W hB hs hJ K hK
            rw [if_pos (by rfl)]
            clear hs hJ
            go_simp
            exact hK _ _ (belowAlloc _ _) ⟨_, rfl, hB.size, heap_alloc_new _ _⟩
          exact grow.EachT.nil
        case fin =>
          intro f W hB hF
          have f0 : f 0 = .agg #[] := hF 0 (by decide)
          have f1 : f 1 = .iface 103 (.agg #[]) := hF 1 (by decide)
          have f2 : f 2 = .agg #[.bool (so).isSome, .int .i64 ((so).getD 0)] := hF 2 (by decide)
          have f3 : f 3 = .pointer (some ⟨b, 0, none⟩) := hF 3 (by decide)
          have f4 : f 4 = .pointer (some ⟨b, 0, none⟩) := hF 4 (by decide)
          have f5 : f 5 = .pointer (some ⟨b, 4, none⟩) := hF 5 (by decide)
          have f6 : f 6 = .pointer pl := hF 6 (by decide)
          have f7 : f 7 = .agg #[.bool (sm l).isSome, .int .i64 ((sm l).getD 0)] := hF 7 (by decide)
          have f8 : f 8 = .agg #[.bool (join so (sm l)).isSome, .int .i64 ((join so (sm l)).getD 0)] := hF 8 (by decide)
          obtain ⟨g_9, f9, hg_9, hk_9⟩ := hF 9 (by decide)
          clear hF
          intro A hA
          simp only [grow.puts, Act.put, List.getElem?_toArray, List.getElem?_cons_zero, List.getElem?_cons_succ, Option.bind_some, List.setIfInBounds_toArray, List.set_cons_zero, List.set_cons_succ, f0, f1, f2, f3, f4, f5, f6, f7, f8, f9] at hA
          subst hA
          simp only [List.drop_succ_cons, List.drop_zero]
          have k0 := bc0 hk_9; have k1 := bc1 hk_9; have f0 := bf (o := 0) hk_9; have f1 := bf (o := 1) hk_9
          go_wp2_with fail
          obtain ⟨W2, hW2⟩ : ∃ W2, W2 = ((W.setCell ⟨g_9, 0, none⟩ (.bool (join so (sm l)).isSome)).setCell ⟨g_9, 1, none⟩ (.int .i64 ((join so (sm l)).getD 0))) := ⟨_, rfl⟩
          rw [← hW2]
          have hb2 : Below wr.heap.size wr W2 := by rw [hW2]; exact belowSetS hB hg_9 (.bool (join so (sm l)).isSome) (.int .i64 ((join so (sm l)).getD 0))
          have hL2 : W2.heap[g_9]? = some (.cells #[.bool (join so (sm l)).isSome, .int .i64 ((join so (sm l)).getD 0)] 101 (0, 0)) := by rw [hW2]; exact bset hk_9
          clear hW2 hB hk_9 hg_9 k0 f0 k1 f1
          have HpL := Lib.hid (HP.out W2 (belowTrans Hw.out hb2) (join so (sm l)))
          rw [EL.out] at HpL
          have kL0 := bc0 hL2
          have kL1 := bc1 hL2
          have HL2 := Lib.hid hL2
          have Hb2 := Lib.hid hb2
          clear hL2 hb2
          go_wp2_with fail
          refine HpL.out.mono ?_
          rintro e W3 ⟨rfl, hb3⟩
          have Hb3 := Lib.hid (belowTrans Hb2.out hb3)
          have HL3 := Lib.hid (upb hb3 HL2.out)
          clear hb3 HpL kL0 kL1
          replace kl := upc Hb3.out kl
          replace kr := upc Hb3.out kr
          replace kx0 := upc Hb3.out kx0
          replace ks0 := upc Hb3.out ks0
          replace ks1 := upc Hb3.out ks1
          replace Hl := Lib.hid (Hl.out.up Hb3.out)
          replace Hr := Lib.hid (Hr.out.up Hb3.out)
          have Hs3 := Lib.hid (upb Hb3.out Hso.out)
          have He3 := Lib.hid (upb Hb3.out Hem.out)
          have Hw3 := Lib.hid (belowTrans Hw.out Hb3.out)
          have hz3 := Hb3.out.size
          replace Hbn := Lib.hid (upb Hb3.out Hbn.out)
          clear HL2 Hb2
          go_wp2_with fail
          go_roundg (l.size)
          case measure => omega
          case rel => exact ⟨a, pl, rfl, rfl, Lib.hid ⟨l, so, rfl, Hl.out, Hs3.out, Hw3.out, by rw [← hfin.out, findT, EL.out]; simp, He3.out, by omega⟩⟩
      · have EL := Lib.hid (Bool.eq_false_iff.2 eL)
        clear eL
        by_cases eK : q (join (join so (sm l)) (one x)) = true
        · have EK := Lib.hid eK
          clear eK
          go_wp2_with fail
          refine grow.wp_grow_tail 10 [grow.kEq (.agg #[]), grow.kEq (.iface 103 (.agg #[])), grow.kEq (.agg #[.bool (so).isSome, .int .i64 ((so).getD 0)]), grow.kEq (.pointer (some ⟨b, 0, none⟩)), grow.kEq (.pointer (some ⟨b, 0, none⟩)), grow.kEq (.pointer (some ⟨b, 4, none⟩)), grow.kEq (.pointer pl), grow.kEq (.agg #[.bool (sm l).isSome, .int .i64 ((sm l).getD 0)]), grow.kEq (.agg #[.bool (join so (sm l)).isSome, .int .i64 ((join so (sm l)).getD 0)]), kBox wr.heap.size] (of_decide_eq_true (by kernel_rfl)) (by kernel_rfl) (by kernel_rfl) (by kernel_rfl) (by kernel_rfl) (by kernel_rfl) ?step ?fin
          case step =>
            refine grow.EachT.cons ?_ ?_
            · intro A W hB hs hJ K hK
              have s0 := hs 5 (by kernel_rfl)
              simp at s0
              rw [if_pos (by rfl)]
              clear hs hJ
              go_simp
              exact hK _ _ (Below.refl _ _) rfl
            refine grow.EachT.cons ?_ ?_
            · intro A W hB hs hJ K hK
              have s0 : A.tmps.getD 18 undef = .agg #[] := hJ 0 18 (by kernel_rfl) (by kernel_rfl)
              simp at s0
              rw [if_pos (by rfl)]
              clear hs hJ
              go_simp
              exact hK _ _ (Below.refl _ _) rfl
            refine grow.EachT.cons ?_ ?_
            · intro A W hB hs hJ K hK
              have s0 := hs 7 (by kernel_rfl)
              simp at s0
              have kk0 := upc hB ks0
              have kk1 := upc hB ks1
              rw [if_pos (by rfl)]
              clear hs hJ
              go_simp
              exact hK _ _ (Below.refl _ _) rfl
            refine grow.EachT.cons ?_ ?_
            · intro A W hB hs hJ K hK
              have s0 := hs 8 (by kernel_rfl)
              simp at s0
              rw [if_pos (by rfl)]
              clear hs hJ
              go_simp
              exact hK _ _ (Below.refl _ _) rfl
            refine grow.EachT.cons ?_ ?_
            · intro A W hB hs hJ K hK
              have s0 : A.tmps.getD 21 undef = .pointer (some ⟨b, 0, none⟩) := hJ 3 21 (by kernel_rfl) (by kernel_rfl)
              simp at s0
              rw [if_pos (by rfl)]
              clear hs hJ
              go_simp
              exact hK _ _ (Below.refl _ _) rfl
            refine grow.EachT.cons ?_ ?_
            · intro A W hB hs hJ K hK
              have s0 : A.tmps.getD 22 undef = .pointer (some ⟨b, 0, none⟩) := hJ 4 22 (by kernel_rfl) (by kernel_rfl)
              simp at s0
              rw [if_pos (by rfl)]
              clear hs hJ
              go_simp
              exact hK _ _ (Below.refl _ _) rfl
            refine grow.EachT.cons ?_ ?_
            · intro A W hB hs hJ K hK
              have s0 : A.tmps.getD 23 undef = .pointer (some ⟨b, 4, none⟩) := hJ 5 23 (by kernel_rfl) (by kernel_rfl)
              simp at s0
              have kk := upc hB kl
              rw [if_pos (by rfl)]
              clear hs hJ
              go_simp
              exact hK _ _ (Below.refl _ _) rfl
            refine grow.EachT.cons ?_ ?_
            · intro A W hB hs hJ K hK
              have s0 : A.tmps.getD 24 undef = .pointer pl := hJ 6 24 (by kernel_rfl) (by kernel_rfl)
              simp at s0
              rw [if_pos (by rfl)]
              clear hs hJ
              go_simp
              go_at_call 117
              refine (total_any (Hl.out.up hB)).mono ?_
              rintro e W2 ⟨rfl, hbn⟩
              exact hK _ _ hbn rfl
            refine grow.EachT.cons ?_ ?_
            · intro A W hB hs hJ K hK
              have s0 : A.tmps.getD 19 undef = .iface 103 (.agg #[]) := hJ 1 19 (by kernel_rfl) (by kernel_rfl)
              simp at s0
              have s1 : A.tmps.getD 20 undef = .agg #[.bool (so).isSome, .int .i64 ((so).getD 0)] := hJ 2 20 (by kernel_rfl) (by kernel_rfl)
              simp at s1
              have s2 : A.tmps.getD 25 undef = .agg #[.bool (sm l).isSome, .int .i64 ((sm l).getD 0)] := hJ 7 25 (by kernel_rfl) (by kernel_rfl)
              simp at s2
              have hm := mJoin
              rw [if_pos (by rfl)]
              clear hs hJ
              go_simp
              refine (Join_any _ so (sm l)).mono ?_
              rintro e W2 ⟨rfl, hbn⟩
              exact hK _ _ hbn rfl
            refine grow.EachT.cons ?_ ?_
            · intro A W hB hs hJ K hK
              rw [if_pos (by rfl)]
              clear hs hJ
              go_simp
              exact hK _ _ (belowAlloc _ _) ⟨_, rfl, hB.size, heap_alloc_new _ _⟩
            exact grow.EachT.nil
          case fin =>
            intro f W hB hF
            have f0 : f 0 = .agg #[] := hF 0 (by decide)
            have f1 : f 1 = .iface 103 (.agg #[]) := hF 1 (by decide)
            have f2 : f 2 = .agg #[.bool (so).isSome, .int .i64 ((so).getD 0)] := hF 2 (by decide)
            have f3 : f 3 = .pointer (some ⟨b, 0, none⟩) := hF 3 (by decide)
            have f4 : f 4 = .pointer (some ⟨b, 0, none⟩) := hF 4 (by decide)
            have f5 : f 5 = .pointer (some ⟨b, 4, none⟩) := hF 5 (by decide)
            have f6 : f 6 = .pointer pl := hF 6 (by decide)
            have f7 : f 7 = .agg #[.bool (sm l).isSome, .int .i64 ((sm l).getD 0)] := hF 7 (by decide)
            have f8 : f 8 = .agg #[.bool (join so (sm l)).isSome, .int .i64 ((join so (sm l)).getD 0)] := hF 8 (by decide)
            obtain ⟨g_9, f9, hg_9, hk_9⟩ := hF 9 (by decide)
            clear hF
            intro A hA
            simp only [grow.puts, Act.put, List.getElem?_toArray, List.getElem?_cons_zero, List.getElem?_cons_succ, Option.bind_some, List.setIfInBounds_toArray, List.set_cons_zero, List.set_cons_succ, f0, f1, f2, f3, f4, f5, f6, f7, f8, f9] at hA
            subst hA
            simp only [List.drop_succ_cons, List.drop_zero]
            have k0 := bc0 hk_9; have k1 := bc1 hk_9; have f0 := bf (o := 0) hk_9; have f1 := bf (o := 1) hk_9
            go_wp2_with fail
            obtain ⟨W2, hW2⟩ : ∃ W2, W2 = ((W.setCell ⟨g_9, 0, none⟩ (.bool (join so (sm l)).isSome)).setCell ⟨g_9, 1, none⟩ (.int .i64 ((join so (sm l)).getD 0))) := ⟨_, rfl⟩
            rw [← hW2]
            have hb2 : Below wr.heap.size wr W2 := by rw [hW2]; exact belowSetS hB hg_9 (.bool (join so (sm l)).isSome) (.int .i64 ((join so (sm l)).getD 0))
            have hL2 : W2.heap[g_9]? = some (.cells #[.bool (join so (sm l)).isSome, .int .i64 ((join so (sm l)).getD 0)] 101 (0, 0)) := by rw [hW2]; exact bset hk_9
            clear hW2 hB hk_9 hg_9 k0 f0 k1 f1
            have HpL := Lib.hid (HP.out W2 (belowTrans Hw.out hb2) (join so (sm l)))
            rw [EL.out] at HpL
            have kL0 := bc0 hL2
            have kL1 := bc1 hL2
            have HL2 := Lib.hid hL2
            have Hb2 := Lib.hid hb2
            clear hL2 hb2
            go_wp2_with fail
            refine HpL.out.mono ?_
            rintro e W3 ⟨rfl, hb3⟩
            have Hb3 := Lib.hid (belowTrans Hb2.out hb3)
            have HL3 := Lib.hid (upb hb3 HL2.out)
            clear hb3 HpL kL0 kL1
            replace kl := upc Hb3.out kl
            replace kr := upc Hb3.out kr
            replace kx0 := upc Hb3.out kx0
            replace ks0 := upc Hb3.out ks0
            replace ks1 := upc Hb3.out ks1
            replace Hl := Lib.hid (Hl.out.up Hb3.out)
            replace Hr := Lib.hid (Hr.out.up Hb3.out)
            have Hs3 := Lib.hid (upb Hb3.out Hso.out)
            have He3 := Lib.hid (upb Hb3.out Hem.out)
            have Hw3 := Lib.hid (belowTrans Hw.out Hb3.out)
            have hz3 := Hb3.out.size
            replace Hbn := Lib.hid (upb Hb3.out Hbn.out)
            clear HL2 Hb2
            go_wp2_with fail
            have kL0 := bc0 HL3.out
            have kL1 := bc1 HL3.out
            refine grow.wp_grow_tail 12 [grow.kEq (.agg #[]), grow.kEq (.iface 103 (.agg #[])), grow.kEq (.agg #[.bool (join so (sm l)).isSome, .int .i64 ((join so (sm l)).getD 0)]), grow.kEq (.agg #[]), grow.kEq (.iface 103 (.agg #[])), grow.kEq (.pointer (some ⟨b, 0, none⟩)), grow.kEq (.pointer (some ⟨b, 0, none⟩)), grow.kEq (.pointer (some ⟨b, 0, none⟩)), grow.kEq (.int .i64 x), grow.kEq (.agg #[.bool (one x).isSome, .int .i64 ((one x).getD 0)]), grow.kEq (.agg #[.bool (join (join so (sm l)) (one x)).isSome, .int .i64 ((join (join so (sm l)) (one x)).getD 0)]), kBox W3.heap.size] (of_decide_eq_true (by kernel_rfl)) (by kernel_rfl) (by kernel_rfl) (by kernel_rfl) (by kernel_rfl) (by kernel_rfl) ?step ?fin
            case step =>
              refine grow.EachT.cons ?_ ?_
              · intro A W hB hs hJ K hK
                have s0 := hs 5 (by kernel_rfl)
                simp at s0
                rw [if_pos (by rfl)]
                clear hs hJ
                go_simp
                exact hK _ _ (Below.refl _ _) rfl
              refine grow.EachT.cons ?_ ?_
              · intro A W hB hs hJ K hK
                have s0 : A.tmps.getD 34 undef = .agg #[] := hJ 0 34 (by kernel_rfl) (by kernel_rfl)
                simp at s0
                rw [if_pos (by rfl)]
                clear hs hJ
                go_simp
                exact hK _ _ (Below.refl _ _) rfl
              refine grow.EachT.cons ?_ ?_
              · intro A W hB hs hJ K hK
                have s0 := hs 9 (by kernel_rfl)
                simp at s0
                have kk0 := upc hB kL0
                have kk1 := upc hB kL1
                rw [if_pos (by rfl)]
                clear hs hJ
                go_simp
                exact hK _ _ (Below.refl _ _) rfl
              refine grow.EachT.cons ?_ ?_
              · intro A W hB hs hJ K hK
                have s0 := hs 5 (by kernel_rfl)
                simp at s0
                rw [if_pos (by rfl)]
                clear hs hJ
                go_simp
                exact hK _ _ (Below.refl _ _) rfl
              refine grow.EachT.cons ?_ ?_
              · intro A W hB hs hJ K hK
                have s0 : A.tmps.getD 37 undef = .agg #[] := hJ 3 37 (by kernel_rfl) (by kernel_rfl)
                simp at s0
                rw [if_pos (by rfl)]
                clear hs hJ
                go_simp
                exact hK _ _ (Below.refl _ _) rfl
              refine grow.EachT.cons ?_ ?_
              · intro A W hB hs hJ K hK
                have s0 := hs 8 (by kernel_rfl)
                simp at s0
                rw [if_pos (by rfl)]
                clear hs hJ
                go_simp
                exact hK _ _ (Below.refl _ _) rfl
              refine grow.EachT.cons ?_ ?_
              · intro A W hB hs hJ K hK
                have s0 : A.tmps.getD 39 undef = .pointer (some ⟨b, 0, none⟩) := hJ 5 39 (by kernel_rfl) (by kernel_rfl)
                simp at s0
                rw [if_pos (by rfl)]
                clear hs hJ
                go_simp
                exact hK _ _ (Below.refl _ _) rfl
              refine grow.EachT.cons ?_ ?_
              · intro A W hB hs hJ K hK
                have s0 : A.tmps.getD 40 undef = .pointer (some ⟨b, 0, none⟩) := hJ 6 40 (by kernel_rfl) (by kernel_rfl)
                simp at s0
                rw [if_pos (by rfl)]
                clear hs hJ
                go_simp
                exact hK _ _ (Below.refl _ _) rfl
              refine grow.EachT.cons ?_ ?_
              · intro A W hB hs hJ K hK
                have s0 : A.tmps.getD 41 undef = .pointer (some ⟨b, 0, none⟩) := hJ 7 41 (by kernel_rfl) (by kernel_rfl)
                simp at s0
                have kk0 := upc hB kx0
                rw [if_pos (by rfl)]
                clear hs hJ
                go_simp
                exact hK _ _ (Below.refl _ _) rfl
              refine grow.EachT.cons ?_ ?_
              · intro A W hB hs hJ K hK
                have s0 : A.tmps.getD 38 undef = .iface 103 (.agg #[]) := hJ 4 38 (by kernel_rfl) (by kernel_rfl)
                simp at s0
                have s1 : A.tmps.getD 42 undef = .int .i64 x := hJ 8 42 (by kernel_rfl) (by kernel_rfl)
                simp at s1
                have hm := mOne
                rw [if_pos (by rfl)]
                clear hs hJ
                go_simp
                refine (One_any _ x).mono ?_
                rintro e W2 ⟨rfl, hbn⟩
                exact hK _ _ hbn rfl
              refine grow.EachT.cons ?_ ?_
              · intro A W hB hs hJ K hK
                have s0 : A.tmps.getD 35 undef = .iface 103 (.agg #[]) := hJ 1 35 (by kernel_rfl) (by kernel_rfl)
                simp at s0
                have s1 : A.tmps.getD 36 undef = .agg #[.bool (join so (sm l)).isSome, .int .i64 ((join so (sm l)).getD 0)] := hJ 2 36 (by kernel_rfl) (by kernel_rfl)
                simp at s1
                have s2 : A.tmps.getD 43 undef = .agg #[.bool (one x).isSome, .int .i64 ((one x).getD 0)] := hJ 9 43 (by kernel_rfl) (by kernel_rfl)
                simp at s2
                have hm := mJoin
                rw [if_pos (by rfl)]
                clear hs hJ
                go_simp
                refine (Join_any _ (join so (sm l)) (one x)).mono ?_
                rintro e W2 ⟨rfl, hbn⟩
                exact hK _ _ hbn rfl
              refine grow.EachT.cons ?_ ?_
              · intro A W hB hs hJ K hK
                rw [if_pos (by rfl)]
                clear hs hJ
                go_simp
                exact hK _ _ (belowAlloc _ _) ⟨_, rfl, hB.size, heap_alloc_new _ _⟩
              exact grow.EachT.nil
            case fin =>
              intro f W hB hF
              have f0 : f 0 = .agg #[] := hF 0 (by decide)
              have f1 : f 1 = .iface 103 (.agg #[]) := hF 1 (by decide)
              have f2 : f 2 = .agg #[.bool (join so (sm l)).isSome, .int .i64 ((join so (sm l)).getD 0)] := hF 2 (by decide)
              have f3 : f 3 = .agg #[] := hF 3 (by decide)
              have f4 : f 4 = .iface 103 (.agg #[]) := hF 4 (by decide)
              have f5 : f 5 = .pointer (some ⟨b, 0, none⟩) := hF 5 (by decide)
              have f6 : f 6 = .pointer (some ⟨b, 0, none⟩) := hF 6 (by decide)
              have f7 : f 7 = .pointer (some ⟨b, 0, none⟩) := hF 7 (by decide)
              have f8 : f 8 = .int .i64 x := hF 8 (by decide)
              have f9 : f 9 = .agg #[.bool (one x).isSome, .int .i64 ((one x).getD 0)] := hF 9 (by decide)
              have f10 : f 10 = .agg #[.bool (join (join so (sm l)) (one x)).isSome, .int .i64 ((join (join so (sm l)) (one x)).getD 0)] := hF 10 (by decide)
              obtain ⟨g2_11, f11, hg2_11, hk2_11⟩ := hF 11 (by decide)
              clear hF
              intro A hA
              simp only [grow.puts, Act.put, List.getElem?_toArray, List.getElem?_cons_zero, List.getElem?_cons_succ, Option.bind_some, List.setIfInBounds_toArray, List.set_cons_zero, List.set_cons_succ, f0, f1, f2, f3, f4, f5, f6, f7, f8, f9, f10, f11] at hA
              subst hA
              simp only [List.drop_succ_cons, List.drop_zero]
              have k0 := bc0 hk2_11; have k1 := bc1 hk2_11; have f0 := bf (o := 0) hk2_11; have f1 := bf (o := 1) hk2_11
              go_wp2_with fail
              obtain ⟨W4, hW4⟩ : ∃ W4, W4 = ((W.setCell ⟨g2_11, 0, none⟩ (.bool (join (join so (sm l)) (one x)).isSome)).setCell ⟨g2_11, 1, none⟩ (.int .i64 ((join (join so (sm l)) (one x)).getD 0))) := ⟨_, rfl⟩
              rw [← hW4]
              have hb4 : Below W3.heap.size W3 W4 := by rw [hW4]; exact belowSetS hB hg2_11 (.bool (join (join so (sm l)) (one x)).isSome) (.int .i64 ((join (join so (sm l)) (one x)).getD 0))
              have hK4 : W4.heap[g2_11]? = some (.cells #[.bool (join (join so (sm l)) (one x)).isSome, .int .i64 ((join (join so (sm l)) (one x)).getD 0)] 101 (0, 0)) := by rw [hW4]; exact bset hk2_11
              clear hW4 hB hk2_11 k0 f0 k1 f1
              have HpK := Lib.hid (HP.out W4 (belowTrans Hw3.out hb4) (join (join so (sm l)) (one x)))
              rw [EK.out] at HpK
              have kK0 := bc0 hK4
              have kK1 := bc1 hK4
              have HK4 := Lib.hid hK4
              have Hb4 := Lib.hid hb4
              clear hK4 hb4
              go_wp2_with fail
              refine HpK.out.mono ?_
              rintro e W5 ⟨rfl, hb5⟩
              have Hb5 := Lib.hid (belowTrans Hb4.out hb5)
              have HK5 := Lib.hid (upb hb5 HK4.out)
              clear hb5 HpK kK0 kK1
              replace kl := upc Hb5.out kl
              replace kr := upc Hb5.out kr
              replace Hl := Lib.hid (Hl.out.up Hb5.out)
              replace Hr := Lib.hid (Hr.out.up Hb5.out)
              replace Hs3 := Lib.hid (upb Hb5.out Hs3.out)
              replace He3 := Lib.hid (upb Hb5.out He3.out)
              replace Hw3 := Lib.hid (belowTrans Hw3.out Hb5.out)
              have hz5 := Hb5.out.size
              replace Hbn := Lib.hid (upb Hb5.out Hbn.out)
              clear HK4 Hb4
              go_wp2_with fail
              refine (size_any Hl.out).mono ?_
              rintro e w' ⟨rfl, rfl⟩
              go_wp2_with fail
              go_ret
              have hres : ((findT q none t : Nat) : Int) = (a : Int) + (l.size : Nat) := by rw [← hfin.out, findT, EL.out, EK.out]; simp
              exact ⟨by rw [hres]; rfl, Hw3.out⟩
        · have EK := Lib.hid (Bool.eq_false_iff.2 eK)
          clear eK
          go_wp2_with fail
          refine grow.wp_grow_tail 10 [grow.kEq (.agg #[]), grow.kEq (.iface 103 (.agg #[])), grow.kEq (.agg #[.bool (so).isSome, .int .i64 ((so).getD 0)]), grow.kEq (.pointer (some ⟨b, 0, none⟩)), grow.kEq (.pointer (some ⟨b, 0, none⟩)), grow.kEq (.pointer (some ⟨b, 4, none⟩)), grow.kEq (.pointer pl), grow.kEq (.agg #[.bool (sm l).isSome, .int .i64 ((sm l).getD 0)]), grow.kEq (.agg #[.bool (join so (sm l)).isSome, .int .i64 ((join so (sm l)).getD 0)]), kBox wr.heap.size] (of_decide_eq_true (by kernel_rfl)) (by kernel_rfl) (by kernel_rfl) (by kernel_rfl) (by kernel_rfl) (by kernel_rfl) ?step ?fin
          case step =>
            refine grow.EachT.cons ?_ ?_
            · intro A W hB hs hJ K hK
              have s0 := hs 5 (by kernel_rfl)
              simp at s0
              rw [if_pos (by rfl)]
              clear hs hJ
              go_simp
              exact hK _ _ (Below.refl _ _) rfl
            refine grow.EachT.cons ?_ ?_
            · intro A W hB hs hJ K hK
              have s0 : A.tmps.getD 18 undef = .agg #[] := hJ 0 18 (by kernel_rfl) (by kernel_rfl)
              simp at s0
              rw [if_pos (by rfl)]
              clear hs hJ
              go_simp
              exact hK _ _ (Below.refl _ _) rfl
            refine grow.EachT.cons ?_ ?_
            · intro A W hB hs hJ K hK
              have s0 := hs 7 (by kernel_rfl)
              simp at s0
              have kk0 := upc hB ks0
              have kk1 := upc hB ks1
              rw [if_pos (by rfl)]
              clear hs hJ
              go_simp
              exact hK _ _ (Below.refl _ _) rfl
            refine grow.EachT.cons ?_ ?_
            · intro A W hB hs hJ K hK
              have s0 := hs 8 (by kernel_rfl)
              simp at s0
              rw [if_pos (by rfl)]
              clear hs hJ
              go_simp
              exact hK _ _ (Below.refl _ _) rfl
            refine grow.EachT.cons ?_ ?_
            · intro A W hB hs hJ K hK
              have s0 : A.tmps.getD 21 undef = .pointer (some ⟨b, 0, none⟩) := hJ 3 21 (by kernel_rfl) (by kernel_rfl)
              simp at s0
              rw [if_pos (by rfl)]
              clear hs hJ
              go_simp
              exact hK _ _ (Below.refl _ _) rfl
            refine grow.EachT.cons ?_ ?_
            · intro A W hB hs hJ K hK
              have s0 : A.tmps.getD 22 undef = .pointer (some ⟨b, 0, none⟩) := hJ 4 22 (by kernel_rfl) (by kernel_rfl)
              simp at s0
              rw [if_pos (by rfl)]
              clear hs hJ
              go_simp
              exact hK _ _ (Below.refl _ _) rfl
            refine grow.EachT.cons ?_ ?_
            · intro A W hB hs hJ K hK
              have s0 : A.tmps.getD 23 undef = .pointer (some ⟨b, 4, none⟩) := hJ 5 23 (by kernel_rfl) (by kernel_rfl)
              simp at s0
              have kk := upc hB kl
              rw [if_pos (by rfl)]
              clear hs hJ
              go_simp
              exact hK _ _ (Below.refl _ _) rfl
            refine grow.EachT.cons ?_ ?_
            · intro A W hB hs hJ K hK
              have s0 : A.tmps.getD 24 undef = .pointer pl := hJ 6 24 (by kernel_rfl) (by kernel_rfl)
              simp at s0
              rw [if_pos (by rfl)]
              clear hs hJ
              go_simp
              go_at_call 117
              refine (total_any (Hl.out.up hB)).mono ?_
              rintro e W2 ⟨rfl, hbn⟩
              exact hK _ _ hbn rfl
            refine grow.EachT.cons ?_ ?_
            · intro A W hB hs hJ K hK
              have s0 : A.tmps.getD 19 undef = .iface 103 (.agg #[]) := hJ 1 19 (by kernel_rfl) (by kernel_rfl)
              simp at s0
              have s1 : A.tmps.getD 20 undef = .agg #[.bool (so).isSome, .int .i64 ((so).getD 0)] := hJ 2 20 (by kernel_rfl) (by kernel_rfl)
              simp at s1
              have s2 : A.tmps.getD 25 undef = .agg #[.bool (sm l).isSome, .int .i64 ((sm l).getD 0)] := hJ 7 25 (by kernel_rfl) (by kernel_rfl)
              simp at s2
              have hm := mJoin
              rw [if_pos (by rfl)]
              clear hs hJ
              go_simp
              refine (Join_any _ so (sm l)).mono ?_
              rintro e W2 ⟨rfl, hbn⟩
              exact hK _ _ hbn rfl
            refine grow.EachT.cons ?_ ?_
            · intro A W hB hs hJ K hK
              rw [if_pos (by rfl)]
              clear hs hJ
              go_simp
              exact hK _ _ (belowAlloc _ _) ⟨_, rfl, hB.size, heap_alloc_new _ _⟩
            exact grow.EachT.nil
          case fin =>
            intro f W hB hF
            have f0 : f 0 = .agg #[] := hF 0 (by decide)
            have f1 : f 1 = .iface 103 (.agg #[]) := hF 1 (by decide)
            have f2 : f 2 = .agg #[.bool (so).isSome, .int .i64 ((so).getD 0)] := hF 2 (by decide)
            have f3 : f 3 = .pointer (some ⟨b, 0, none⟩) := hF 3 (by decide)
            have f4 : f 4 = .pointer (some ⟨b, 0, none⟩) := hF 4 (by decide)
            have f5 : f 5 = .pointer (some ⟨b, 4, none⟩) := hF 5 (by decide)
            have f6 : f 6 = .pointer pl := hF 6 (by decide)
            have f7 : f 7 = .agg #[.bool (sm l).isSome, .int .i64 ((sm l).getD 0)] := hF 7 (by decide)
            have f8 : f 8 = .agg #[.bool (join so (sm l)).isSome, .int .i64 ((join so (sm l)).getD 0)] := hF 8 (by decide)
            obtain ⟨g_9, f9, hg_9, hk_9⟩ := hF 9 (by decide)
            clear hF
            intro A hA
            simp only [grow.puts, Act.put, List.getElem?_toArray, List.getElem?_cons_zero, List.getElem?_cons_succ, Option.bind_some, List.setIfInBounds_toArray, List.set_cons_zero, List.set_cons_succ, f0, f1, f2, f3, f4, f5, f6, f7, f8, f9] at hA
            subst hA
            simp only [List.drop_succ_cons, List.drop_zero]
            have k0 := bc0 hk_9; have k1 := bc1 hk_9; have f0 := bf (o := 0) hk_9; have f1 := bf (o := 1) hk_9
            go_wp2_with fail
            obtain ⟨W2, hW2⟩ : ∃ W2, W2 = ((W.setCell ⟨g_9, 0, none⟩ (.bool (join so (sm l)).isSome)).setCell ⟨g_9, 1, none⟩ (.int .i64 ((join so (sm l)).getD 0))) := ⟨_, rfl⟩
            rw [← hW2]
            have hb2 : Below wr.heap.size wr W2 := by rw [hW2]; exact belowSetS hB hg_9 (.bool (join so (sm l)).isSome) (.int .i64 ((join so (sm l)).getD 0))
            have hL2 : W2.heap[g_9]? = some (.cells #[.bool (join so (sm l)).isSome, .int .i64 ((join so (sm l)).getD 0)] 101 (0, 0)) := by rw [hW2]; exact bset hk_9
            clear hW2 hB hk_9 hg_9 k0 f0 k1 f1
            have HpL := Lib.hid (HP.out W2 (belowTrans Hw.out hb2) (join so (sm l)))
            rw [EL.out] at HpL
            have kL0 := bc0 hL2
            have kL1 := bc1 hL2
            have HL2 := Lib.hid hL2
            have Hb2 := Lib.hid hb2
            clear hL2 hb2
            go_wp2_with fail
            refine HpL.out.mono ?_
            rintro e W3 ⟨rfl, hb3⟩
            have Hb3 := Lib.hid (belowTrans Hb2.out hb3)
            have HL3 := Lib.hid (upb hb3 HL2.out)
            clear hb3 HpL kL0 kL1
            replace kl := upc Hb3.out kl
            replace kr := upc Hb3.out kr
            replace kx0 := upc Hb3.out kx0
            replace ks0 := upc Hb3.out ks0
            replace ks1 := upc Hb3.out ks1
            replace Hl := Lib.hid (Hl.out.up Hb3.out)
            replace Hr := Lib.hid (Hr.out.up Hb3.out)
            have Hs3 := Lib.hid (upb Hb3.out Hso.out)
            have He3 := Lib.hid (upb Hb3.out Hem.out)
            have Hw3 := Lib.hid (belowTrans Hw.out Hb3.out)
            have hz3 := Hb3.out.size
            replace Hbn := Lib.hid (upb Hb3.out Hbn.out)
            clear HL2 Hb2
            go_wp2_with fail
            have kL0 := bc0 HL3.out
            have kL1 := bc1 HL3.out
            refine grow.wp_grow_tail 12 [grow.kEq (.agg #[]), grow.kEq (.iface 103 (.agg #[])), grow.kEq (.agg #[.bool (join so (sm l)).isSome, .int .i64 ((join so (sm l)).getD 0)]), grow.kEq (.agg #[]), grow.kEq (.iface 103 (.agg #[])), grow.kEq (.pointer (some ⟨b, 0, none⟩)), grow.kEq (.pointer (some ⟨b, 0, none⟩)), grow.kEq (.pointer (some ⟨b, 0, none⟩)), grow.kEq (.int .i64 x), grow.kEq (.agg #[.bool (one x).isSome, .int .i64 ((one x).getD 0)]), grow.kEq (.agg #[.bool (join (join so (sm l)) (one x)).isSome, .int .i64 ((join (join so (sm l)) (one x)).getD 0)]), kBox W3.heap.size] (of_decide_eq_true (by kernel_rfl)) (by kernel_rfl) (by kernel_rfl) (by kernel_rfl) (by kernel_rfl) (by kernel_rfl) ?step ?fin
            case step =>
              refine grow.EachT.cons ?_ ?_
              · intro A W hB hs hJ K hK
                have s0 := hs 5 (by kernel_rfl)
                simp at s0
                rw [if_pos (by rfl)]
                clear hs hJ
                go_simp
                exact hK _ _ (Below.refl _ _) rfl
              refine grow.EachT.cons ?_ ?_
              · intro A W hB hs hJ K hK
                have s0 : A.tmps.getD 34 undef = .agg #[] := hJ 0 34 (by kernel_rfl) (by kernel_rfl)
                simp at s0
                rw [if_pos (by rfl)]
                clear hs hJ
                go_simp
                exact hK _ _ (Below.refl _ _) rfl
              refine grow.EachT.cons ?_ ?_
              · intro A W hB hs hJ K hK
                have s0 := hs 9 (by kernel_rfl)
                simp at s0
                have kk0 := upc hB kL0
                have kk1 := upc hB kL1
                rw [if_pos (by rfl)]
                clear hs hJ
                go_simp
                exact hK _ _ (Below.refl _ _) rfl
              refine grow.EachT.cons ?_ ?_
              · intro A W hB hs hJ K hK
                have s0 := hs 5 (by kernel_rfl)
                simp at s0
                rw [if_pos (by rfl)]
                clear hs hJ
                go_simp
                exact hK _ _ (Below.refl _ _) rfl
              refine grow.EachT.cons ?_ ?_
              · intro A W hB hs hJ K hK
                have s0 : A.tmps.getD 37 undef = .agg #[] := hJ 3 37 (by kernel_rfl) (by kernel_rfl)
                simp at s0
                rw [if_pos (by rfl)]
                clear hs hJ
                go_simp
                exact hK _ _ (Below.refl _ _) rfl
              refine grow.EachT.cons ?_ ?_
              · intro A W hB hs hJ K hK
                have s0 := hs 8 (by kernel_rfl)
                simp at s0
                rw [if_pos (by rfl)]
                clear hs hJ
                go_simp
                exact hK _ _ (Below.refl _ _) rfl
              refine grow.EachT.cons ?_ ?_
              · intro A W hB hs hJ K hK
                have s0 : A.tmps.getD 39 undef = .pointer (some ⟨b, 0, none⟩) := hJ 5 39 (by kernel_rfl) (by kernel_rfl)
                simp at s0
                rw [if_pos (by rfl)]
                clear hs hJ
                go_simp
                exact hK _ _ (Below.refl _ _) rfl
              refine grow.EachT.cons ?_ ?_
              · intro A W hB hs hJ K hK
                have s0 : A.tmps.getD 40 undef = .pointer (some ⟨b, 0, none⟩) := hJ 6 40 (by kernel_rfl) (by kernel_rfl)
                simp at s0
                rw [if_pos (by rfl)]
                clear hs hJ
                go_simp
                exact hK _ _ (Below.refl _ _) rfl
              refine grow.EachT.cons ?_ ?_
              · intro A W hB hs hJ K hK
                have s0 : A.tmps.getD 41 undef = .pointer (some ⟨b, 0, none⟩) := hJ 7 41 (by kernel_rfl) (by kernel_rfl)
                simp at s0
                have kk0 := upc hB kx0
                rw [if_pos (by rfl)]
                clear hs hJ
                go_simp
                exact hK _ _ (Below.refl _ _) rfl
              refine grow.EachT.cons ?_ ?_
              · intro A W hB hs hJ K hK
                have s0 : A.tmps.getD 38 undef = .iface 103 (.agg #[]) := hJ 4 38 (by kernel_rfl) (by kernel_rfl)
                simp at s0
                have s1 : A.tmps.getD 42 undef = .int .i64 x := hJ 8 42 (by kernel_rfl) (by kernel_rfl)
                simp at s1
                have hm := mOne
                rw [if_pos (by rfl)]
                clear hs hJ
                go_simp
                refine (One_any _ x).mono ?_
                rintro e W2 ⟨rfl, hbn⟩
                exact hK _ _ hbn rfl
              refine grow.EachT.cons ?_ ?_
              · intro A W hB hs hJ K hK
                have s0 : A.tmps.getD 35 undef = .iface 103 (.agg #[]) := hJ 1 35 (by kernel_rfl) (by kernel_rfl)
                simp at s0
                have s1 : A.tmps.getD 36 undef = .agg #[.bool (join so (sm l)).isSome, .int .i64 ((join so (sm l)).getD 0)] := hJ 2 36 (by kernel_rfl) (by kernel_rfl)
                simp at s1
                have s2 : A.tmps.getD 43 undef = .agg #[.bool (one x).isSome, .int .i64 ((one x).getD 0)] := hJ 9 43 (by kernel_rfl) (by kernel_rfl)
                simp at s2
                have hm := mJoin
                rw [if_pos (by rfl)]
                clear hs hJ
                go_simp
                refine (Join_any _ (join so (sm l)) (one x)).mono ?_
                rintro e W2 ⟨rfl, hbn⟩
                exact hK _ _ hbn rfl
              refine grow.EachT.cons ?_ ?_
              · intro A W hB hs hJ K hK
                rw [if_pos (by rfl)]
                clear hs hJ
                go_simp
                exact hK _ _ (belowAlloc _ _) ⟨_, rfl, hB.size, heap_alloc_new _ _⟩
              exact grow.EachT.nil
            case fin =>
              intro f W hB hF
              have f0 : f 0 = .agg #[] := hF 0 (by decide)
              have f1 : f 1 = .iface 103 (.agg #[]) := hF 1 (by decide)
              have f2 : f 2 = .agg #[.bool (join so (sm l)).isSome, .int .i64 ((join so (sm l)).getD 0)] := hF 2 (by decide)
              have f3 : f 3 = .agg #[] := hF 3 (by decide)
              have f4 : f 4 = .iface 103 (.agg #[]) := hF 4 (by decide)
              have f5 : f 5 = .pointer (some ⟨b, 0, none⟩) := hF 5 (by decide)
              have f6 : f 6 = .pointer (some ⟨b, 0, none⟩) := hF 6 (by decide)
              have f7 : f 7 = .pointer (some ⟨b, 0, none⟩) := hF 7 (by decide)
              have f8 : f 8 = .int .i64 x := hF 8 (by decide)
              have f9 : f 9 = .agg #[.bool (one x).isSome, .int .i64 ((one x).getD 0)] := hF 9 (by decide)
              have f10 : f 10 = .agg #[.bool (join (join so (sm l)) (one x)).isSome, .int .i64 ((join (join so (sm l)) (one x)).getD 0)] := hF 10 (by decide)
              obtain ⟨g2_11, f11, hg2_11, hk2_11⟩ := hF 11 (by decide)
              clear hF
              intro A hA
              simp only [grow.puts, Act.put, List.getElem?_toArray, List.getElem?_cons_zero, List.getElem?_cons_succ, Option.bind_some, List.setIfInBounds_toArray, List.set_cons_zero, List.set_cons_succ, f0, f1, f2, f3, f4, f5, f6, f7, f8, f9, f10, f11] at hA
              subst hA
              simp only [List.drop_succ_cons, List.drop_zero]
              have k0 := bc0 hk2_11; have k1 := bc1 hk2_11; have f0 := bf (o := 0) hk2_11; have f1 := bf (o := 1) hk2_11
              go_wp2_with fail
              obtain ⟨W4, hW4⟩ : ∃ W4, W4 = ((W.setCell ⟨g2_11, 0, none⟩ (.bool (join (join so (sm l)) (one x)).isSome)).setCell ⟨g2_11, 1, none⟩ (.int .i64 ((join (join so (sm l)) (one x)).getD 0))) := ⟨_, rfl⟩
              rw [← hW4]
              have hb4 : Below W3.heap.size W3 W4 := by rw [hW4]; exact belowSetS hB hg2_11 (.bool (join (join so (sm l)) (one x)).isSome) (.int .i64 ((join (join so (sm l)) (one x)).getD 0))
              have hK4 : W4.heap[g2_11]? = some (.cells #[.bool (join (join so (sm l)) (one x)).isSome, .int .i64 ((join (join so (sm l)) (one x)).getD 0)] 101 (0, 0)) := by rw [hW4]; exact bset hk2_11
              clear hW4 hB hk2_11 k0 f0 k1 f1
              have HpK := Lib.hid (HP.out W4 (belowTrans Hw3.out hb4) (join (join so (sm l)) (one x)))
              rw [EK.out] at HpK
              have kK0 := bc0 hK4
              have kK1 := bc1 hK4
              have HK4 := Lib.hid hK4
              have Hb4 := Lib.hid hb4
              clear hK4 hb4
              go_wp2_with fail
              refine HpK.out.mono ?_
              rintro e W5 ⟨rfl, hb5⟩
              have Hb5 := Lib.hid (belowTrans Hb4.out hb5)
              have HK5 := Lib.hid (upb hb5 HK4.out)
              clear hb5 HpK kK0 kK1
              replace kl := upc Hb5.out kl
              replace kr := upc Hb5.out kr
              replace Hl := Lib.hid (Hl.out.up Hb5.out)
              replace Hr := Lib.hid (Hr.out.up Hb5.out)
              replace Hs3 := Lib.hid (upb Hb5.out Hs3.out)
              replace He3 := Lib.hid (upb Hb5.out He3.out)
              replace Hw3 := Lib.hid (belowTrans Hw3.out Hb5.out)
              have hz5 := Hb5.out.size
              replace Hbn := Lib.hid (upb Hb5.out Hbn.out)
              clear HK4 Hb4
              go_wp2_with fail
              have kK0 := bc0 HK5.out
              have kK1 := bc1 HK5.out
              have hgS : ∀ b ∈ [w1.heap.size], ∃ c ty fz, W5.heap[b]? = some (.cells c ty fz) ∧ ty ≠ 142 := fun b hb => by simp at hb; subst hb; exact ⟨_, _, _, Hs3.out, by decide⟩
              have HlS := Lib.hid (fun W (hB : grow.BelowS [w1.heap.size] W5 W) => InUpS Hl.out hgS hB)
              have HrS := Lib.hid (fun W (hB : grow.BelowS [w1.heap.size] W5 W) => InUpS Hr.out hgS hB)
              have Hnb : Hid (b ∉ [w1.heap.size]) := Lib.hid (fun hb => by simp at hb; have h1 := Hbn.out; rw [hb, Hs3.out] at h1; cases h1)
              have Hng : Hid (g2_11 ∉ [w1.heap.size]) := Lib.hid (fun hb => by simp at hb; omega)
              clear hgS
              refine grow.wp_grow_dag [w1.heap.size] [grow.kEq (.agg #[.bool (join (join so (sm l)) (one x)).isSome, .int .i64 ((join (join so (sm l)) (one x)).getD 0)]), grow.kEq (.int .i64 (a : Nat)), grow.kEq (.pointer (some ⟨b, 0, none⟩)), grow.kEq (.pointer (some ⟨b, 0, none⟩)), grow.kEq (.pointer (some ⟨b, 4, none⟩)), grow.kEq (.pointer pl), grow.kEq (.int .i64 (l.size : Nat)), grow.kEq (.int .i64 ((a : Int) + (l.size : Nat))), grow.kEq (.int .i64 ((a : Int) + (l.size : Nat) + 1)), grow.kEq (.pointer (some ⟨b, 0, none⟩)), grow.kEq (.pointer (some ⟨b, 0, none⟩)), grow.kEq (.pointer (some ⟨b, 5, none⟩)), grow.kEq (.pointer pr), grow.kHeap w1.heap.size (.cells #[.bool (join (join so (sm l)) (one x)).isSome, .int .i64 ((join (join so (sm l)) (one x)).getD 0)] 101), grow.kEq (.int .i64 ((a : Int) + (l.size : Nat) + 1)), grow.kEq (.pointer pr)] [none, none, none, none, none, none, none, none, none, none, none, none, none, some (w1.heap.size), none, none] (grow.sps_of (by simp)) (by kernel_rfl) (by kernel_rfl) (by kernel_rfl) (by kernel_rfl) ?monoS ?step ?fin
              case monoS =>
                refine grow.monoS_of ?_
                intro i hi j b hne hsj
                match i, hi with
                | 0, _ => exact fun _ _ _ _ h => h
                | 1, _ => exact fun _ _ _ _ h => h
                | 2, _ => exact fun _ _ _ _ h => h
                | 3, _ => exact fun _ _ _ _ h => h
                | 4, _ => exact fun _ _ _ _ h => h
                | 5, _ => exact fun _ _ _ _ h => h
                | 6, _ => exact fun _ _ _ _ h => h
                | 7, _ => exact fun _ _ _ _ h => h
                | 8, _ => exact fun _ _ _ _ h => h
                | 9, _ => exact fun _ _ _ _ h => h
                | 10, _ => exact fun _ _ _ _ h => h
                | 11, _ => exact fun _ _ _ _ h => h
                | 12, _ => exact fun _ _ _ _ h => h
                | 13, _ => exact absurd (grow.only_of (s := 13) (by kernel_rfl) hsj) hne
                | 14, _ => exact fun _ _ _ _ h => h
                | 15, _ => exact fun _ _ _ _ h => h
                | i + 16, hi => simp at hi; omega
              case step =>
                refine grow.EachD.cons ?_ ?_
                · intro A W hB hs hJ K hK
                  have s0 := hs 10 (by kernel_rfl)
                  simp at s0
                  have kk0 := hB.upc (a := ⟨g2_11, 0, none⟩) Hng.out kK0
                  have kk1 := hB.upc (a := ⟨g2_11, 1, none⟩) Hng.out kK1
                  rw [if_pos (by rfl)]
                  clear hs hJ
                  go_simp
                  exact hK _ _ (Below.refl _ _) rfl
                refine grow.EachD.cons ?_ ?_
                · intro A W hB hs hJ K hK
                  have s0 := hs 6 (by kernel_rfl)
                  simp at s0
                  rw [if_pos (by rfl)]
                  clear hs hJ
                  go_simp
                  exact hK _ _ (Below.refl _ _) rfl
                refine grow.EachD.cons ?_ ?_
                · intro A W hB hs hJ K hK
                  have s0 := hs 8 (by kernel_rfl)
                  simp at s0
                  rw [if_pos (by rfl)]
                  clear hs hJ
                  go_simp
                  exact hK _ _ (Below.refl _ _) rfl
                refine grow.EachD.cons ?_ ?_
                · intro A W hB hs hJ K hK
                  have s0 : A.tmps.getD 51 undef = .pointer (some ⟨b, 0, none⟩) := hJ 2 51 (by kernel_rfl) (by kernel_rfl)
                  simp at s0
                  rw [if_pos (by rfl)]
                  clear hs hJ
                  go_simp
                  exact hK _ _ (Below.refl _ _) rfl
                refine grow.EachD.cons ?_ ?_
                · intro A W hB hs hJ K hK
                  have s0 : A.tmps.getD 52 undef = .pointer (some ⟨b, 0, none⟩) := hJ 3 52 (by kernel_rfl) (by kernel_rfl)
                  simp at s0
                  rw [if_pos (by rfl)]
                  clear hs hJ
                  go_simp
                  exact hK _ _ (Below.refl _ _) rfl
                refine grow.EachD.cons ?_ ?_
                · intro A W hB hs hJ K hK
                  have s0 : A.tmps.getD 53 undef = .pointer (some ⟨b, 4, none⟩) := hJ 4 53 (by kernel_rfl) (by kernel_rfl)
                  simp at s0
                  have kk := hB.upc Hnb.out kl
                  rw [if_pos (by rfl)]
                  clear hs hJ
                  go_simp
                  exact hK _ _ (Below.refl _ _) rfl
                refine grow.EachD.cons ?_ ?_
                · intro A W hB hs hJ K hK
                  have s0 : A.tmps.getD 54 undef = .pointer pl := hJ 5 54 (by kernel_rfl) (by kernel_rfl)
                  simp at s0
                  rw [if_pos (by rfl)]
                  clear hs hJ
                  go_simp
                  go_at_call 108
                  refine (size_any (HlS.out W hB)).mono ?_
                  rintro e W2 ⟨rfl, rfl⟩
                  exact hK _ _ (Below.refl _ _) rfl
                refine grow.EachD.cons ?_ ?_
                · intro A W hB hs hJ K hK
                  have s0 : A.tmps.getD 50 undef = .int .i64 (a : Nat) := hJ 1 50 (by kernel_rfl) (by kernel_rfl)
                  simp at s0
                  have s1 : A.tmps.getD 55 undef = .int .i64 (l.size : Nat) := hJ 6 55 (by kernel_rfl) (by kernel_rfl)
                  simp at s1
                  have hw : IntKind.i64.wrap ((a : Int) + (l.size : Nat)) = (a : Int) + (l.size : Nat) := IntWalk.i64_in _ (by omega)
                  rw [if_pos (by rfl)]
                  clear hs hJ
                  go_simp
                  exact hK _ _ (Below.refl _ _) rfl
                refine grow.EachD.cons ?_ ?_
                · intro A W hB hs hJ K hK
                  have s0 : A.tmps.getD 56 undef = .int .i64 ((a : Int) + (l.size : Nat)) := hJ 7 56 (by kernel_rfl) (by kernel_rfl)
                  simp at s0
                  have hw : IntKind.i64.wrap ((a : Int) + (l.size : Nat) + 1) = (a : Int) + (l.size : Nat) + 1 := IntWalk.i64_in _ (by omega)
                  rw [if_pos (by rfl)]
                  clear hs hJ
                  go_simp
                  exact hK _ _ (Below.refl _ _) rfl
                refine grow.EachD.cons ?_ ?_
                · intro A W hB hs hJ K hK
                  have s0 := hs 8 (by kernel_rfl)
                  simp at s0
                  rw [if_pos (by rfl)]
                  clear hs hJ
                  go_simp
                  exact hK _ _ (Below.refl _ _) rfl
                refine grow.EachD.cons ?_ ?_
                · intro A W hB hs hJ K hK
                  have s0 : A.tmps.getD 58 undef = .pointer (some ⟨b, 0, none⟩) := hJ 9 58 (by kernel_rfl) (by kernel_rfl)
                  simp at s0
                  rw [if_pos (by rfl)]
                  clear hs hJ
                  go_simp
                  exact hK _ _ (Below.refl _ _) rfl
                refine grow.EachD.cons ?_ ?_
                · intro A W hB hs hJ K hK
                  have s0 : A.tmps.getD 59 undef = .pointer (some ⟨b, 0, none⟩) := hJ 10 59 (by kernel_rfl) (by kernel_rfl)
                  simp at s0
                  rw [if_pos (by rfl)]
                  clear hs hJ
                  go_simp
                  exact hK _ _ (Below.refl _ _) rfl
                refine grow.EachD.cons ?_ ?_
                · intro A W hB hs hJ K hK
                  have s0 : A.tmps.getD 60 undef = .pointer (some ⟨b, 5, none⟩) := hJ 11 60 (by kernel_rfl) (by kernel_rfl)
                  simp at s0
                  have kk := hB.upc Hnb.out kr
                  rw [if_pos (by rfl)]
                  clear hs hJ
                  go_simp
                  exact hK _ _ (Below.refl _ _) rfl
                refine grow.EachD.cons ?_ ?_
                · intro A W hB hs hJ K hK
                  have s0 := hs 7 (by kernel_rfl)
                  simp at s0
                  have s1 : A.tmps.getD 49 undef = .agg #[.bool (join (join so (sm l)) (one x)).isSome, .int .i64 ((join (join so (sm l)) (one x)).getD 0)] := hJ 0 49 (by kernel_rfl) (by kernel_rfl)
                  simp at s1
                  obtain ⟨c', hc', hcs⟩ := hB.typ _ _ _ _ Hs3.out
                  obtain ⟨u, v, rfl⟩ := grow.size2 (show c'.size = 2 from hcs)
                  have k0 := bc0 hc'; have k1 := bc1 hc'; have f0 := bf (o := 0) hc'; have f1 := bf (o := 1) hc'
                  have Hc' := Lib.hid hc'
                  clear hc' hcs
                  rw [if_pos (by rfl)]
                  clear hs hJ
                  go_simp
                  exact hK undef _ ((grow.BelowS.set [w1.heap.size] _ _ 0 (by simp) _).trans (grow.BelowS.set [w1.heap.size] _ _ 1 (by simp) _)) (bset Hc'.out)
                refine grow.EachD.cons ?_ ?_
                · intro A W hB hs hJ K hK
                  have s0 : A.tmps.getD 57 undef = .int .i64 ((a : Int) + (l.size : Nat) + 1) := hJ 8 57 (by kernel_rfl) (by kernel_rfl)
                  simp at s0
                  rw [if_pos (by rfl)]
                  clear hs hJ
                  go_simp
                  exact hK _ _ (Below.refl _ _) rfl
                refine grow.EachD.cons ?_ ?_
                · intro A W hB hs hJ K hK
                  have s0 : A.tmps.getD 61 undef = .pointer pr := hJ 12 61 (by kernel_rfl) (by kernel_rfl)
                  simp at s0
                  rw [if_pos (by rfl)]
                  clear hs hJ
                  go_simp
                  exact hK _ _ (Below.refl _ _) rfl
                exact grow.EachD.nil
              case fin =>
                intro f W hB hF
                have f0 : f 0 = .agg #[.bool (join (join so (sm l)) (one x)).isSome, .int .i64 ((join (join so (sm l)) (one x)).getD 0)] := hF 0 (by decide)
                have f1 : f 1 = .int .i64 (a : Nat) := hF 1 (by decide)
                have f2 : f 2 = .pointer (some ⟨b, 0, none⟩) := hF 2 (by decide)
                have f3 : f 3 = .pointer (some ⟨b, 0, none⟩) := hF 3 (by decide)
                have f4 : f 4 = .pointer (some ⟨b, 4, none⟩) := hF 4 (by decide)
                have f5 : f 5 = .pointer pl := hF 5 (by decide)
                have f6 : f 6 = .int .i64 (l.size : Nat) := hF 6 (by decide)
                have f7 : f 7 = .int .i64 ((a : Int) + (l.size : Nat)) := hF 7 (by decide)
                have f8 : f 8 = .int .i64 ((a : Int) + (l.size : Nat) + 1) := hF 8 (by decide)
                have f9 : f 9 = .pointer (some ⟨b, 0, none⟩) := hF 9 (by decide)
                have f10 : f 10 = .pointer (some ⟨b, 0, none⟩) := hF 10 (by decide)
                have f11 : f 11 = .pointer (some ⟨b, 5, none⟩) := hF 11 (by decide)
                have f12 : f 12 = .pointer pr := hF 12 (by decide)
                have hst13 := hF 13 (by decide)
                have f14 : f 14 = .int .i64 ((a : Int) + (l.size : Nat) + 1) := hF 14 (by decide)
                have f15 : f 15 = .pointer pr := hF 15 (by decide)
                clear hF
                intro A hA
                simp only [List.length_cons, List.length_nil, Nat.reduceAdd, grow.puts, Act.put, List.getElem?_toArray, List.getElem?_cons_zero, List.getElem?_cons_succ, Option.bind_some, List.setIfInBounds_toArray, List.set_cons_zero, List.set_cons_succ, f0, f1, f2, f3, f4, f5, f6, f7, f8, f9, f10, f11, f12, f14, f15] at hA
                subst hA
                have Hr6 := Lib.hid (HrS.out W hB)
                have Hs6 := Lib.hid hst13
                have He6 := Lib.hid (hB.up (by simp; omega) He3.out)
                have Hw6 : Hid (Below w.heap.size w W) := Lib.hid (Hw3.out.trans (hB.below Hw3.out.size (fun b hb => by simp at hb; omega)))
                have hz6 := hB.size
                clear hst13 hB
                go_wp2_with fail
                go_roundg (r.size)
                case measure => omega
                case rel => exact ⟨a + l.size + 1, pr, by go_num, rfl, Lib.hid ⟨r, join (join so (sm l)) (one x), rfl, Hr6.out, Hs6.out, Hw6.out, by rw [← hfin.out, findT, EL.out, EK.out]; simp; omega, He6.out, by omega, by omega⟩⟩
end Go.Proofs.Ytnigadnjppeckaa.manyO
