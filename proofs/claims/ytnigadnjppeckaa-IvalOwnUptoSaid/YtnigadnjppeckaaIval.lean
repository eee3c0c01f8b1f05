/- Package ival: spans, over many things. (Printed by iv.py.) -/
import Derived.Test.YtnigadnjppeckaaManyI6
import Derived.Test.YtnigadnjppeckaaManyI7
import Derived.Test.YtnigadnjppeckaaCat
import Derived.Test.YtnigadnjppeckaaKeepT
import Derived.Test.YtnigadnjppeckaaGrowR
namespace Go.Proofs.Ytnigadnjppeckaa.ival
open Go.RowKit
open manyI (RetM RetSpM Is q_add q_over q_reach findT findT_le V S sm OwnV ReadsV RetV)

abbrev In := manyI.In

set_option maxHeartbeats 400000 in
theorem Len_any (B : Nat) (w : World) (p : Option Addr) (t : BT V) (h : In B w p t) :
    Calls Try.prog 26 #[.agg #[.pointer p]] w fun e w' => e = .returned (.int .i64 (t.size : Nat)) ∧ Below w.heap.size w w' := by
  have Hc := Lib.hid (manyI.Len_any B _ p t (h.up (belowAlloc w (.cells #[.pointer p] 62))))
  clear h
  go_enter Try.func26, Try.ntmps26
  go_wp2_with fail
  refine Hc.out.mono ?_
  rintro e w1 ⟨rfl, hb⟩
  have Hb := Lib.hid (belowTrans (belowAlloc _ _) hb)
  clear hb
  go_wp2_with fail
  go_ret
  exact ⟨rfl, Hb.out⟩

set_option maxHeartbeats 1000000 in
theorem Spans_any (B : Nat) (w : World) (p : Option Addr) (t : BT V) (h : In B w p t) (hn : t.size ≤ 5864062014677) :
    Calls Try.prog 27 #[.agg #[.pointer p]] w (RetV w t.inorder) := by
  have Hc := Lib.hid (manyI.all_any B _ p t (h.up (belowAlloc w (.cells #[.pointer p] 62))) hn)
  clear h
  go_enter Try.func27, Try.ntmps27
  go_wp2_with fail
  refine Hc.out.mono ?_
  rintro e w1 ⟨a, c, rfl, ho, hb⟩
  have hi : OwnV w1 w.heap.size (.slice a t.inorder.length c) t.inorder := ho.lower (by simp)
  have Hi := Lib.hid hi
  have Hb := Lib.hid (belowTrans (belowAlloc _ _) hb)
  clear ho hb hi
  go_wp2_with fail
  go_ret
  exact RetV.mk Hi.out Hb.out

set_option maxRecDepth 100000 in
set_option maxHeartbeats 2000000 in
theorem Add_any (B : Nat) (w : World) (p : Option Addr) (t : BT V) (v : V) (hB : B ≤ w.heap.size) (h : In B w p t) (hle : v.1 ≤ v.2.1) (hs : t.size ≤ 1152921504606820000) :
    Calls Try.prog 25 #[.agg #[.pointer p], .agg #[.int .i64 (v).1, .int .i64 (v).2.1, .int .i64 (v).2.2]] w fun e w' => ∃ q u, e = .returned (.tuple #[.agg #[.pointer q], .nilIface]) ∧ u.size = t.size + 1 ∧ In B w' q u ∧ Below w.heap.size w w' := by
  obtain ⟨V0, hV⟩ : ∃ V0, V0 = ((w.alloc (.cells #[.pointer p] 62)).alloc (.cells #[.int .i64 (v).1, .int .i64 (v).2.1, .int .i64 (v).2.2] 68)).alloc (.cells #[.pointer none] 62) := ⟨_, rfl⟩
  have hb0 : Below w.heap.size w V0 := by rw [hV]; exact manyI.below3 _ _ _ _
  have kp : V0.cell? ⟨w.heap.size, 0, none⟩ = some (.pointer p) := by rw [hV]; exact upc (belowTrans (belowAlloc _ (.cells #[.int .i64 (v).1, .int .i64 (v).2.1, .int .i64 (v).2.2] 68)) (belowAlloc _ (.cells #[.pointer none] 62))) (cell_of_one (heap_alloc_new w (.cells #[.pointer p] 62)))
  have hk1 : V0.heap[w.heap.size + 1 + 1]? = some (.cells #[.pointer none] 62 (0, 0)) := by
    rw [hV]
    have h := heapNew2 (w.alloc (.cells #[.pointer p] 62)) (.cells #[.int .i64 (v).1, .int .i64 (v).2.1, .int .i64 (v).2.2] 68) (.cells #[.pointer none] 62)
    simpa using h
  have hks : V0.heap[w.heap.size + 1]? = some (.cells #[.int .i64 (v).1, .int .i64 (v).2.1, .int .i64 (v).2.2] 68 (0, 0)) := by rw [hV]; exact upb (belowAlloc _ _) (heapNew2 w (.cells #[.pointer p] 62) (.cells #[.int .i64 (v).1, .int .i64 (v).2.1, .int .i64 (v).2.2] 68))
  have kv0 := manyI.vc0 hks
  have kv1 := manyI.vc1 hks
  have kv2 := manyI.vc2 hks
  have HF := Lib.hid (manyI.Find_add B V0 p t (w.heap.size + 1) v (szle hb0 hB) (h.up hb0) hs hks)
  have HB := Lib.hid (szle hb0 hB)
  have Hh := Lib.hid (h.up hb0)
  have K1 := Lib.hid hk1
  have Hb := Lib.hid hb0
  have HV := Lib.hid hV
  have hfl := findT_le (q_add v) t none
  obtain ⟨i, hi⟩ : ∃ i, i = findT (q_add v) none t := ⟨_, rfl⟩
  rw [← hi] at HF hfl
  have hc : decide (v.2.1 < v.1) = false := by simp; omega
  clear hb0 hB h hk1 hV hks hi
  go_enter Try.func25, Try.ntmps25
  go_wp2_with fail
  rw [← HV.out]
  go_wp2_with fail
  refine HF.out.mono ?_
  rintro e w1 ⟨rfl, hb1⟩
  replace kp := upc hb1 kp
  replace kv0 := upc hb1 kv0
  replace kv1 := upc hb1 kv1
  replace kv2 := upc hb1 kv2
  have HI := Lib.hid (manyI.Insert_any B w1 p t (i : Nat) v (szle hb1 HB.out) (Hh.out.up hb1) (by omega) (by omega) hs)
  replace K1 := Lib.hid (upb hb1 K1.out)
  replace Hb := Lib.hid (belowTrans Hb.out hb1)
  clear hb1 HF HV HB Hh
  go_wp2_with fail
  refine HI.out.mono ?_
  rintro e w2 ⟨q, u, rfl, i3, j3, hb2⟩
  have hk2 := upb hb2 K1.out
  have c1 := cell_of_one hk2
  have f1 := free_of_one hk2
  have I3 := Lib.hid i3
  have J3 := Lib.hid j3
  have K2 := Lib.hid hk2
  have Hb2 := Lib.hid (belowTrans Hb.out hb2)
  clear i3 j3 hk2 hb2 HI kp kv0 kv1 kv2 K1
  go_wp2_with fail
  have hr1 := one_setCell (u := .pointer q) K2.out
  have e1 := cell_of_one hr1
  exact bodyPost_ret (v := .tuple #[.agg #[.pointer q], .nilIface]) (by simp [results, Try.results25, go_sem, e1]) rfl ⟨q, u, rfl, I3.out.2, manyI.Holds.store1 J3.out K2.out (by decide), Hb2.out.setCell (p := ⟨w.heap.size + 1 + 1, 0, none⟩) (by show w.heap.size ≤ w.heap.size + 1 + 1; omega) _⟩

/-- WHILE OVER GATHERS -/
structure OSt (B : Nat) (w : World) (n b7 base : Nat) (x : Int) (p : Option Addr) (t : BT V) (xs : List V) (v : Value) (W : World) : Prop where
  hn : xs.length + t.size ≤ n
  hin : In B W p t
  h7 : W.heap[b7]? = some (.cells #[.pointer p] 60 (0, 0))
  hl : W.heap[w.heap.size + 1]? = some (.cells #[.int .i64 x] 3 (0, 0))
  own : OwnV W base v xs
  bel : Below w.heap.size w W
  hb : base ≤ W.heap.size
  hb7 : w.heap.size ≤ b7
  hw : w.heap.size + 1 < b7
  hlt : b7 < base
theorem OSt.up {B : Nat} {w : World} {n b7 base : Nat} {x : Int} {p : Option Addr} {t : BT V} {xs : List V} {v : Value} {W W' : World} (h : OSt B w n b7 base x p t xs v W) (hb : Below W.heap.size W W') : OSt B w n b7 base x p t xs v W' :=
  ⟨h.hn, h.hin.up hb, upb hb h.h7, upb hb h.hl, h.own.up hb, belowTrans h.bel hb, Nat.le_trans h.hb hb.size, h.hb7, h.hw, h.hlt⟩
theorem OSt.app {B : Nat} {w : World} {n b7 base : Nat} {x : Int} {p : Option Addr} {t : BT V} {xs : List V} {y : V} {v v' : Value} {W W' : World} {o : Obj} (h : OSt B w n b7 base x p t xs v W) (_ht : 0 < t.size)
    (hown' : W'.ownsRow base 68 3 v' (xs.length + 1) (manyI.cellsV xs ++ [.int .i64 (y).1, .int .i64 (y).2.1, .int .i64 (y).2.2])) (hg : (W.alloc o).grownBy W' v.ownBlock) :
    In B W' p t ∧ W'.heap[b7]? = some (.cells #[.pointer p] 60 (0, 0)) ∧ W'.heap[w.heap.size + 1]? = some (.cells #[.int .i64 x] 3 (0, 0)) ∧ OwnV W' base v' (xs ++ [y]) ∧ Below w.heap.size w W' ∧ base ≤ W'.heap.size := by
  have hk : KeepT [68] W W' := KeepT.grown h.own hg
  have hsz : W.heap.size ≤ W'.heap.size := Nat.le_trans (by simp) hg.size
  refine ⟨h.hin.keep hk (by decide), hk _ _ _ _ h.h7 (by decide), hk _ _ _ _ h.hl (by decide), ?_, ?_, Nat.le_trans h.hb hsz⟩
  · unfold OwnV
    rw [manyI.cellsV_append, List.length_append]
    exact hown'
  · refine ⟨hg.os.trans h.bel.os, hg.tape.trans h.bel.tape, hg.output.trans h.bel.output, Nat.le_trans h.bel.size hsz, fun k hk' => ?_⟩
    have hkW : k < W.heap.size := Nat.lt_of_lt_of_le hk' h.bel.size
    refine (hg.block k (by simp; omega) ?_).trans ((Below.heap_alloc W o k hkW).trans (h.bel.block k hk'))
    intro e
    have := (h.own.block k e.symm).1
    have h1 := h.hb7
    have h2 := h.hlt
    omega
/-- a block that holds a tree of no more than n things -/
def good (B n : Nat) (W : World) (g : Nat) : Prop := ∃ q t, W.heap[g]? = some (.cells #[.pointer q] 60 (0, 0)) ∧ In B W q t ∧ t.size ≤ n
/-- what the region keeps -/
structure Rel (B n n0 : Nat) (W W' : World) : Prop where
  os : W'.os = W.os
  tape : W'.tape = W.tape
  output : W'.output = W.output
  size : W.heap.size ≤ W'.heap.size
  low : ∀ k, k < n0 → k < W.heap.size → W'.heap[k]? = W.heap[k]?
  keep : ∀ (k : Nat) (c : Array Value) (ty : Nat) (fz : Nat × Nat), W.heap[k]? = some (Obj.cells c ty fz) → ty ≠ 60 → W'.heap[k]? = some (Obj.cells c ty fz)
  good : ∀ g, good B n W g → good B n W' g
theorem Rel.inn {B n n0 : Nat} {W W' : World} {p : Option Addr} {t : BT V} (h : Rel B n n0 W W') (hi : In B W p t) : In B W' p t :=
  Holds.keep (T := [60]) hi (fun k c ty fz hk ht => h.keep k c ty fz hk (by simpa using ht)) (by decide)
theorem Rel.of {B n n0 : Nat} {W W' : World} (h : Below W.heap.size W W') : Rel B n n0 W W' :=
  ⟨h.os, h.tape, h.output, h.size, fun k _ hk => h.block k hk, fun _ _ _ _ hk _ => upb h hk, fun _ ⟨q, t, h1, h2, h3⟩ => ⟨q, t, upb h h1, h2.up h, h3⟩⟩
theorem Rel.refl {B n n0 : Nat} (W : World) : Rel B n n0 W W := .of (Below.refl _ _)
theorem Rel.trans {B n n0 : Nat} (u v x : World) (h : Rel B n n0 u v) (k : Rel B n n0 v x) : Rel B n n0 u x :=
  ⟨k.os.trans h.os, k.tape.trans h.tape, k.output.trans h.output, Nat.le_trans h.size k.size, fun b h1 h2 => (k.low b h1 (Nat.lt_of_lt_of_le h2 h.size)).trans (h.low b h1 h2), fun b c ty fz h1 h2 => k.keep b c ty fz (h.keep b c ty fz h1 h2) h2, fun g hg => k.good g (h.good g hg)⟩
theorem Rel.set {B n n0 g : Nat} {W : World} {q : Option Addr} {t : BT V} (hg : ival.good B n W g) (h0 : n0 ≤ g) (hq : In B W q t) (ht : t.size ≤ n) : Rel B n n0 W (W.setCell ⟨g, 0, none⟩ (.pointer q)) := by
  obtain ⟨q0, t0, hc, _, _⟩ := hg
  have hkeep : ∀ (k : Nat) (c : Array Value) (ty : Nat) (fz : Nat × Nat), W.heap[k]? = some (Obj.cells c ty fz) → ty ≠ 60 → (W.setCell ⟨g, 0, none⟩ (.pointer q)).heap[k]? = some (Obj.cells c ty fz) := by
    intro k c ty fz hk hty
    refine (Below.heap_setCell _ _ _ _ ?_).trans hk
    intro e
    have e' : k = g := e
    rw [e', hc] at hk
    cases hk
    exact hty rfl
  refine ⟨rfl, rfl, rfl, by simp [World.setCell], fun k hk _ => Below.heap_setCell _ _ _ _ (by show k ≠ g; omega), hkeep, ?_⟩
  intro g' hg'
  obtain ⟨q1, t1, h1, h2, h3⟩ := hg'
  have hin : ∀ {p : Option Addr} {t : BT V}, In B W p t → In B (W.setCell ⟨g, 0, none⟩ (.pointer q)) p t := fun hi => Holds.keep (T := [60]) hi (fun k c ty fz hk ht => hkeep k c ty fz hk (by simpa using ht)) (by decide)
  by_cases e : g' = g
  · subst e
    exact ⟨q, t, one_setCell hc, hin hq, ht⟩
  · exact ⟨q1, t1, (Below.heap_setCell _ _ _ _ (by show g' ≠ g; exact e)).trans h1, hin h2, h3⟩
theorem Rel.cell {B n n0 : Nat} {W W' : World} (h : Rel B n n0 W W') {a : Addr} {v : Value} (ha : a.block < n0) (hc : W.cell? a = some v) : W'.cell? a = some v := by
  have hs : a.block < W.heap.size := by
    unfold World.cell? at hc
    rcases Nat.lt_or_ge a.block W.heap.size with h1 | h1
    · exact h1
    · rw [Array.getElem?_eq_none h1] at hc; cases hc
  unfold World.cell? at hc ⊢
  rw [h.low _ ha hs]
  exact hc
theorem Rel.below {B n n0 : Nat} {V0 W : World} (h : Rel B n n0 V0 W) (h0 : V0.heap.size = n0) : Below V0.heap.size V0 W :=
  ⟨h.os, h.tape, h.output, h.size, fun k hk => h.low k (by omega) hk⟩
def kGd (B n n0 : Nat) : Value → World → Prop := fun v W => ∃ g, v = .pointer (some ⟨g, 0, none⟩) ∧ n0 ≤ g ∧ good B n W g
def kT1 (B n : Nat) : Value → World → Prop := fun v W => ∃ q t, v = .agg #[.pointer q] ∧ t.size ≤ n ∧ In B W q t
def kSp (B n : Nat) : Value → World → Prop := fun v W => ∃ q q' t t', v = .tuple #[.agg #[.pointer q], .agg #[.pointer q']] ∧ t.size ≤ n ∧ t'.size ≤ n ∧ In B W q t ∧ In B W q' t'
theorem kGd.up {B n n0 : Nat} {v : Value} {W W' : World} (h : Rel B n n0 W W') (k : kGd B n n0 v W) : kGd B n n0 v W' := by
  obtain ⟨g, h1, h2, h3⟩ := k
  exact ⟨g, h1, h2, h.good g h3⟩
theorem kT1.up {B n n0 : Nat} {v : Value} {W W' : World} (h : Rel B n n0 W W') (k : kT1 B n v W) : kT1 B n v W' := by
  obtain ⟨q, t, h1, h2, h3⟩ := k
  exact ⟨q, t, h1, h2, h.inn h3⟩
theorem kSp.up {B n n0 : Nat} {v : Value} {W W' : World} (h : Rel B n n0 W W') (k : kSp B n v W) : kSp B n v W' := by
  obtain ⟨q, q', t, t', h1, h2, h3, h4, h5⟩ := k
  exact ⟨q, q', t, t', h1, h2, h3, h.inn h4, h.inn h5⟩

set_option maxRecDepth 100000 in
set_option maxHeartbeats 8000000 in
theorem Over_any (B : Nat) (w : World) (p : Option Addr) (t : BT V) (x : Int) (hB : B ≤ w.heap.size) (h : In B w p t) (hs : t.size ≤ 5864062014677) :
    Calls Try.prog 60 #[.agg #[.pointer p], .int .i64 x, .int .i64 x] w fun e w' => ∃ xs, xs.length ≤ t.size ∧ RetV w xs e w' := by
  obtain ⟨i0, hi1, hz0, hz1, hz2⟩ := info_parts manyI.infoV
  have Hi := Lib.hid (And.intro hi1 (And.intro hz0 (And.intro hz1 hz2)))
  obtain ⟨V0, hV⟩ : ∃ V0, V0 = ((w.alloc (.cells #[.pointer p] 62)).alloc (.cells #[.int .i64 x] 3)).alloc (.cells #[.int .i64 x] 3) := ⟨_, rfl⟩
  have hb0 : Below w.heap.size w V0 := by rw [hV]; exact manyI.below3 _ _ _ _
  have kp : V0.cell? ⟨w.heap.size, 0, none⟩ = some (.pointer p) := by rw [hV]; exact upc (belowTrans (belowAlloc _ (.cells #[.int .i64 x] 3)) (belowAlloc _ (.cells #[.int .i64 x] 3))) (cell_of_one (heap_alloc_new w (.cells #[.pointer p] 62)))
  have hlow : V0.heap[w.heap.size + 1]? = some (.cells #[.int .i64 x] 3 (0, 0)) := by rw [hV]; exact upb (belowAlloc _ _) (heapNew2 w (.cells #[.pointer p] 62) (.cells #[.int .i64 x] 3))
  have hhigh : V0.heap[w.heap.size + 1 + 1]? = some (.cells #[.int .i64 x] 3 (0, 0)) := by
    rw [hV]
    have h := heapNew2 (w.alloc (.cells #[.pointer p] 62)) (.cells #[.int .i64 x] 3) (.cells #[.int .i64 x] 3)
    simpa using h
  have klo := cell_of_one hlow
  have khi := cell_of_one hhigh
  have hfl := findT_le (q_over x) t none
  obtain ⟨i, hi⟩ : ∃ i, i = findT (q_over x) none t := ⟨_, rfl⟩
  have HF : ∀ W, Below V0.heap.size V0 W → Calls Try.prog 55 #[.agg #[.pointer p], .func (.func 98) #[] #[.pointer (some ⟨w.heap.size + 1 + 1, 0, none⟩)]] W fun e w' => e = .returned (.int .i64 (i : Nat)) ∧ Below W.heap.size W w' := fun W hW => by
    rw [hi]
    exact manyI.Find_over B W p t (w.heap.size + 1 + 1) x (szle hW (szle hb0 hB)) ((h.up hb0).up hW) (by omega) (upb hW hhigh)
  rw [← hi] at hfl
  have HB := Lib.hid (szle hb0 hB)
  have Hw0 := Lib.hid hB
  have Hh := Lib.hid (h.up hb0)
  have Hlow := Lib.hid hlow
  have Hb := Lib.hid hb0
  have HV := Lib.hid hV
  have HVs : Hid (V0.heap.size = w.heap.size + 3) := Lib.hid (by rw [hV]; simp)
  clear hb0 hB h hlow hhigh hV hi hi1 hz0 hz1 hz2
  go_enter Try.func60, Try.ntmps60
  go_wp2_with fail
  rw [← HV.out]
  go_wp2_with fail
  refine grow.wp_grow_rel (Rel B t.size (w.heap.size + 3)) Rel.trans (fun u => .of (belowDrew u)) [grow.rEq (.pointer (some ⟨w.heap.size, 0, none⟩)), grow.rEq (.agg #[.pointer p]), grow.rEq (.pointer (some ⟨w.heap.size, 0, none⟩)), grow.rEq (.agg #[.pointer p]), grow.rEq (.func (.func 98) #[] #[.pointer (some ⟨w.heap.size + 1 + 1, 0, none⟩)]), grow.rEq (.int .i64 (i : Nat)), kSp B t.size, kSp B t.size, kT1 B t.size, kT1 B t.size, kGd B t.size (w.heap.size + 3), kGd B t.size (w.heap.size + 3), grow.rAny, grow.rAny] (by kernel_rfl) (by kernel_rfl) (by kernel_rfl) (by kernel_rfl) ?monoR ?step ?fin
  case monoR =>
    refine grow.monoR_of ?_
    intro i hi
    match i, hi with
    | 0, _ => exact fun _ _ _ _ h => h
    | 1, _ => exact fun _ _ _ _ h => h
    | 2, _ => exact fun _ _ _ _ h => h
    | 3, _ => exact fun _ _ _ _ h => h
    | 4, _ => exact fun _ _ _ _ h => h
    | 5, _ => exact fun _ _ _ _ h => h
    | 6, _ => exact fun _ _ _ h k => kSp.up h k
    | 7, _ => exact fun _ _ _ h k => kSp.up h k
    | 8, _ => exact fun _ _ _ h k => kT1.up h k
    | 9, _ => exact fun _ _ _ h k => kT1.up h k
    | 10, _ => exact fun _ _ _ h k => kGd.up h k
    | 11, _ => exact fun _ _ _ h k => kGd.up h k
    | 12, _ => exact fun _ _ _ _ _ => trivial
    | 13, _ => exact fun _ _ _ _ _ => trivial
    | i + 14, hi => simp at hi; omega
  case step =>
    refine grow.EachR.cons ?_ ?_
    · intro A W hB hs hJ K hK
      have s0 := hs 3 (by kernel_rfl)
      simp at s0
      rw [if_pos (by rfl)]
      clear hs hJ
      go_simp
      exact hK _ _ (.refl _) rfl
    refine grow.EachR.cons ?_ ?_
    · intro A W hB hs hJ K hK
      have s0 : A.tmps.getD 15 undef = .pointer (some ⟨w.heap.size, 0, none⟩) := hJ 0 15 (by kernel_rfl) (by kernel_rfl)
      simp at s0
      have kk := hB.cell (by show w.heap.size < w.heap.size + 3; omega) kp
      rw [if_pos (by rfl)]
      clear hs hJ
      go_simp
      exact hK _ _ (.refl _) rfl
    refine grow.EachR.cons ?_ ?_
    · intro A W hB hs hJ K hK
      have s0 := hs 3 (by kernel_rfl)
      simp at s0
      rw [if_pos (by rfl)]
      clear hs hJ
      go_simp
      exact hK _ _ (.refl _) rfl
    refine grow.EachR.cons ?_ ?_
    · intro A W hB hs hJ K hK
      have s0 : A.tmps.getD 17 undef = .pointer (some ⟨w.heap.size, 0, none⟩) := hJ 2 17 (by kernel_rfl) (by kernel_rfl)
      simp at s0
      have kk := hB.cell (by show w.heap.size < w.heap.size + 3; omega) kp
      rw [if_pos (by rfl)]
      clear hs hJ
      go_simp
      exact hK _ _ (.refl _) rfl
    refine grow.EachR.cons ?_ ?_
    · intro A W hB hs hJ K hK
      have s0 := hs 5 (by kernel_rfl)
      simp at s0
      rw [if_pos (by rfl)]
      clear hs hJ
      go_simp
      exact hK _ _ (.refl _) rfl
    refine grow.EachR.cons ?_ ?_
    · intro A W hB hs hJ K hK
      have s0 : A.tmps.getD 18 undef = .agg #[.pointer p] := hJ 3 18 (by kernel_rfl) (by kernel_rfl)
      simp at s0
      have s1 : A.tmps.getD 19 undef = .func (.func 98) #[] #[.pointer (some ⟨w.heap.size + 1 + 1, 0, none⟩)] := hJ 4 19 (by kernel_rfl) (by kernel_rfl)
      simp at s1
      rw [if_pos (by rfl)]
      clear hs hJ
      go_simp
      go_at_call 55
      refine (HF W (hB.below HVs.out)).mono ?_
      rintro e W2 ⟨rfl, hbn⟩
      exact hK _ _ (.of hbn) rfl
    refine grow.EachR.cons ?_ ?_
    · intro A W hB hs hJ K hK
      have s0 : A.tmps.getD 16 undef = .agg #[.pointer p] := hJ 1 16 (by kernel_rfl) (by kernel_rfl)
      simp at s0
      have s1 : A.tmps.getD 20 undef = .int .i64 (i : Nat) := hJ 5 20 (by kernel_rfl) (by kernel_rfl)
      simp at s1
      rw [if_pos (by rfl)]
      clear hs hJ
      go_simp
      go_at_call 97
      refine (manyI.Split_any B W p t (i : Nat) (Nat.le_trans HB.out hB.size) (hB.inn Hh.out) (by omega) (by omega) (by omega)).mono ?_
      rintro e W2 ⟨q, r, u, s, rfl, i1, i2, j1, j2, hbn⟩
      exact hK _ _ (.of hbn) ⟨q, r, u, s, rfl, by have e := i1.2; omega, by have e := i2.2; omega, j1, j2⟩
    refine grow.EachR.cons ?_ ?_
    · intro A W hB hs hJ K hK
      obtain ⟨q, r, u, s, s0, z1, z2, j1, j2⟩ := hJ 6 21 (by kernel_rfl) (by kernel_rfl)
      simp at s0
      rw [if_pos (by rfl)]
      clear hs hJ
      go_simp
      exact hK _ _ (.refl _) ⟨q, r, u, s, rfl, z1, z2, j1, j2⟩
    refine grow.EachR.cons ?_ ?_
    · intro A W hB hs hJ K hK
      obtain ⟨q, r, u, s, s0, z1, z2, j1, j2⟩ := hJ 7 14 (by kernel_rfl) (by kernel_rfl)
      simp at s0
      rw [if_pos (by rfl)]
      clear hs hJ
      go_simp
      exact hK _ _ (.refl _) ⟨q, u, rfl, z1, j1⟩
    refine grow.EachR.cons ?_ ?_
    · intro A W hB hs hJ K hK
      obtain ⟨q, r, u, s, s0, z1, z2, j1, j2⟩ := hJ 7 14 (by kernel_rfl) (by kernel_rfl)
      simp at s0
      rw [if_pos (by rfl)]
      clear hs hJ
      go_simp
      exact hK _ _ (.refl _) ⟨r, s, rfl, z2, j2⟩
    refine grow.EachR.cons ?_ ?_
    · intro A W hB hs hJ K hK
      rw [if_pos (by rfl)]
      clear hs hJ
      go_simp
      exact hK _ _ (.of (belowAlloc _ _)) ⟨_, rfl, by have h1 := hB.size; have h2 := HVs.out; omega, none, .nil, heap_alloc_new _ _, rfl, Nat.zero_le _⟩
    refine grow.EachR.cons ?_ ?_
    · intro A W hB hs hJ K hK
      rw [if_pos (by rfl)]
      clear hs hJ
      go_simp
      exact hK _ _ (.of (belowAlloc _ _)) ⟨_, rfl, by have h1 := hB.size; have h2 := HVs.out; omega, none, .nil, heap_alloc_new _ _, rfl, Nat.zero_le _⟩
    refine grow.EachR.cons ?_ ?_
    · intro A W hB hs hJ K hK
      obtain ⟨g, s0, hg, ho⟩ := hJ 10 7 (by kernel_rfl) (by kernel_rfl)
      simp at s0
      obtain ⟨q, u, s1, z1, j1⟩ := hJ 8 22 (by kernel_rfl) (by kernel_rfl)
      simp at s1
      have HO := ho
      obtain ⟨q0, t0, hc0, -, -⟩ := ho
      have k0 := cell_of_one hc0
      have f0 := free_of_one hc0
      rw [if_pos (by rfl)]
      clear hs hJ
      go_simp
      exact hK undef _ (Rel.set HO hg j1 z1) trivial
    refine grow.EachR.cons ?_ ?_
    · intro A W hB hs hJ K hK
      obtain ⟨g, s0, hg, ho⟩ := hJ 11 8 (by kernel_rfl) (by kernel_rfl)
      simp at s0
      obtain ⟨r, s, s1, z1, j2⟩ := hJ 9 23 (by kernel_rfl) (by kernel_rfl)
      simp at s1
      have HO := ho
      obtain ⟨q0, t0, hc0, -, -⟩ := ho
      have k0 := cell_of_one hc0
      have f0 := free_of_one hc0
      rw [if_pos (by rfl)]
      clear hs hJ
      go_simp
      exact hK undef _ (Rel.set HO hg j2 z1) trivial
    exact grow.EachR.nil
  case fin =>
    intro f W hB hF
    have f0 : f 0 = .pointer (some ⟨w.heap.size, 0, none⟩) := hF 0 (by decide)
    have f1 : f 1 = .agg #[.pointer p] := hF 1 (by decide)
    have f2 : f 2 = .pointer (some ⟨w.heap.size, 0, none⟩) := hF 2 (by decide)
    have f3 : f 3 = .agg #[.pointer p] := hF 3 (by decide)
    have f4 : f 4 = .func (.func 98) #[] #[.pointer (some ⟨w.heap.size + 1 + 1, 0, none⟩)] := hF 4 (by decide)
    have f5 : f 5 = .int .i64 (i : Nat) := hF 5 (by decide)
    obtain ⟨q_6, r_6, u_6, s_6, f6, z1_6, z2_6, j1_6, j2_6⟩ := hF 6 (by decide)
    obtain ⟨q_7, r_7, u_7, s_7, f7, z1_7, z2_7, j1_7, j2_7⟩ := hF 7 (by decide)
    obtain ⟨q_8, u_8, f8, z1_8, j1_8⟩ := hF 8 (by decide)
    obtain ⟨r_9, s_9, f9, z1_9, j2_9⟩ := hF 9 (by decide)
    obtain ⟨g_10, f10, hg_10, ho_10⟩ := hF 10 (by decide)
    obtain ⟨g_11, f11, hg_11, ho_11⟩ := hF 11 (by decide)
    have hst12 := hF 12 (by decide)
    have hst13 := hF 13 (by decide)
    clear hF
    intro A hA
    simp only [List.length_cons, List.length_nil, Nat.reduceAdd, grow.puts, Act.put, List.getElem?_toArray, List.getElem?_cons_zero, List.getElem?_cons_succ, Option.bind_some, List.setIfInBounds_toArray, List.set_cons_zero, List.set_cons_succ, f0, f1, f2, f3, f4, f5, f6, f7, f8, f9, f10, f11] at hA
    subst hA
    have hB9 := hB.below HVs.out
    obtain ⟨q_8, u_8, h7, j7, z7⟩ := ho_10
    obtain ⟨b7, hb7⟩ : ∃ b7, b7 = g_10 := ⟨_, rfl⟩
    rw [← hb7] at h7 hg_10
    have hszV := hB.size
    have hlt7 : b7 < W.heap.size := (Array.getElem?_eq_some_iff.1 h7).1
    obtain ⟨bs, hbs⟩ : ∃ bs, bs = W.heap.size := ⟨_, rfl⟩
    have HSt : Hid (OSt B w t.size b7 bs x q_8 u_8 [] (.slice none 0 0) W) := Lib.hid ⟨by simpa using z7, j7, h7, upb hB9 Hlow.out, World.ownsRow_nil _ _ _ _, belowTrans Hb.out hB9, by omega, by omega, by omega, by omega⟩
    obtain ⟨n, hn⟩ : ∃ n, n = t.size := ⟨_, rfl⟩
    have hnb : n ≤ 5864062014677 := by omega
    rw [← hn] at HSt
    have HN := Lib.hid hn
    clear hst12 hst13 ho_11 hg_11 hB9 hB kp HF Hh HB Hlow Hb hszV hs hfl HVs hn h7 j7 z7 hg_10 hlt7 hbs j1_6 j2_6 j1_7 j2_7 j1_8 j2_9 z1_6 z2_6 z1_7 z2_7 z1_8 z1_9
    subst hb7
    go_wp2_with fail
    go_loopg [9, 10] u_8.size (fun k ov _ wr => ∃ (p : Option Addr) (t : BT V) (xs : List V) (ow : Value), ow = ov ∧ t.size ≤ k ∧ Hid (OSt B w n b7 bs x p t xs ow wr))
    case atStart => exact ⟨q_8, u_8, [], _, rfl, Nat.le_refl _, HSt⟩
    case round =>
      obtain ⟨p2, t2, xs, ov, rfl, hk, HR⟩ := hrel
      have k7 := cell_of_one HR.out.h7
      have f7 := free_of_one HR.out.h7
      have HL := Lib.hid (manyI.Len_any B wr p2 t2 HR.out.hin)
      have hn2 := HR.out.hn
      have hsz2 : t2.size ≤ 1152921504606820000 := by omega
      by_cases h0 : 0 < t2.size
      · have c0 : decide ((0 : Int) < ((t2.size : Nat) : Int)) = true := by simpa using h0
        go_wp2_with fail
        refine HL.out.mono ?_
        rintro e wa ⟨rfl, hba⟩
        have HRa := Lib.hid (HR.out.up hba)
        have k7a := upc hba k7
        have HF := Lib.hid (manyI.Find_reach B wa p2 t2 (w.heap.size + 1) x (Nat.le_trans Hw0.out HRa.out.bel.size) HRa.out.hin hsz2 HRa.out.hl)
        have hfl := findT_le (q_reach x) t2 none
        obtain ⟨i, hi⟩ : ∃ i, i = findT (q_reach x) none t2 := ⟨_, rfl⟩
        rw [← hi] at HF hfl
        clear hba hi HL k7 f7
        go_wp2_with fail
        refine HF.out.mono ?_
        rintro e wb ⟨rfl, hbb⟩
        have HRb := Lib.hid (HRa.out.up hbb)
        have k7b := upc hbb k7a
        have HL2 := Lib.hid (manyI.Len_any B wb p2 t2 HRb.out.hin)
        clear hbb HF HRa k7a
        by_cases hlt : i < t2.size
        · have c1 : decide (((t2.size : Nat) : Int) ≤ (i : Int)) = false := by simp; omega
          go_wp2_with fail
          refine HL2.out.mono ?_
          rintro e wc ⟨rfl, hbc⟩
          have HRc := Lib.hid (HRb.out.up hbc)
          have k7c := upc hbc k7b
          obtain ⟨y, hy⟩ : ∃ y, t2.inorder[i]? = some y := ⟨_, List.getElem?_eq_getElem (by rw [BT.length_inorder]; exact hlt)⟩
          have HA := Lib.hid (manyI.At_any B wc p2 t2 i y (Nat.le_trans Hw0.out HRc.out.bel.size) HRc.out.hin hy hsz2)
          clear hbc HL2 HRb k7b hy c0 c1
          go_wp2_with fail
          refine HA.out.mono ?_
          rintro e wd ⟨rfl, hbd⟩
          have HRd := Lib.hid (HRc.out.up hbd)
          have hown : wd.ownsRow bs 68 3 ov xs.length (manyI.cellsV xs) := HRd.out.own
          have Ho := Lib.hid hown
          clear hbd HA HRc k7c hown HR
          go_wp2_with (at_builtin; obtain ⟨hi, hz0, hz1, hz2⟩ := Hi.out; refine wpList_append_own _ rfl (.tmp 34) (.tmp 38) 69 rfl bs 68 i0 (.agg #[.int .i64 0, .int .i64 0, .int .i64 0]) 3 24 Try.underlying69 hi hz0 hz1 hz2 rfl (by decide) ov _ _ rfl (Ho.out.alloc _) ⟨wd.heap.size, 0, none⟩ 1 1 [.int .i64 (y).1, .int .i64 (y).2.1, .int .i64 (y).2.2] rfl rfl ?c1 ?c2 ?c3 ?c4 ?c5 ?_)
          case c1 => exact World.news_of_block (cs := #[.int .i64 (y).1, .int .i64 (y).2.1, .int .i64 (y).2.2]) (t := 68) (fr := (0, 0)) (heap_alloc_new _ _)
          case c2 => simp [Value.oneCell']
          case c3 => unfold maxLen; omega
          case c4 => omega
          case c5 => have := HRd.out.hb; simp; omega
          intro v' w1 hown1 hgrow _
          obtain ⟨g1, g2, g3, g4, g5, g6⟩ := HRd.out.app h0 hown1 hgrow
          have HS2 := Lib.hid (manyI.Split_any B w1 p2 t2 ((i : Int) + 1) (Nat.le_trans Hw0.out g5.size) g1 (by omega) (by omega) (by omega))
          have k8 := cell_of_one g2
          have HG := Lib.hid (And.intro g2 (And.intro g3 (And.intro g4 (And.intro g5 g6))))
          have hX := Lib.hid (And.intro HRd.out.hb7 (And.intro HRd.out.hw HRd.out.hlt))
          have hi0 : (0 : Int) ≤ (i : Int) := by omega
          have hi1 : (i : Int) < 1152921504606820000 := by omega
          clear g1 g2 g3 g4 g5 g6 hown1 hgrow HRd Ho
          go_wp2_with fail
          refine HS2.out.mono ?_
          rintro e w2 ⟨q1, q2, s1, s2, rfl, m1, m2, n1, n2, hb2⟩
          have h9 := upb hb2 HG.out.1
          have k9 := cell_of_one h9
          have f9 := free_of_one h9
          have hz2 : s2.size = t2.size - (i + 1) := by have e := m2.2; omega
          have HRn : Hid (OSt B w n b7 bs x q2 s2 (xs ++ [y]) v' (w2.setCell ⟨b7, 0, none⟩ (.pointer q2))) := Lib.hid ⟨by rw [List.length_append, List.length_singleton]; omega, manyI.Holds.store1 n2 h9 (by decide), one_setCell h9, (Below.heap_setCell _ _ _ _ (by have := hX.out.2.1; show w.heap.size + 1 ≠ b7; omega)).trans (upb hb2 HG.out.2.1), ownsRow_setCell_below (HG.out.2.2.1.up hb2) (a := ⟨b7, 0, none⟩) (hX.out.2.2) _, belowSet (a := ⟨b7, 0, none⟩) (belowTrans HG.out.2.2.2.1 hb2) hX.out.1 _, by have h1 := HG.out.2.2.2.2; have h2 := hb2.size; simp [World.setCell]; omega, hX.out.1, hX.out.2.1, hX.out.2.2⟩
          clear h9 m1 m2 n1 n2 hb2 HG HS2 k8
          go_wp2_with fail
          go_roundg (s2.size)
          case measure => omega
          case rel => exact ⟨q2, s2, xs ++ [y], _, rfl, Nat.le_refl _, HRn⟩
        · have c1 : decide (((t2.size : Nat) : Int) ≤ (i : Int)) = true := by simp; omega
          go_wp2_with fail
          refine HL2.out.mono ?_
          rintro e wc ⟨rfl, hbc⟩
          have HRc := Lib.hid (HRb.out.up hbc)
          clear hbc HL2 HRb k7b
          go_wp2_with fail
          go_ret
          exact ⟨xs, by have := HN.out; omega, RetV.mk (HRc.out.own.lower (by have := HRc.out.hb7; have := HRc.out.hlt; omega)) HRc.out.bel⟩
      · have c0 : decide ((0 : Int) < ((t2.size : Nat) : Int)) = false := by simp; omega
        go_wp2_with fail
        refine HL.out.mono ?_
        rintro e wa ⟨rfl, hba⟩
        have HRa := Lib.hid (HR.out.up hba)
        clear hba HL k7 f7
        go_wp2_with fail
        go_ret
        exact ⟨xs, by have := HN.out; omega, RetV.mk (HRa.out.own.lower (by have := HRa.out.hb7; have := HRa.out.hlt; omega)) HRa.out.bel⟩

set_option maxHeartbeats 1000000 in
theorem All_any (B : Nat) (w : World) (p : Option Addr) (t : BT V) (x : Int) (hB : B ≤ w.heap.size) (h : In B w p t) (hs : t.size ≤ 5864062014677) :
    Calls Try.prog 28 #[.agg #[.pointer p], .int .i64 x] w fun e w' => ∃ xs, xs.length ≤ t.size ∧ RetV w xs e w' := by
  have hb0 := belowAlloc w (.cells #[.pointer p] 62)
  have HO := Lib.hid (Over_any B _ p t x (szle hb0 hB) (h.up hb0) hs)
  have Hb0 := Lib.hid hb0
  clear hb0 hB h
  go_enter Try.func28, Try.ntmps28
  go_wp2_with fail
  refine HO.out.mono ?_
  rintro e w1 ⟨xs, hx, a, c, rfl, ho, hb⟩
  have HX := Lib.hid (And.intro hx (And.intro ho (belowTrans Hb0.out hb)))
  clear hx ho hb HO Hb0
  go_wp2_with fail
  go_ret
  exact ⟨xs, HX.out.1, RetV.mk (HX.out.2.1.lower (by simp)) HX.out.2.2⟩
end Go.Proofs.Ytnigadnjppeckaa.ival
