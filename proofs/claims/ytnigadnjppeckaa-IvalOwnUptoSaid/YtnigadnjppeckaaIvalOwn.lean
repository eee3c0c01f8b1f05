/- The law of who writes into spans that were told: package ival. (Printed by iw.py.) -/
import Derived.Test.YtnigadnjppeckaaIval
import Derived.Test.YtnigadnjppeckaaSameVI
import Derived.Test.YtnigadnjppeckaaFillR
import Derived.Test.YtnigadnjppeckaaAppRow
import Derived.Test.YtnigadnjppeckaaGrowRL
import Derived.Deep.RegionWith
namespace Go.Proofs.Ytnigadnjppeckaa.ival
open Go.RowKit
open manyI (V OwnV ReadsV RetV)

structure Box (w : World) (t : BT V) (p : Option Addr) (W : World) : Prop where
  bel : Below w.heap.size w W
  b0 : W.heap[w.heap.size]? = some (.cells #[.pointer p] 62 (0, 0))
  h0 : In w.heap.size W p t
theorem Box.up {w : World} {t : BT V} {p : Option Addr} {W W' : World} (h : Box w t p W) (hb : Below W.heap.size W W') : Box w t p W' :=
  ⟨h.bel.trans (hb.mono h.bel.size), upb hb h.b0, h.h0.up hb⟩
theorem Box.set {w : World} {t t' : BT V} {p p' : Option Addr} {W : World} (h : Box w t p W) (hp : In w.heap.size W p' t') : Box w t' p' (W.setCell ⟨w.heap.size, 0, none⟩ (.pointer p')) :=
  ⟨belowSet (a := ⟨w.heap.size, 0, none⟩) h.bel (Nat.le_refl _) _, one_setCell h.b0, manyI.Holds.store1 hp h.b0 (by decide)⟩
def State (w : World) (j : Nat) (W : World) : Prop := ∃ p t, Box w t p W ∧ t.size = j

def goodQ (W : World) (g : Nat) : Prop := ∃ c, W.heap[g]? = some (.cells c 62 (0, 0)) ∧ c.size = 1
def fineQ (B n : Nat) (W : World) (g : Nat) : Prop := ∃ q t, W.heap[g]? = some (.cells #[.pointer q] 62 (0, 0)) ∧ In B W q t ∧ t.size = n
/-- what the region keeps -/
structure RelQ (B n n0 : Nat) (W W' : World) : Prop where
  os : W'.os = W.os
  tape : W'.tape = W.tape
  output : W'.output = W.output
  size : W.heap.size ≤ W'.heap.size
  low : ∀ k, k < n0 → k < W.heap.size → W'.heap[k]? = W.heap[k]?
  keep : ∀ (k : Nat) (c : Array Value) (ty : Nat) (fz : Nat × Nat), W.heap[k]? = some (Obj.cells c ty fz) → ty ≠ 62 → W'.heap[k]? = some (Obj.cells c ty fz)
  good : ∀ g, goodQ W g → goodQ W' g
  fine : ∀ g, fineQ B n W g → fineQ B n W' g
theorem RelQ.inn {B n n0 : Nat} {W W' : World} {p : Option Addr} {t : BT V} (h : RelQ B n n0 W W') (hi : In B W p t) : In B W' p t :=
  Holds.keep (T := [62]) hi (fun k c ty fz hk ht => h.keep k c ty fz hk (by simpa using ht)) (by decide)
theorem RelQ.of {B n n0 : Nat} {W W' : World} (h : Below W.heap.size W W') : RelQ B n n0 W W' :=
  ⟨h.os, h.tape, h.output, h.size, fun k _ hk => h.block k hk, fun _ _ _ _ hk _ => upb h hk, fun _ ⟨c, h1, h2⟩ => ⟨c, upb h h1, h2⟩, fun _ ⟨q, t, h1, h2, h3⟩ => ⟨q, t, upb h h1, h2.up h, h3⟩⟩
theorem RelQ.refl {B n n0 : Nat} (W : World) : RelQ B n n0 W W := .of (Below.refl _ _)
theorem RelQ.trans {B n n0 : Nat} (u v x : World) (h : RelQ B n n0 u v) (k : RelQ B n n0 v x) : RelQ B n n0 u x :=
  ⟨k.os.trans h.os, k.tape.trans h.tape, k.output.trans h.output, Nat.le_trans h.size k.size, fun b h1 h2 => (k.low b h1 (Nat.lt_of_lt_of_le h2 h.size)).trans (h.low b h1 h2), fun b c ty fz h1 h2 => k.keep b c ty fz (h.keep b c ty fz h1 h2) h2, fun g hg => k.good g (h.good g hg), fun g hg => k.fine g (h.fine g hg)⟩
theorem RelQ.set {B n n0 g : Nat} {W : World} {q : Option Addr} {t : BT V} (hg : goodQ W g) (h0 : n0 ≤ g) (hq : In B W q t) (ht : t.size = n) : RelQ B n n0 W (W.setCell ⟨g, 0, none⟩ (.pointer q)) ∧ fineQ B n (W.setCell ⟨g, 0, none⟩ (.pointer q)) g := by
  obtain ⟨c0, hc0, hsz⟩ := hg
  obtain ⟨u0, rfl⟩ := grow.size1 hsz
  have hkeep : ∀ (k : Nat) (c : Array Value) (ty : Nat) (fz : Nat × Nat), W.heap[k]? = some (Obj.cells c ty fz) → ty ≠ 62 → (W.setCell ⟨g, 0, none⟩ (.pointer q)).heap[k]? = some (Obj.cells c ty fz) := by
    intro k c ty fz hk hty
    refine (Below.heap_setCell _ _ _ _ ?_).trans hk
    intro e
    have e' : k = g := e
    rw [e', hc0] at hk
    cases hk
    exact hty rfl
  have hin : ∀ {p : Option Addr} {t : BT V}, In B W p t → In B (W.setCell ⟨g, 0, none⟩ (.pointer q)) p t := fun hi => Holds.keep (T := [62]) hi (fun k c ty fz hk ht => hkeep k c ty fz hk (by simpa using ht)) (by decide)
  have hfine : fineQ B n (W.setCell ⟨g, 0, none⟩ (.pointer q)) g := ⟨q, t, one_setCell hc0, hin hq, ht⟩
  refine ⟨⟨rfl, rfl, rfl, by simp [World.setCell], fun k hk _ => Below.heap_setCell _ _ _ _ (by show k ≠ g; omega), hkeep, ?_, ?_⟩, hfine⟩
  · intro g' hg'
    obtain ⟨c1, h1, h2⟩ := hg'
    by_cases e : g' = g
    · subst e
      exact ⟨_, one_setCell hc0, rfl⟩
    · exact ⟨c1, (Below.heap_setCell _ _ _ _ (by show g' ≠ g; exact e)).trans h1, h2⟩
  · intro g' hg'
    by_cases e : g' = g
    · subst e
      exact hfine
    · obtain ⟨q1, t1, h1, h2, h3⟩ := hg'
      exact ⟨q1, t1, (Below.heap_setCell _ _ _ _ (by show g' ≠ g; exact e)).trans h1, hin h2, h3⟩
theorem RelQ.cell {B n n0 : Nat} {W W' : World} (h : RelQ B n n0 W W') {a : Addr} {v : Value} (ha : a.block < n0) (hc : W.cell? a = some v) : W'.cell? a = some v := by
  have hs : a.block < W.heap.size := by
    unfold World.cell? at hc
    rcases Nat.lt_or_ge a.block W.heap.size with h1 | h1
    · exact h1
    · rw [Array.getElem?_eq_none h1] at hc; cases hc
  unfold World.cell? at hc ⊢
  rw [h.low _ ha hs]
  exact hc
theorem RelQ.below {B n n0 : Nat} {V0 W : World} (h : RelQ B n n0 V0 W) (h0 : V0.heap.size = n0) : Below V0.heap.size V0 W :=
  ⟨h.os, h.tape, h.output, h.size, fun k hk => h.low k (by omega) hk⟩
def kGdQ (n0 : Nat) : Value → World → Prop := fun v W => ∃ g, v = .pointer (some ⟨g, 0, none⟩) ∧ n0 ≤ g ∧ goodQ W g
def kFn (B n : Nat) : Value → World → Prop := fun v W => ∃ g, v = .pointer (some ⟨g, 0, none⟩) ∧ fineQ B n W g
def kAd (B n : Nat) : Value → World → Prop := fun v W => ∃ q t, v = .tuple #[.agg #[.pointer q], .nilIface] ∧ t.size = n ∧ In B W q t
def kA1 (B n : Nat) : Value → World → Prop := fun v W => ∃ q t, v = .agg #[.pointer q] ∧ t.size = n ∧ In B W q t
theorem kGdQ.up {B n n0 m : Nat} {v : Value} {W W' : World} (h : RelQ B n n0 W W') (k : kGdQ m v W) : kGdQ m v W' := by
  obtain ⟨g, h1, h2, h3⟩ := k
  exact ⟨g, h1, h2, h.good g h3⟩
theorem kFn.up {B n n0 : Nat} {v : Value} {W W' : World} (h : RelQ B n n0 W W') (k : kFn B n v W) : kFn B n v W' := by
  obtain ⟨g, h1, h2⟩ := k
  exact ⟨g, h1, h.fine g h2⟩
theorem kAd.up {B n n0 : Nat} {v : Value} {W W' : World} (h : RelQ B n n0 W W') (k : kAd B n v W) : kAd B n v W' := by
  obtain ⟨q, t, h1, h2, h3⟩ := k
  exact ⟨q, t, h1, h2, h.inn h3⟩
theorem kA1.up {B n n0 : Nat} {v : Value} {W W' : World} (h : RelQ B n n0 W W') (k : kA1 B n v W) : kA1 B n v W' := by
  obtain ⟨q, t, h1, h2, h3⟩ := k
  exact ⟨q, t, h1, h2, h.inn h3⟩

set_option maxRecDepth 100000 in
set_option maxHeartbeats 4000000 in
theorem owns (a : Option Addr) (c n : Nat) (l : List Int) (x : Int) (w : World) (hl : l.length = n) (hn : n ≤ 1048576) (hr : Reads w a l) :
    Calls Try.prog 7 #[.slice a n c, .int .i64 x] w fun e w' => e = .returned (.bool true) ∧ Below w.heap.size w w' := by
  obtain ⟨i0, hi1, hz0, hz1, hz2⟩ := info_parts manyI.infoV
  have Hi := Lib.hid (And.intro hi1 (And.intro hz0 (And.intro hz1 hz2)))
  have hb0 := belowAlloc w (.cells #[.pointer none] 62)
  have hP1 := Add_any w.heap.size (w.alloc (.cells #[.pointer none] 62)) none .nil (1, 1, 0) (by simp) rfl (by decide) (by decide)
  have hbx := heap_alloc_new w (.cells #[.pointer none] 62)
  have HP1 := Lib.hid (And.intro hP1 (And.intro hb0 hbx))
  have HR := Lib.hid (And.intro hr hl)
  clear hi1 hz0 hz1 hz2 hP1 hb0 hbx hr hl
  go_enter Try.func7, Try.ntmps7
  go_wp2_with fail
  refine HP1.out.1.mono ?_
  rintro e w1 ⟨p1, t1, rfl, hq1, hp1, hb1⟩
  have hbA := belowTrans hb1 (belowAlloc w1 (.cells #[.pointer p1] 62))
  have HL := Lib.hid (Len_any w.heap.size _ p1 _ (hp1.up (belowAlloc w1 (.cells #[.pointer p1] 62))))
  rw [show t1.size = 1 from hq1, show ((1 : Nat) : Int) = 1 from rfl] at HL
  have hb1' := belowTrans HP1.out.2.1 hbA
  have HB1 := Lib.hid (And.intro hb1' (upb hbA HP1.out.2.2))
  clear hp1 hb1 hb1' HP1 hq1 hbA
  go_wp2_with fail
  refine HL.out.mono ?_
  rintro e w2 ⟨rfl, hb2⟩
  have HS : Hid (State w 0 w2) := Lib.hid ⟨none, .nil, ⟨belowTrans HB1.out.1 hb2, upb hb2 HB1.out.2, rfl⟩, rfl⟩
  clear hb2 HB1 HL
  go_wp2_with fail
  go_loopw [8, 9, 10] (fun iv _ _ wr => ∃ j : Nat, iv = .int .i64 j ∧ j ≤ n ∧ Hid (State w j wr)) (fun iv _ _ _ => n - (intOf iv).toNat)
  case atStart => exact ⟨0, rfl, Nat.zero_le _, HS⟩
  case round =>
    obtain ⟨j, rfl, hj, HF⟩ := hrel
    obtain ⟨p, t, hT, ht⟩ := HF.out
    have kb := cell_of_one hT.b0
    by_cases hlt : j < n
    · obtain ⟨qa, oa, hap, q1⟩ : ∃ qa oa, a = some ⟨qa, oa, none⟩ ∧ w.cell? ⟨qa, oa + j, none⟩ = some (.int .i64 (l.getD j 0)) := by
        rcases HR.out.1 with h | ⟨b, o, ha, h⟩
        · have h2 := HR.out.2; rw [h] at h2; simp at h2; omega
        · exact ⟨b, o, ha, h j (by rw [HR.out.2]; exact hlt)⟩
      subst hap
      replace q1 := upc hT.bel q1
      obtain ⟨y, hy⟩ : ∃ y, y = l.getD j 0 := ⟨_, rfl⟩
      rw [← hy] at q1
      have j0 : (0 : Int) ≤ (j : Int) := by omega
      have j1 : (j : Int) < (n : Int) := by omega
      have hlow : w.heap.size < wr.heap.size := (Array.getElem?_eq_some_iff.1 hT.b0).1
      have hqa : qa < wr.heap.size := by
        unfold World.cell? at q1
        rcases Nat.lt_or_ge qa wr.heap.size with h1 | h1
        · exact h1
        · rw [Array.getElem?_eq_none h1] at q1; cases q1
      have HX := Lib.hid (And.intro hT ht)
      clear hy hT ht HF HS
      go_wp2_with fail
      refine grow.wp_grow_rell (RelQ w.heap.size (j + 1) wr.heap.size) RelQ.trans (fun u => .of (belowDrew u)) [grow.rEq (.agg #[.pointer p]), grow.rEq (.slice (some ⟨qa, oa, none⟩) n c), grow.rEq (.int .i64 (j : Nat)), grow.rEq (.pointer (some ⟨qa, oa + j, none⟩)), grow.rEq (.int .i64 y), grow.rEq (.slice (some ⟨qa, oa, none⟩) n c), grow.rEq (.int .i64 (j : Nat)), grow.rEq (.pointer (some ⟨qa, oa + j, none⟩)), grow.rEq (.int .i64 y), grow.rEq (.int .i64 x), grow.rEq (.int .i64 (if y < x then x else y)), grow.rEq (.int .i64 (j : Nat)), grow.rEq (.agg #[.int .i64 y, .int .i64 (if y < x then x else y), .int .i64 (j : Nat)]), kAd w.heap.size (j + 1), kAd w.heap.size (j + 1), kA1 w.heap.size (j + 1), grow.rEq (.nilIface), kGdQ wr.heap.size, grow.rAny, grow.rEq (.nilIface)] 18 17 9 (kFn w.heap.size (j + 1)) (grow.dep_of (by kernel_rfl)) (by kernel_rfl) (fun _ _ _ h k => kFn.up h k) (by kernel_rfl) (by kernel_rfl) (by kernel_rfl) (by kernel_rfl) ?monoR ?step ?fin
      case monoR =>
        refine grow.monoR_of ?_
        intro i hi
        match i, hi with
        | 0, _ => exact fun _ _ _ _ h => h
        | 1, _ => exact fun _ _ _ _ h => h
        | 2, _ => exact fun _ _ _ _ h => h
        | 3, _ => exact fun _ _ _ _ h => h
        | 4, _ => exact fun _ _ _ _ h => h
        | 5, _ => exact fun _ _ _ _ h => h
        | 6, _ => exact fun _ _ _ _ h => h
        | 7, _ => exact fun _ _ _ _ h => h
        | 8, _ => exact fun _ _ _ _ h => h
        | 9, _ => exact fun _ _ _ _ h => h
        | 10, _ => exact fun _ _ _ _ h => h
        | 11, _ => exact fun _ _ _ _ h => h
        | 12, _ => exact fun _ _ _ _ h => h
        | 13, _ => exact fun _ _ _ h k => kAd.up h k
        | 14, _ => exact fun _ _ _ h k => kAd.up h k
        | 15, _ => exact fun _ _ _ h k => kA1.up h k
        | 16, _ => exact fun _ _ _ _ h => h
        | 17, _ => exact fun _ _ _ h k => kGdQ.up h k
        | 18, _ => exact fun _ _ _ _ _ => trivial
        | 19, _ => exact fun _ _ _ _ h => h
        | i + 20, hi => simp at hi; omega
      case step =>
        refine grow.EachR.cons ?_ ?_
        · intro A W hB hs hJ K hK
          have s0 := hs 5 (by kernel_rfl)
          simp at s0
          have kk := hB.cell (by show w.heap.size < wr.heap.size; exact hlow) kb
          rw [if_pos (by rfl)]
          clear hs hJ
          go_simp
          exact hK _ _ (.refl _) rfl (fun h => absurd h (by decide))
        refine grow.EachR.cons ?_ ?_
        · intro A W hB hs hJ K hK
          have s0 := hs 0 (by kernel_rfl)
          simp at s0
          rw [if_pos (by rfl)]
          clear hs hJ
          go_simp
          exact hK _ _ (.refl _) rfl (fun h => absurd h (by decide))
        refine grow.EachR.cons ?_ ?_
        · intro A W hB hs hJ K hK
          have s0 := hs 8 (by kernel_rfl)
          simp at s0
          rw [if_pos (by rfl)]
          clear hs hJ
          go_simp
          exact hK _ _ (.refl _) rfl (fun h => absurd h (by decide))
        refine grow.EachR.cons ?_ ?_
        · intro A W hB hs hJ K hK
          have s0 : A.tmps.getD 38 undef = .slice (some ⟨qa, oa, none⟩) n c := hJ 1 38 (by kernel_rfl) (by kernel_rfl)
          simp at s0
          have s1 : A.tmps.getD 39 undef = .int .i64 (j : Nat) := hJ 2 39 (by kernel_rfl) (by kernel_rfl)
          simp at s1
          rw [if_pos (by rfl)]
          clear hs hJ
          go_simp
          exact hK _ _ (.refl _) rfl (fun h => absurd h (by decide))
        refine grow.EachR.cons ?_ ?_
        · intro A W hB hs hJ K hK
          have s0 : A.tmps.getD 40 undef = .pointer (some ⟨qa, oa + j, none⟩) := hJ 3 40 (by kernel_rfl) (by kernel_rfl)
          simp at s0
          have kk := hB.cell (by show qa < wr.heap.size; exact hqa) q1
          rw [if_pos (by rfl)]
          clear hs hJ
          go_simp
          exact hK _ _ (.refl _) rfl (fun h => absurd h (by decide))
        refine grow.EachR.cons ?_ ?_
        · intro A W hB hs hJ K hK
          have s0 := hs 0 (by kernel_rfl)
          simp at s0
          rw [if_pos (by rfl)]
          clear hs hJ
          go_simp
          exact hK _ _ (.refl _) rfl (fun h => absurd h (by decide))
        refine grow.EachR.cons ?_ ?_
        · intro A W hB hs hJ K hK
          have s0 := hs 8 (by kernel_rfl)
          simp at s0
          rw [if_pos (by rfl)]
          clear hs hJ
          go_simp
          exact hK _ _ (.refl _) rfl (fun h => absurd h (by decide))
        refine grow.EachR.cons ?_ ?_
        · intro A W hB hs hJ K hK
          have s0 : A.tmps.getD 42 undef = .slice (some ⟨qa, oa, none⟩) n c := hJ 5 42 (by kernel_rfl) (by kernel_rfl)
          simp at s0
          have s1 : A.tmps.getD 43 undef = .int .i64 (j : Nat) := hJ 6 43 (by kernel_rfl) (by kernel_rfl)
          simp at s1
          rw [if_pos (by rfl)]
          clear hs hJ
          go_simp
          exact hK _ _ (.refl _) rfl (fun h => absurd h (by decide))
        refine grow.EachR.cons ?_ ?_
        · intro A W hB hs hJ K hK
          have s0 : A.tmps.getD 44 undef = .pointer (some ⟨qa, oa + j, none⟩) := hJ 7 44 (by kernel_rfl) (by kernel_rfl)
          simp at s0
          have kk := hB.cell (by show qa < wr.heap.size; exact hqa) q1
          rw [if_pos (by rfl)]
          clear hs hJ
          go_simp
          exact hK _ _ (.refl _) rfl (fun h => absurd h (by decide))
        refine grow.EachR.cons ?_ ?_
        · intro A W hB hs hJ K hK
          have s0 := hs 1 (by kernel_rfl)
          simp at s0
          rw [if_pos (by rfl)]
          clear hs hJ
          go_simp
          exact hK _ _ (.refl _) rfl (fun h => absurd h (by decide))
        refine grow.EachR.cons ?_ ?_
        · intro A W hB hs hJ K hK
          have s0 : A.tmps.getD 45 undef = .int .i64 y := hJ 8 45 (by kernel_rfl) (by kernel_rfl)
          simp at s0
          have s1 : A.tmps.getD 46 undef = .int .i64 x := hJ 9 46 (by kernel_rfl) (by kernel_rfl)
          simp at s1
          rw [if_pos (by rfl)]
          clear hs hJ
          go_simp
          exact hK _ _ (.refl _) rfl (fun h => absurd h (by decide))
        refine grow.EachR.cons ?_ ?_
        · intro A W hB hs hJ K hK
          have s0 := hs 8 (by kernel_rfl)
          simp at s0
          rw [if_pos (by rfl)]
          clear hs hJ
          go_simp
          exact hK _ _ (.refl _) rfl (fun h => absurd h (by decide))
        refine grow.EachR.cons ?_ ?_
        · intro A W hB hs hJ K hK
          have s0 : A.tmps.getD 41 undef = .int .i64 y := hJ 4 41 (by kernel_rfl) (by kernel_rfl)
          simp at s0
          have s1 : A.tmps.getD 47 undef = .int .i64 (if y < x then x else y) := hJ 10 47 (by kernel_rfl) (by kernel_rfl)
          simp at s1
          have s2 : A.tmps.getD 48 undef = .int .i64 (j : Nat) := hJ 11 48 (by kernel_rfl) (by kernel_rfl)
          simp at s2
          rw [if_pos (by rfl)]
          clear hs hJ
          go_simp
          exact hK _ _ (.refl _) rfl (fun h => absurd h (by decide))
        refine grow.EachR.cons ?_ ?_
        · intro A W hB hs hJ K hK
          have s0 : A.tmps.getD 37 undef = .agg #[.pointer p] := hJ 0 37 (by kernel_rfl) (by kernel_rfl)
          simp at s0
          have s1 : A.tmps.getD 49 undef = .agg #[.int .i64 y, .int .i64 (if y < x then x else y), .int .i64 (j : Nat)] := hJ 12 49 (by kernel_rfl) (by kernel_rfl)
          simp at s1
          rw [if_pos (by rfl)]
          clear hs hJ
          go_simp
          go_at_call 25
          refine (Add_any w.heap.size W p t (y, (if y < x then x else y), (j : Int)) (Nat.le_trans HX.out.1.bel.size hB.size) (hB.inn HX.out.1.h0) (by show y ≤ if y < x then x else y; split <;> omega) (by have := HX.out.2; omega)).mono ?_
          rintro e W2 ⟨q, u, rfl, z1, j1, hbn⟩
          exact hK _ _ (.of hbn) ⟨q, u, rfl, by have := HX.out.2; omega, j1⟩ (fun h => absurd h (by decide))
        refine grow.EachR.cons ?_ ?_
        · intro A W hB hs hJ K hK
          obtain ⟨q, u, s0, z1, j1⟩ := hJ 13 50 (by kernel_rfl) (by kernel_rfl)
          simp at s0
          rw [if_pos (by rfl)]
          clear hs hJ
          go_simp
          exact hK _ _ (.refl _) ⟨q, u, rfl, z1, j1⟩ (fun h => absurd h (by decide))
        refine grow.EachR.cons ?_ ?_
        · intro A W hB hs hJ K hK
          obtain ⟨q, u, s0, z1, j1⟩ := hJ 14 36 (by kernel_rfl) (by kernel_rfl)
          simp at s0
          rw [if_pos (by rfl)]
          clear hs hJ
          go_simp
          exact hK _ _ (.refl _) ⟨q, u, rfl, z1, j1⟩ (fun h => absurd h (by decide))
        refine grow.EachR.cons ?_ ?_
        · intro A W hB hs hJ K hK
          obtain ⟨q, u, s0, z1, j1⟩ := hJ 14 36 (by kernel_rfl) (by kernel_rfl)
          simp at s0
          rw [if_pos (by rfl)]
          clear hs hJ
          go_simp
          exact hK _ _ (.refl _) rfl (fun h => absurd h (by decide))
        refine grow.EachR.cons ?_ ?_
        · intro A W hB hs hJ K hK
          rw [if_pos (by rfl)]
          clear hs hJ
          go_simp
          exact hK _ _ (.of (belowAlloc _ _)) ⟨_, rfl, hB.size, _, heap_alloc_new _ _, rfl⟩ (fun h => absurd h (by decide))
        refine grow.EachR.cons ?_ ?_
        · intro A W hB hs hJ K hK
          obtain ⟨g, s0, hg, ho⟩ := hJ 17 9 (by kernel_rfl) (by kernel_rfl)
          simp at s0
          obtain ⟨q, u, s1, z1, j1⟩ := hJ 15 51 (by kernel_rfl) (by kernel_rfl)
          simp at s1
          obtain ⟨hRS, hFS⟩ := RelQ.set (n0 := wr.heap.size) ho hg j1 z1
          obtain ⟨c0, hc0, hsz0⟩ := ho
          obtain ⟨u0, rfl⟩ := grow.size1 hsz0
          have k0 := cell_of_one hc0
          have f0 := free_of_one hc0
          have HFS := Lib.hid hFS
          have HRS := Lib.hid hRS
          clear hRS hFS
          rw [if_pos (by rfl)]
          clear hs hJ
          go_simp
          exact hK undef _ HRS.out trivial (fun _ => ⟨_, by simpa using s0, HFS.out⟩)
        refine grow.EachR.cons ?_ ?_
        · intro A W hB hs hJ K hK
          have s0 : A.tmps.getD 52 undef = .nilIface := hJ 16 52 (by kernel_rfl) (by kernel_rfl)
          simp at s0
          rw [if_pos (by rfl)]
          clear hs hJ
          go_simp
          exact hK _ _ (.refl _) rfl (fun h => absurd h (by decide))
        exact grow.EachR.nil
      case fin =>
        intro f W hB hF hL
        have HLK := hL (of_decide_eq_true (by kernel_rfl))
        clear hL
        have f0 : f 0 = .agg #[.pointer p] := hF 0 (by decide)
        have f1 : f 1 = .slice (some ⟨qa, oa, none⟩) n c := hF 1 (by decide)
        have f2 : f 2 = .int .i64 (j : Nat) := hF 2 (by decide)
        have f3 : f 3 = .pointer (some ⟨qa, oa + j, none⟩) := hF 3 (by decide)
        have f4 : f 4 = .int .i64 y := hF 4 (by decide)
        have f5 : f 5 = .slice (some ⟨qa, oa, none⟩) n c := hF 5 (by decide)
        have f6 : f 6 = .int .i64 (j : Nat) := hF 6 (by decide)
        have f7 : f 7 = .pointer (some ⟨qa, oa + j, none⟩) := hF 7 (by decide)
        have f8 : f 8 = .int .i64 y := hF 8 (by decide)
        have f9 : f 9 = .int .i64 x := hF 9 (by decide)
        have f10 : f 10 = .int .i64 (if y < x then x else y) := hF 10 (by decide)
        have f11 : f 11 = .int .i64 (j : Nat) := hF 11 (by decide)
        have f12 : f 12 = .agg #[.int .i64 y, .int .i64 (if y < x then x else y), .int .i64 (j : Nat)] := hF 12 (by decide)
        obtain ⟨q_13, u_13, f13, z1_13, j1_13⟩ := hF 13 (by decide)
        obtain ⟨q_14, u_14, f14, z1_14, j1_14⟩ := hF 14 (by decide)
        obtain ⟨q_15, u_15, f15, z1_15, j1_15⟩ := hF 15 (by decide)
        have f16 : f 16 = .nilIface := hF 16 (by decide)
        obtain ⟨g_17, f17, hg_17, ho_17⟩ := hF 17 (by decide)
        have hst18 := hF 18 (by decide)
        have f19 : f 19 = .nilIface := hF 19 (by decide)
        clear hF
        intro A hA
        simp only [List.length_cons, List.length_nil, Nat.reduceAdd, grow.puts, Act.put, List.getElem?_toArray, List.getElem?_cons_zero, List.getElem?_cons_succ, Option.bind_some, List.setIfInBounds_toArray, List.set_cons_zero, List.set_cons_succ, f0, f1, f2, f3, f4, f5, f6, f7, f8, f9, f10, f11, f12, f13, f14, f15, f16, f17, f19] at hA
        subst hA
        obtain ⟨g', e', hfin⟩ := HLK
        rw [f17] at e'
        obtain rfl : g_17 = g' := by injection e' with e'; injection e' with e'; injection e'
        have hB9 := hB.below rfl
        have HX4 := Lib.hid (HX.out.1.up hB9)
        obtain ⟨q3, t3, h9, hin3, hz3⟩ := hfin
        have c0 := cell_of_one HX4.out.b0
        have f0 := free_of_one HX4.out.b0
        have k9 := cell_of_one h9
        have HF2 : Hid (State w (j + 1) (W.setCell ⟨w.heap.size, 0, none⟩ (.pointer q3))) := Lib.hid ⟨q3, t3, HX4.out.set hin3, hz3⟩
        clear h9 hin3 hz3 hB9 hB hst18 e' ho_17 hg_17 kb q1 hlow hqa
        go_wp2_with fail
        go_roundw
        case rel => exact ⟨j + 1, by go_num, hlt, HF2⟩
        case measure => simp [intOf]; omega
    · obtain rfl : n = j := by omega
      obtain ⟨xs, hx⟩ : ∃ xs, t.inorder = xs := ⟨_, rfl⟩
      have hxl : xs.length = n := by rw [← hx, BT.length_inorder, ht]
      have HO1 : Hid (t.inorder = xs ∧ xs.length = n ∧ t.size = n) := Lib.hid ⟨hx, hxl, ht⟩
      have HPn := Lib.hid (fun W (hW : Below wr.heap.size wr W) => Spans_any w.heap.size W p t (hT.h0.up hW) (by rw [ht]; omega))
      rw [hx] at HPn
      unfold RetV at HPn
      rw [hxl] at HPn
      have HT := Lib.hid hT
      have kb2 := upc (belowAlloc wr (.cells #[] 68)) kb
      clear hT hx hxl ht HF HS
      go_wp2_with fail
      refine (HPn.out _ (by exact belowAlloc _ _)).mono ?_
      rintro e w5 ⟨a5, c5, rfl, ho5, hb5⟩
      have hbr5 := belowTrans (belowAlloc wr (.cells #[] 68)) hb5
      have hrow : w5.ownsRow wr.heap.size 68 3 (.slice (some ⟨wr.heap.size, 0, none⟩) 0 0) 0 [] :=
        ⟨rfl, .inr ⟨wr.heap.size, 0, #[], rfl, Nat.le_refl _, upb hb5 (heap_alloc_new wr (.cells #[] 68)), Nat.le_refl _, Nat.zero_le _, rfl, rfl⟩⟩
      have Hrow := Lib.hid hrow
      have HT5 := Lib.hid (HT.out.up hbr5)
      have Hb5 := Lib.hid hbr5
      have hnil : a5 = none → n = 0 ∧ c5 = 0 := by
        intro h
        subst h
        obtain ⟨a', c', e, hn, hrd, _⟩ := ho5.form
        cases e
        refine ⟨?_, hn rfl⟩
        rcases hrd with h | ⟨b, o, h, _⟩
        · rw [← HO1.out.2.1, h]; rfl
        · cases h
      have hsome : ∀ ad, a5 = some ad → ∀ j u, (manyI.cellsV xs)[j]? = some u → w5.cell? (ad.add j) = some u := by
        intro ad h
        subst h
        obtain ⟨a', c', e, hn, hrd, hg⟩ := ho5.form
        cases e
        obtain ⟨g, rfl, _⟩ := hg _ rfl
        intro j u hu
        exact World.ownsRow.cells ho5 rfl j u hu
      have Hnil := Lib.hid hnil
      have Hsome := Lib.hid hsome
      have hsz5 := hbr5.size
      clear hb5 hbr5 hrow ho5 hnil hsome kb kb2
      go_wp2_with (at_builtin; obtain ⟨hi, hz0, hz1, hz2⟩ := Hi.out; refine wpList_append_row _ rfl (.tmp 56) (.tmp 58) 69 rfl wr.heap.size 68 i0 (.agg #[.int .i64 0, .int .i64 0, .int .i64 0]) 3 24 Try.underlying69 hi hz0 hz1 hz2 rfl (by decide) (.slice (some ⟨wr.heap.size, 0, none⟩) 0 0) 0 [] rfl Hrow.out a5 n c5 (manyI.cellsV xs) rfl Hnil.out ?c1 Hsome.out (manyI.cellsV_one xs) ?c2 ?c3 ?c4 ?_)
      case c1 => rw [manyI.cellsV_length, HO1.out.2.1]
      case c2 => unfold maxLen; omega
      case c3 => omega
      case c4 => exact hsz5
      intro v8 w6 hown8 hgrow8
      have ho8 : OwnV w6 wr.heap.size v8 xs := by
        unfold OwnV
        rw [HO1.out.2.1]
        simpa using hown8
      have hb6 : Below wr.heap.size wr w6 := Below.grown Hb5.out hgrow8 hsz5 (fun k hk => by cases hk; exact Nat.le_refl _)
      obtain ⟨a8, c8, hv8, -⟩ := ho8.form
      rw [HO1.out.2.1] at hv8
      subst hv8
      have HT6 := Lib.hid (HT.out.up hb6)
      have HO8 := Lib.hid ho8
      have HPn6 := Lib.hid (fun W (hW : Below w6.heap.size w6 W) => HPn.out W (belowTrans hb6 hW))
      have kb := cell_of_one HT6.out.b0
      clear hown8 hgrow8 ho8 hb6 HPn HT5 HT Hrow Hnil Hsome Hb5 hsz5
      go_wp2_with fail
      refine (HPn6.out w6 (Below.refl _ _)).mono ?_
      rintro e w7 ⟨a9, c9, rfl, ho9, hb7⟩
      have HB7 := Lib.hid hb7
      have hrow9 : w7.ownsRow w6.heap.size 68 3 (.slice a9 n c9) n (manyI.cellsV xs) := by
        have h := ho9
        unfold OwnV at h
        rw [HO1.out.2.1] at h
        exact h
      have hblk := ho9.block
      have hat : 0 < n → ∃ g, a9 = some ⟨g, 0, none⟩ := by
        intro hm
        rcases hrow9.2 with ⟨h, h0⟩ | ⟨g, cap, cur, e, _⟩
        · omega
        · cases e
          exact ⟨g, rfl⟩
      have HA9 := Lib.hid (And.intro hblk hat)
      have HI9 : Hid (FilledR 68 3 w6.heap.size (.slice a9 n c9) n w7 w7) := Lib.hid (FilledR.start hrow9)
      have hmp : (0 : Int) ≤ (n : Int) := by omega
      clear hb7 hrow9 hblk hat ho9 kb
      obtain ⟨wo, rfl⟩ : ∃ wo : World, wo = wr := ⟨_, rfl⟩
      go_wp2_with fail
      go_loopw [13] (fun iv wr => ∃ j : Nat, iv = .int .i64 j ∧ j ≤ n ∧ Hid (FilledR 68 3 w6.heap.size (.slice a9 n c9) n w7 wr)) (fun iv _ => n - (intOf iv).toNat)
      case atStart => exact ⟨0, rfl, Nat.zero_le _, HI9⟩
      case round =>
        obtain ⟨j, rfl, hj, HG⟩ := hrel
        by_cases hlj : j < n
        · obtain ⟨g, hg⟩ := HA9.out.2 (by omega)
          subst hg
          obtain ⟨u, hc, hf⟩ := HG.out.cell (j * 3) (by omega)
          have HG' := Lib.hid (HG.out.step (j * 3) (.int .i64 x))
          have h0 : (0 : Int) ≤ (j : Int) := by omega
          have h1 : (j : Int) < (n : Int) := by omega
          go_wp2_with fail
          go_roundw
          case rel => exact ⟨j + 1, by go_num, hlj, HG'⟩
          case measure => simp [intOf]; omega
        · have hb8 := HG.out.old w6 HB7.out (fun b hb => (HA9.out.1 b (by first | exact hb | (rw [HO1.out.2.1] at *; exact hb))).1)
          have HT8 := Lib.hid (HT6.out.up hb8)
          have HO88 := Lib.hid (HO8.out.up hb8)
          have HP8 := Lib.hid (fun W hW => HPn6.out W (belowTrans hb8 hW))
          have kb := cell_of_one HT8.out.b0
          clear hb8 HG
          have HAl := Lib.hid (All_any w.heap.size wr p t x HT8.out.bel.size HT8.out.h0 (by rw [HO1.out.2.2]; omega))
          go_wp2_with fail
          refine HAl.out.mono ?_
          rintro e w9 ⟨zs, hzl, a10, c10, rfl, ho10, hb9⟩
          obtain ⟨m, hm⟩ : ∃ m, m = zs.length := ⟨_, rfl⟩
          have hmn : m ≤ n := by rw [hm, ← HO1.out.2.2]; exact hzl
          have hrow10 : w9.ownsRow wr.heap.size 68 3 (.slice a10 m c10) m (manyI.cellsV zs) := by
            have h := ho10
            unfold OwnV at h
            rw [← hm] at h
            exact h
          rw [← hm] at ho10
          have hblk10 : ∀ b, (Value.slice a10 m c10).ownBlock = some b → wr.heap.size ≤ b ∧ b < w9.heap.size := ho10.block
          have hat10 : 0 < m → ∃ g, a10 = some ⟨g, 0, none⟩ := by
            intro hm0
            rcases hrow10.2 with ⟨h, h0⟩ | ⟨g, cap, cur, e, _⟩
            · omega
            · cases e
              exact ⟨g, rfl⟩
          have HA10 := Lib.hid (And.intro hblk10 hat10)
          have HI10 : Hid (FilledR 68 3 wr.heap.size (.slice a10 m c10) m w9 w9) := Lib.hid (FilledR.start hrow10)
          have hmp0 : (0 : Int) ≤ (m : Int) := by omega
          have HB9 := Lib.hid hb9
          rw [← hm]
          clear hm hzl hrow10 hblk10 hat10 ho10 hb9 kb HAl
          obtain ⟨wp, rfl⟩ : ∃ wp : World, wp = wr := ⟨_, rfl⟩
          go_wp2_with fail
          go_loopw [15] (fun iv wr => ∃ j : Nat, iv = .int .i64 j ∧ j ≤ m ∧ Hid (FilledR 68 3 wp.heap.size (.slice a10 m c10) m w9 wr)) (fun iv _ => m - (intOf iv).toNat)
          case atStart => exact ⟨0, rfl, Nat.zero_le _, HI10⟩
          case round =>
            obtain ⟨j3, rfl, hj3, HG3⟩ := hrel
            by_cases hlj3 : j3 < m
            · obtain ⟨g, hg⟩ := HA10.out.2 (by omega)
              subst hg
              obtain ⟨u, hc, hf⟩ := HG3.out.cell (j3 * 3 + 2) (by omega)
              have HG' := Lib.hid (HG3.out.step (j3 * 3 + 2) (.int .i64 77))
              have h0 : (0 : Int) ≤ (j3 : Int) := by omega
              have h1 : (j3 : Int) < (m : Int) := by omega
              go_wp2_with fail
              go_roundw
              case rel => exact ⟨j3 + 1, by go_num, hlj3, HG'⟩
              case measure => simp [intOf]; omega
            · have hbA := HG3.out.old wp HB9.out (fun b hb => (HA10.out.1 b hb).1)
              have HTA := Lib.hid (HT8.out.up hbA)
              have HOA := Lib.hid (HO88.out.up hbA)
              have HPA := Lib.hid (HP8.out _ hbA)
              have kbA := cell_of_one HTA.out.b0
              clear hbA HG3 HP8 HO88 HT8
              go_wp2_with fail
              refine HPA.out.mono ?_
              rintro e wB ⟨aA, cA, rfl, hoA, hbB⟩
              have HS := Lib.hid (sameV_any aA a8 cA c8 n n xs xs wB HO1.out.2.1 HO1.out.2.1 (OwnV.reads hoA) (OwnV.reads (HOA.out.up hbB)) (by unfold maxLen; omega) true (decide_eq_true rfl))
              have HTB := Lib.hid (HTA.out.up hbB)
              clear hoA hbB kbA HPA HOA HTA
              go_wp2_with fail
              refine HS.out.mono ?_
              rintro e wC ⟨rfl, qq, hU⟩
              have hbC : Below wB.heap.size wB wC := by rw [hU]; exact belowDrewN _ _
              have HTC := Lib.hid (HTB.out.up hbC)
              have HLq := Lib.hid (Len_any w.heap.size wC p t HTC.out.h0)
              rw [HO1.out.2.2] at HLq
              have kq := cell_of_one HTC.out.b0
              clear hU hbC HTB
              go_wp2_with fail
              refine HLq.out.mono ?_
              rintro e wD ⟨rfl, hbD⟩
              have HE3 := Lib.hid (belowTrans HTC.out.bel hbD)
              clear hbD HTC HLq kq
              go_wp2_with fail
              all_goals go_ret
              all_goals refine ⟨?_, HE3.out⟩
              all_goals simp

theorem owns_any (a : Option Addr) (c : Nat) (l : List Int) (x : Int) (w : World) (hb : l.length ≤ 1048576) (hr : Reads w a l) (_hn : a = none → c = 0) :
    Calls Try.prog 7 #[.slice a l.length c, .int .i64 x] w fun e w' => e = .returned (.bool true) ∧ Below w.heap.size w w' :=
  owns a c l.length l x w rfl hb hr
end Go.Proofs.Ytnigadnjppeckaa.ival
