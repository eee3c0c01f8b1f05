/- Package ral in memory: spots, each with a tree; Push. -/
import Derived.Test.YthlcjhkelcfnoaaDoorTwo
import Derived.Test.YthlcjhkelcfnoaaDoorFill
import Derived.Test.YthlcjhkelcfnoaaDoorRows
import Derived.Deep.QuietTactic
import Derived.BigQuiet
import Derived.RangeFuncOwn
import Derived.Deep.LoopGhost
namespace Go.Proofs.YthlcjhkelcfnoaaDoor.ral
open Go.RowKit

def cs (x : Int) (_ _ : BT Int) : List Value := [.int .i64 x]
abbrev In := Holds cs 80

/-- a pointer leads to spots that have these trees -/
def Sp (B : Nat) (w : World) : Option Addr → List (BT Int) → Prop
  | p, [] => p = none
  | p, t :: ts => ∃ b q r, p = some ⟨b, 0, none⟩ ∧ B ≤ b ∧ w.heap[b]? = some (.cells #[.int .i64 (t.size : Nat), .pointer q, .pointer r] 75 (0, 0)) ∧ In B w q t ∧ Sp B w r ts
theorem Sp.up {B : Nat} {w w' : World} (hb : Below w.heap.size w w') : ∀ {ts : List (BT Int)} {p : Option Addr}, Sp B w p ts → Sp B w' p ts
  | [], _, h => h
  | _ :: _, _, ⟨b, q, r, e, hB, hc, hq, hr⟩ => ⟨b, q, r, e, hB, upb hb hc, hq.up hb, Sp.up hb hr⟩
theorem Sp.lower {B B' : Nat} {w : World} (hB : B' ≤ B) : ∀ {ts : List (BT Int)} {p : Option Addr}, Sp B w p ts → Sp B' w p ts
  | [], _, h => h
  | _ :: _, _, ⟨b, q, r, e, hB1, hc, hq, hr⟩ => ⟨b, q, r, e, Nat.le_trans hB hB1, hc, hq.lower hB, Sp.lower hB hr⟩
theorem Sp.frame {B : Nat} {w w' : World} (hi : ∀ q t, In B w q t → In B w' q t) (hw : ∀ b, B ≤ b → b < w.heap.size → ∀ c, w.heap[b]? = some (.cells c 75 (0, 0)) → w'.heap[b]? = w.heap[b]?) : ∀ {ts : List (BT Int)} {p : Option Addr}, Sp B w p ts → Sp B w' p ts
  | [], _, h => h
  | _ :: _, _, ⟨b, q, r, e, hB, hc, hq, hr⟩ => ⟨b, q, r, e, hB, (hw b hB (Array.getElem?_eq_some_iff.1 hc).1 _ hc).trans hc, hi _ _ hq, Sp.frame hi hw hr⟩
theorem Sp.store2 {B k : Nat} {w : World} {p : Option Addr} {ts : List (BT Int)} {c : Array Value} {ty' : Nat} {fz : Nat × Nat} {u v : Value} (h : Sp B w p ts) (hk : w.heap[k]? = some (.cells c ty' fz)) (hne : ty' ≠ 75) (hne' : ty' ≠ 80) :
    Sp B ((w.setCell ⟨k, 0, none⟩ u).setCell ⟨k, 1, none⟩ v) p ts := by
  refine Sp.frame (fun q t hq => hq.store2 hk hne') (fun b _ _ c' hc => heapSet2 ?_) h
  rintro rfl
  rw [hk] at hc
  cases hc
  exact hne rfl

def total : List (BT Int) → Nat
  | [] => 0
  | t :: ts => t.size + total ts
/-- the numbers of a tree, of trees, in their order -/
def pre : BT Int → List Int
  | .nil => []
  | .node a l r => a :: (pre l ++ pre r)
theorem length_pre (t : BT Int) : (pre t).length = t.size := by
  induction t with
  | nil => rfl
  | node a l r ihl ihr => simp only [pre, BT.size, List.length_cons, List.length_append]; omega
def elems : List (BT Int) → List Int
  | [] => []
  | t :: ts => pre t ++ elems ts
theorem length_elems (ts : List (BT Int)) : (elems ts).length = total ts := by
  induction ts with
  | nil => rfl
  | cons t ts ih => simp only [elems, total, List.length_append, length_pre, ih]
/-- both parts of each node have as many -/
def Perf : BT Int → Prop
  | .nil => True
  | .node _ l r => l.size = r.size ∧ Perf l ∧ Perf r
def WF (ts : List (BT Int)) : Prop := ∀ t ∈ ts, Perf t
def push (x : Int) : List (BT Int) → List (BT Int)
  | t1 :: t2 :: ts => if t1.size = t2.size then .node x t1 t2 :: ts else .node x .nil .nil :: t1 :: t2 :: ts
  | ts => .node x .nil .nil :: ts
theorem push_eq (x : Int) (t1 t2 : BT Int) (ts : List (BT Int)) (h : t1.size = t2.size) : push x (t1 :: t2 :: ts) = .node x t1 t2 :: ts := if_pos h
theorem push_ne (x : Int) (t1 t2 : BT Int) (ts : List (BT Int)) (h : t1.size ≠ t2.size) : push x (t1 :: t2 :: ts) = .node x .nil .nil :: t1 :: t2 :: ts := if_neg h
theorem elems_push (x : Int) (ts : List (BT Int)) : elems (push x ts) = x :: elems ts := by
  match ts with
  | [] => rfl
  | [t] => rfl
  | t1 :: t2 :: ts => by_cases h : t1.size = t2.size <;> simp [push, h, elems, pre]
theorem total_push (x : Int) (ts : List (BT Int)) : total (push x ts) = total ts + 1 := by
  rw [← length_elems, elems_push, List.length_cons, length_elems]
theorem wf_push (x : Int) (ts : List (BT Int)) (h : WF ts) : WF (push x ts) := by
  have hl : ∀ us, WF us → WF (.node x .nil .nil :: us) := fun us hu t ht => by
    rcases List.mem_cons.1 ht with rfl | ht
    · exact ⟨rfl, trivial, trivial⟩
    · exact hu t ht
  match ts with
  | [] => exact hl _ h
  | [t] => exact hl _ h
  | t1 :: t2 :: ts =>
    by_cases e : t1.size = t2.size
    · rw [push_eq _ _ _ _ e]
      intro t ht
      rcases List.mem_cons.1 ht with rfl | ht
      · exact ⟨e, h t1 (by simp), h t2 (by simp)⟩
      · exact h t (by simp [ht])
    · rw [push_ne _ _ _ _ e]
      exact hl _ h

theorem Sp.frame' {B : Nat} {w w' : World} {ts : List (BT Int)} {p : Option Addr} (hw : ∀ b, B ≤ b → b < w.heap.size → w'.heap[b]? = w.heap[b]?) (h : Sp B w p ts) : Sp B w' p ts :=
  Sp.frame (fun _ _ hq => hq.frame hw) (fun b h1 h2 _ _ => hw b h1 h2) h
/-- a pointer leads to these numbers -/
def Has (B : Nat) (w : World) (p : Option Addr) (xs : List Int) : Prop := ∃ ts, elems ts = xs ∧ Sp B w p ts
theorem Has.up {B : Nat} {w w' : World} {p : Option Addr} {xs : List Int} (h : Has B w p xs) (hb : Below w.heap.size w w') : Has B w' p xs := by
  obtain ⟨ts, e, h⟩ := h
  exact ⟨ts, e, Sp.up hb h⟩
theorem Has.frame {B : Nat} {w w' : World} {p : Option Addr} {xs : List Int} (hw : ∀ b, B ≤ b → b < w.heap.size → w'.heap[b]? = w.heap[b]?) (h : Has B w p xs) : Has B w' p xs := by
  obtain ⟨ts, e, h⟩ := h
  exact ⟨ts, e, Sp.frame' hw h⟩

section
variable {w : World} {b : Nat} {n : Int} {q r : Option Addr} (h : w.heap[b]? = some (.cells #[.int .i64 n, .pointer q, .pointer r] 75 (0, 0)))
include h
theorem s0 : w.cell? ⟨b, 0, none⟩ = some (.int .i64 n) := by simp [World.cell?, h]
theorem s1 : w.cell? ⟨b, 1, none⟩ = some (.pointer q) := by simp [World.cell?, h]
theorem s2 : w.cell? ⟨b, 2, none⟩ = some (.pointer r) := by simp [World.cell?, h]
end

/-- a new tree, and a new spot that has it -/
theorem Sp.new {B : Nat} {w : World} {x n : Int} {pl pr r : Option Addr} {tl tr : BT Int} {ts : List (BT Int)} (hn' : n = ((BT.node x tl tr).size : Nat)) (hB : B ≤ w.heap.size) (hl : In B w pl tl) (hr : In B w pr tr) (hs : Sp B w r ts) :
    Sp B ((w.alloc (.cells #[.int .i64 x, .pointer pl, .pointer pr] 80)).alloc (.cells #[.int .i64 n, .pointer (some ⟨w.heap.size, 0, none⟩), .pointer r] 75)) (some ⟨w.heap.size + 1, 0, none⟩) (.node x tl tr :: ts) := by
  have hn := Holds.new (cs := cs) (ty := 80) (a := x) hB hl hr
  have h2 := belowTrans (belowAlloc w (.cells #[.int .i64 x, .pointer pl, .pointer pr] 80)) (belowAlloc _ (.cells #[.int .i64 n, .pointer (some ⟨w.heap.size, 0, none⟩), .pointer r] 75))
  subst hn'
  exact ⟨_, some ⟨w.heap.size, 0, none⟩, r, rfl, by omega, heapNew2 _ _ _, hn.up (belowAlloc _ _), hs.up h2⟩

/-- what a call that hands back a list leaves -/
def RetS (B : Nat) (w : World) (ts : List (BT Int)) (e : Ending) (w' : World) : Prop := ∃ p, e = .returned (.agg #[.pointer p, .int .i64 (total ts : Nat)]) ∧ Sp B w' p ts ∧ Below w.heap.size w w'

theorem keep2 {V : World} {b off K : Nat} {x u v : Value} {o o' : Obj} (hne : K ≠ b) (h : V.cell? ⟨b, off, none⟩ = some x) :
    (((((V.setCell ⟨K, 0, none⟩ u).setCell ⟨K, 1, none⟩ v).alloc o).alloc o').drew).cell? ⟨b, off, none⟩ = some x := by
  obtain ⟨ob, hb, _⟩ := cells_of_cell h
  have h2 := belowTrans (belowTrans (belowAlloc ((V.setCell ⟨K, 0, none⟩ u).setCell ⟨K, 1, none⟩ v) o) (belowAlloc _ o')) (belowDrew _)
  refine upc h2 ?_
  have e : ((V.setCell ⟨K, 0, none⟩ u).setCell ⟨K, 1, none⟩ v).heap[b]? = V.heap[b]? := heapSet2 (fun e => hne e.symm)
  rw [← h]
  simp only [World.cell?, e]

/-- the world when Push is over -/
abbrev endW (w W : World) (N : Nat) (x n : Int) (pl pr r : Option Addr) : World :=
  ((((W.setCell ⟨w.heap.size + 1, 0, none⟩ (.pointer (some ⟨w.heap.size + 1 + 1 + 1, 0, none⟩))).setCell ⟨w.heap.size + 1, 1, none⟩ (.int .i64 ((N : Nat) + 1))).alloc
    (.cells #[.int .i64 x, .pointer pl, .pointer pr] 80)).alloc (.cells #[.int .i64 n, .pointer (some ⟨w.heap.size + 1 + 1, 0, none⟩), .pointer r] 75))
/-- what is known of the world behind the two boxes -/
structure Boxes (w W : World) : Prop where
  hz : W.heap[w.heap.size + 1]? = some (.cells #[.pointer none, .int .i64 0] 49 (0, 0))
  hs : W.heap.size = w.heap.size + 2
  hb : Below w.heap.size w W
theorem Boxes.drewN {w W : World} (h : Boxes w W) (n : Nat) : Boxes w (W.drewN n) :=
  ⟨upb (belowDrewN W n) h.hz, (congrArg Array.size (World.heap_drewN W n)).trans h.hs, belowTrans h.hb (belowDrewN W n)⟩
theorem Boxes.drew {w W : World} (h : Boxes w W) : Boxes w W.drew := ⟨h.hz, h.hs, belowTrans h.hb (belowDrew W)⟩
theorem push_end {B N : Nat} {w W : World} {x n : Int} {pl pr r : Option Addr} {tl tr : BT Int} {ts : List (BT Int)} (hB : B ≤ w.heap.size) (hX : Boxes w W)
    {tm : List Value} {v0 v1 v2 v3 : Value} (hl : In B W pl tl) (hr : In B W pr tr) (hs : Sp B W r ts) (hnn : n = ((BT.node x tl tr).size : Nat)) (hN : total (.node x tl tr :: ts) = N + 1) {us : List (BT Int)} (hus : us = .node x tl tr :: ts) :
    bodyPost Tryd.prog Tryd.f31 (RetS B w us) Exit.ret { tmps := (v0 :: v1 :: v2 :: v3 :: Value.pointer (some ⟨w.heap.size + 1, 0, none⟩) :: tm).toArray, defers := [] } (endW w W N x n pl pr r) := by
  have hzd := hX.hz
  have hsW := hX.hs
  have hb := hX.hb
  have hz2 := two_set (u' := .pointer (some ⟨w.heap.size + 1 + 1 + 1, 0, none⟩)) (v' := .int .i64 ((N : Nat) + 1)) hzd
  obtain ⟨U, hU⟩ : ∃ U, U = (W.setCell ⟨w.heap.size + 1, 0, none⟩ (.pointer (some ⟨w.heap.size + 1 + 1 + 1, 0, none⟩))).setCell ⟨w.heap.size + 1, 1, none⟩ (.int .i64 ((N : Nat) + 1)) := ⟨_, rfl⟩
  have hsU : U.heap.size = w.heap.size + 2 := by rw [hU, sizeSet2]; exact hsW
  have hl2 : In B U pl tl := by rw [hU]; exact hl.store2 hzd (by decide)
  have hr2 : In B U pr tr := by rw [hU]; exact hr.store2 hzd (by decide)
  have hs2 : Sp B U r ts := by rw [hU]; exact hs.store2 hzd (by decide) (by decide)
  have hbU : Below w.heap.size w U := by rw [hU]; exact belowSet2 hb (by omega) _ _
  rw [← hU] at hz2
  have hn := Sp.new (x := x) (n := n) hnn (by omega) hl2 hr2 hs2
  have h2 := belowTrans (belowAlloc U (.cells #[.int .i64 x, .pointer pl, .pointer pr] 80)) (belowAlloc _ (.cells #[.int .i64 n, .pointer (some ⟨U.heap.size, 0, none⟩), .pointer r] 75))
  have hz3 := upb h2 hz2
  rw [hsU] at hn hz3
  have c0 := two_c0 hz3
  have c1 := two_c1 hz3
  have c0' : ((U.alloc (.cells #[.int .i64 x, .pointer pl, .pointer pr] 80)).alloc (.cells #[.int .i64 n, .pointer (some ⟨w.heap.size + 1 + 1, 0, none⟩), .pointer r] 75)).cell? ⟨w.heap.size + 1, 0, none⟩ = some (.pointer (some ⟨w.heap.size + 1 + 1 + 1, 0, none⟩)) := c0
  have c1' : ((U.alloc (.cells #[.int .i64 x, .pointer pl, .pointer pr] 80)).alloc (.cells #[.int .i64 n, .pointer (some ⟨w.heap.size + 1 + 1, 0, none⟩), .pointer r] 75)).cell? ⟨w.heap.size + 1, 1, none⟩ = some (.int .i64 ((N : Nat) + 1)) := c1
  have h3 : Below U.heap.size U ((U.alloc (.cells #[.int .i64 x, .pointer pl, .pointer pr] 80)).alloc (.cells #[.int .i64 n, .pointer (some ⟨w.heap.size + 1 + 1, 0, none⟩), .pointer r] 75)) := belowTrans (belowAlloc _ _) (belowAlloc _ _)
  unfold endW
  rw [← hU]
  refine bodyPost_ret (v := .agg #[.pointer (some ⟨w.heap.size + 1 + 1 + 1, 0, none⟩), .int .i64 ((N : Nat) + 1)]) (by simp only [results, Tryd.results31]; simp [go_sem, c0', c1']) rfl ⟨some ⟨w.heap.size + 1 + 1 + 1, 0, none⟩, by rw [hus, hN]; simp, by rw [hus]; exact hn, belowTrans hbU h3⟩

set_option maxHeartbeats 4000000 in
set_option maxRecDepth 100000 in
theorem Push_any (B : Nat) (w : World) (p : Option Addr) (ts : List (BT Int)) (x : Int) (hB : B ≤ w.heap.size) (h : Sp B w p ts) (hn : total ts ≤ 1152921504606844000) :
    Calls Tryd.prog 31 #[.agg #[.pointer p, .int .i64 (total ts : Nat)], .int .i64 x] w (RetS B w (push x ts)) := by
  obtain ⟨N, hN⟩ : ∃ N, N = total ts := ⟨_, rfl⟩
  rw [← hN] at hn ⊢
  have h1 := belowTrans (belowAlloc w (.cells #[.pointer p, .int .i64 (N : Nat)] 49)) (belowAlloc _ (.cells #[.pointer none, .int .i64 0] 49))
  have hz := heapNew2 w (.cells #[.pointer p, .int .i64 (N : Nat)] 49) (.cells #[.pointer none, .int .i64 0] 49)
  have hz0 := heapNew1 w (.cells #[.pointer p, .int .i64 (N : Nat)] 49) (.cells #[.pointer none, .int .i64 0] 49)
  obtain ⟨W, hW⟩ : ∃ W, W = (w.alloc (.cells #[.pointer p, .int .i64 (N : Nat)] 49)).alloc (.cells #[.pointer none, .int .i64 0] 49) := ⟨_, rfl⟩
  rw [← hW] at h1 hz hz0
  have hsW : W.heap.size = w.heap.size + 2 := by rw [hW]; simp
  have hB1 := szle h1 hB
  have hin := Sp.up h1 h
  have kz := two_c0 hz0
  have kn := two_c1 hz0
  have m0 := two_c0 hz
  have m1 := two_c1 hz
  have f0 := two_f (o := 0) hz
  have f1 := two_f (o := 1) hz
  have hwr : IntKind.i64.wrap ((N : Nat) + 1) = (N : Nat) + 1 := IntWalk.i64_in _ (by omega)
  have HX : Hid (Boxes w W) := Lib.hid ⟨hz, hsW, h1⟩
  have HW := Lib.hid hW
  have HT := Lib.hid hN
  clear hW hz hz0 h h1 hN
  cases ts with
  | nil =>
    obtain rfl : p = none := hin
    go_enter Tryd.func31, Tryd.ntmps31
    go_wp2_with fail
    rw [← HW.out]
    go_quiet (fail)
    go_wp2_with fail
    exact push_end (N := N) (pl := none) (pr := none) (r := none) (tl := .nil) (tr := .nil) (ts := []) hB (HX.out.drewN _) rfl rfl rfl rfl (by have h := HT.out; simp only [total, BT.size] at h ⊢; omega) rfl
  | cons t1 ts =>
    obtain ⟨b1, q1, r1, rfl, _, hc1, hq1, hs1⟩ := hin
    obtain ⟨n1, hn1⟩ : ∃ n1 : Int, n1 = (t1.size : Nat) := ⟨_, rfl⟩
    cases ts with
    | nil =>
      have hsp : Sp B W (some ⟨b1, 0, none⟩) [t1] := ⟨b1, q1, _, rfl, by assumption, hc1, hq1, hs1⟩
      obtain rfl : r1 = none := hs1
      rw [← hn1] at hc1
      have a0 := s0 hc1
      have a1 := s1 hc1
      have a2 := s2 hc1
      have Hsp := Lib.hid hsp
      clear hc1 hq1 hsp hn1
      go_enter Tryd.func31, Tryd.ntmps31
      go_wp2_with fail
      rw [← HW.out]
      go_quiet (fail)
      go_wp2_with fail
      exact push_end (N := N) (pl := none) (pr := none) (tl := .nil) (tr := .nil) (ts := [t1]) hB (HX.out.drewN _) rfl rfl (Sp.up (belowDrewN _ _) Hsp.out) rfl (by have h := HT.out; simp only [total, BT.size] at h ⊢; omega) rfl
    | cons t2 ts =>
      have hsp : Sp B W (some ⟨b1, 0, none⟩) (t1 :: t2 :: ts) := ⟨b1, q1, _, rfl, by assumption, hc1, hq1, hs1⟩
      obtain ⟨b2, q2, r2, rfl, _, hc2, hq2, hs2⟩ := hs1
      obtain ⟨n2, hn2⟩ : ∃ n2 : Int, n2 = (t2.size : Nat) := ⟨_, rfl⟩
      have g0 : (0 : Int) ≤ n1 := by omega
      have g1 : n1 ≤ 1152921504606844000 := by have h := HT.out; simp only [total] at h; omega
      rw [← hn1] at hc1
      rw [← hn2] at hc2
      have a0 := s0 hc1
      have a1 := s1 hc1
      have a2 := s2 hc1
      have e0 := s0 hc2
      have e1 := s1 hc2
      have e2 := s2 hc2
      have Hsp := Lib.hid hsp
      have Hq1 := Lib.hid hq1
      have Hq2 := Lib.hid hq2
      have Hs2 := Lib.hid hs2
      have ne0 : w.heap.size + 1 ≠ w.heap.size := Nat.succ_ne_self _
      have ne1 := block_ne hc1 HX.out.hz (by decide)
      have ne2 := block_ne hc2 HX.out.hz (by decide)
      have Hn1 := Lib.hid hn1
      have Hn2 := Lib.hid hn2
      clear hc1 hq1 hc2 hq2 hs2 hsp hn1 hn2
      by_cases he : n1 = n2
      · subst he
        have w1 : IntKind.i64.wrap (2 * n1) = 2 * n1 := IntWalk.i64_in _ (by omega)
        have w2 : IntKind.i64.wrap (2 * n1 + 1) = 2 * n1 + 1 := IntWalk.i64_in _ (by omega)
        go_enter Tryd.func31, Tryd.ntmps31
        go_wp2_with fail
        rw [← HW.out]
        go_quiet (fail)
        go_wp2_with fail
        obtain ⟨V, hV⟩ : ∃ V, V = W.drewN nq := ⟨_, rfl⟩
        have hbV : Below W.heap.size W V := by rw [hV]; exact belowDrewN _ _
        have HXV : Hid (Boxes w V) := Lib.hid (by rw [hV]; exact HX.out.drewN nq)
        rw [← hV]
        have kz := upc hbV kz
        have kn := upc hbV kn
        have m0 := upc hbV m0
        have m1 := upc hbV m1
        have f0 : V.frozen? ⟨w.heap.size + 1, 0, none⟩ = false := two_f HXV.out.hz
        have f1 : V.frozen? ⟨w.heap.size + 1, 1, none⟩ = false := two_f HXV.out.hz
        have a0 := upc hbV a0
        have a1 := upc hbV a1
        have a2 := upc hbV a2
        have e1 := upc hbV e1
        have e2 := upc hbV e2
        have hsV : V.heap.size = w.heap.size + 2 := HXV.out.hs
        have Hq1 := Lib.hid (Hq1.out.up hbV)
        have Hq2 := Lib.hid (Hq2.out.up hbV)
        have Hs2 := Lib.hid (Sp.up hbV Hs2.out)
        clear hV hbV
        go_region_held3 (fun w' => w'.cell? ⟨w.heap.size, 0, none⟩ = some (.pointer (some ⟨b1, 0, none⟩)) ∧ w'.cell? ⟨w.heap.size, 1, none⟩ = some (.int .i64 (N : Nat)) ∧ w'.cell? ⟨b1, 0, none⟩ = some (.int .i64 n1) ∧ w'.cell? ⟨b1, 1, none⟩ = some (.pointer q1) ∧ w'.cell? ⟨b1, 2, none⟩ = some (.pointer (some ⟨b2, 0, none⟩)) ∧ w'.cell? ⟨b2, 1, none⟩ = some (.pointer q2) ∧ w'.cell? ⟨b2, 2, none⟩ = some (.pointer r2)) (with_reducible first | exact ⟨keep2 ne0 kz, keep2 ne0 kn, keep2 ne1 a0, keep2 ne1 a1, keep2 ne1 a2, keep2 ne2 e1, keep2 ne2 e2⟩ | go_keep)
          (fail)
        go_wp2_with fail
        exact push_end (N := N) (tl := t1) (tr := t2) (ts := ts) hB HXV.out.drew (Hq1.out.up (belowDrew _)) (Hq2.out.up (belowDrew _)) (Sp.up (belowDrew _) Hs2.out) (by have h1 := Hn1.out; have h2 := Hn2.out; simp only [BT.size]; omega) (by have h := HT.out; simp only [total, BT.size] at h ⊢; omega) (push_eq _ _ _ _ (by have h1 := Hn1.out; have h2 := Hn2.out; omega))
      · have he' : (n1 == n2) = false := by simpa using he
        have He := Lib.hid he
        clear he
        go_enter Tryd.func31, Tryd.ntmps31
        go_wp2_with fail
        rw [← HW.out]
        go_quiet (fail)
        go_wp2_with fail
        exact push_end (N := N) (pl := none) (pr := none) (tl := .nil) (tr := .nil) (ts := t1 :: t2 :: ts) hB (HX.out.drewN _) rfl rfl (Sp.up (belowDrewN _ _) Hsp.out) rfl (by have h := HT.out; simp only [total, BT.size] at h ⊢; omega) (push_ne _ _ _ _ (by have h0 := He.out; have h1 := Hn1.out; have h2 := Hn2.out; omega))
end Go.Proofs.YthlcjhkelcfnoaaDoor.ral
