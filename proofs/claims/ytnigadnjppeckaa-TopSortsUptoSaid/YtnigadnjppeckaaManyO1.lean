/- Package finger, many things (ord): the sums, the sizes, a new node. (Printed by mm.py.) -/
import Derived.Test.YtnigadnjppeckaaMore
import Derived.Test.YtnigadnjppeckaaTwo
import Derived.Test.YtnigadnjppeckaaRows
import Derived.Test.YtnigadnjppeckaaGather
import Derived.Test.YtnigadnjppeckaaGrow4
import Derived.Deep.QuietTactic
import Derived.BigQuiet
import Derived.Laws.EntriesVeiled
namespace Go.Proofs.Ytnigadnjppeckaa.manyO
open Go.RowKit

abbrev V := Int
abbrev S := Option Int
def join (a b : S) : S := if b.isSome then b else a
def one (x : V) : S := some x
theorem join_none (a : S) : join none a = a := by cases a <;> rfl
theorem none_join (a : S) : join a none = a := rfl
theorem join_assoc (a b c : S) : join (join a b) c = join a (join b c) := by cases a <;> cases b <;> cases c <;> rfl

/-- what is told of things in order -/
def sumOf (l : List V) : S := l.foldr (fun x s => join (one x) s) none
theorem sumOf_append (a b : List V) : sumOf (a ++ b) = join (sumOf a) (sumOf b) := by
  induction a with
  | nil => exact (join_none _).symm
  | cons x a ih =>
    show join (one x) (sumOf (a ++ b)) = join (join (one x) (sumOf a)) (sumOf b)
    rw [ih, join_assoc]
theorem sumOf_one (x : V) : sumOf [x] = one x := by
  show join (one x) none = one x
  exact none_join _
def sm (t : BT V) : S := sumOf t.inorder
theorem sm_nil : sm .nil = none := rfl
theorem sm_node (x : V) (l r : BT V) : sm (.node x l r) = join (join (sm l) (one x)) (sm r) := by
  rw [sm, BT.inorder, show l.inorder ++ x :: r.inorder = (l.inorder ++ [x]) ++ r.inorder by simp, sumOf_append, sumOf_append, sumOf_one]
  rfl
def cs (x : V) (l r : BT V) : List Value := [.int .i64 x, .int .i64 ((1 + l.size + r.size : Nat) : Int), .bool (sm (.node x l r)).isSome, .int .i64 ((sm (.node x l r)).getD 0)]
abbrev In := Holds cs 142
abbrev Ret := RetQ cs 142

section
variable {w : World} {b B : Nat} {x : V} {l r : BT V} {pl pr : Option Addr}
  (h : w.heap[b]? = some (.cells (cs x l r ++ [Value.pointer pl, Value.pointer pr]).toArray 142 (0, 0)))
include h
theorem cv0 : w.cell? ⟨b, 0, none⟩ = some (.int .i64 x) := by simp [World.cell?, h, cs]
theorem cn : w.cell? ⟨b, 1, none⟩ = some (.int .i64 ((1 + l.size + r.size : Nat) : Int)) := by simp [World.cell?, h, cs]
theorem cs0 : w.cell? ⟨b, 2, none⟩ = some (.bool (sm (.node x l r)).isSome) := by simp [World.cell?, h, cs]
theorem cs1 : w.cell? ⟨b, 3, none⟩ = some (.int .i64 ((sm (.node x l r)).getD 0)) := by simp [World.cell?, h, cs]
theorem cl : w.cell? ⟨b, 4, none⟩ = some (.pointer pl) := by simp [World.cell?, h, cs]
theorem cr : w.cell? ⟨b, 5, none⟩ = some (.pointer pr) := by simp [World.cell?, h, cs]
end

set_option maxHeartbeats 400000 in
theorem None_any (w : World) : Calls Try.prog 173 #[.agg #[]] w fun e w' => e = .returned (.agg #[.bool false, .int .i64 0]) ∧ Below w.heap.size w w' := by
  go_enter Try.func173, Try.ntmps173
  go_wp2_with fail
  exact bodyPost_ret (v := .agg #[.bool false, .int .i64 0]) (by simp [results, Try.results173, go_sem]) rfl ⟨rfl, belowTrans (belowAlloc _ _) (belowAlloc _ _)⟩

set_option maxHeartbeats 400000 in
theorem One_any (w : World) (x : V) : Calls Try.prog 174 #[.agg #[], .int .i64 x] w fun e w' => e = .returned (.agg #[.bool (one x).isSome, .int .i64 ((one x).getD 0)]) ∧ Below w.heap.size w w' := by
  go_enter Try.func174, Try.ntmps174
  go_wp2_with fail
  exact bodyPost_ret (v := .agg #[.bool (one x).isSome, .int .i64 ((one x).getD 0)]) (by simp [results, Try.results174, go_sem, one]) rfl ⟨rfl, belowTrans (belowAlloc _ _) (belowAlloc _ _)⟩

theorem below4 (w : World) (o1 o2 o3 o4 : Obj) : Below w.heap.size w ((((w.alloc o1).alloc o2).alloc o3).alloc o4) := belowTrans (belowAlloc _ _) (belowTrans (belowAlloc _ _) (belowTrans (belowAlloc _ _) (belowAlloc _ _)))

set_option maxHeartbeats 1000000 in
theorem Join_0 (w : World)  : Calls Try.prog 172 #[.agg #[], .agg #[.bool ((none : S)).isSome, .int .i64 (((none : S)).getD 0)], .agg #[.bool ((none : S)).isSome, .int .i64 (((none : S)).getD 0)]] w fun e w' => e = .returned (.agg #[.bool ((none : S)).isSome, .int .i64 (((none : S)).getD 0)]) ∧ Below w.heap.size w w' := by
  go_enter Try.func172, Try.ntmps172
  go_wp2_with fail
  exact bodyPost_ret (v := .agg #[.bool ((none : S)).isSome, .int .i64 (((none : S)).getD 0)]) (by simp [results, Try.results172, go_sem]) rfl ⟨rfl, below4 _ _ _ _ _⟩

set_option maxHeartbeats 1000000 in
theorem Join_1 (w : World) (a : Int) : Calls Try.prog 172 #[.agg #[], .agg #[.bool (some a).isSome, .int .i64 ((some a).getD 0)], .agg #[.bool ((none : S)).isSome, .int .i64 (((none : S)).getD 0)]] w fun e w' => e = .returned (.agg #[.bool (some a).isSome, .int .i64 ((some a).getD 0)]) ∧ Below w.heap.size w w' := by
  go_enter Try.func172, Try.ntmps172
  go_wp2_with fail
  exact bodyPost_ret (v := .agg #[.bool (some a).isSome, .int .i64 ((some a).getD 0)]) (by simp [results, Try.results172, go_sem]) rfl ⟨rfl, below4 _ _ _ _ _⟩

set_option maxHeartbeats 1000000 in
theorem Join_2 (w : World) (b : Int) : Calls Try.prog 172 #[.agg #[], .agg #[.bool ((none : S)).isSome, .int .i64 (((none : S)).getD 0)], .agg #[.bool (some b).isSome, .int .i64 ((some b).getD 0)]] w fun e w' => e = .returned (.agg #[.bool (some b).isSome, .int .i64 ((some b).getD 0)]) ∧ Below w.heap.size w w' := by
  go_enter Try.func172, Try.ntmps172
  go_wp2_with fail
  exact bodyPost_ret (v := .agg #[.bool (some b).isSome, .int .i64 ((some b).getD 0)]) (by simp [results, Try.results172, go_sem]) rfl ⟨rfl, below4 _ _ _ _ _⟩

set_option maxHeartbeats 1000000 in
theorem Join_3 (w : World) (a b : Int) : Calls Try.prog 172 #[.agg #[], .agg #[.bool (some a).isSome, .int .i64 ((some a).getD 0)], .agg #[.bool (some b).isSome, .int .i64 ((some b).getD 0)]] w fun e w' => e = .returned (.agg #[.bool (some b).isSome, .int .i64 ((some b).getD 0)]) ∧ Below w.heap.size w w' := by
  go_enter Try.func172, Try.ntmps172
  go_wp2_with fail
  exact bodyPost_ret (v := .agg #[.bool (some b).isSome, .int .i64 ((some b).getD 0)]) (by simp [results, Try.results172, go_sem]) rfl ⟨rfl, below4 _ _ _ _ _⟩

theorem Join_any (w : World) (a b : S) : Calls Try.prog 172 #[.agg #[], .agg #[.bool (a).isSome, .int .i64 ((a).getD 0)], .agg #[.bool (b).isSome, .int .i64 ((b).getD 0)]] w fun e w' => e = .returned (.agg #[.bool (join a b).isSome, .int .i64 ((join a b).getD 0)]) ∧ Below w.heap.size w w' := by
  match a, b with
  | none, none => exact Join_0 w
  | some a, none => exact Join_1 w a
  | none, some b => exact Join_2 w b
  | some a, some b => exact Join_3 w a b
theorem bc0 {w : World} {b t : Nat} {u0 u1 : Value} (h : w.heap[b]? = some (.cells #[u0, u1] t (0, 0))) : w.cell? ⟨b, 0, none⟩ = some u0 := by simp [World.cell?, h]
theorem bc1 {w : World} {b t : Nat} {u0 u1 : Value} (h : w.heap[b]? = some (.cells #[u0, u1] t (0, 0))) : w.cell? ⟨b, 1, none⟩ = some u1 := by simp [World.cell?, h]
theorem vc0 {w : World} {b t : Nat} {x0 : Value} (h : w.heap[b]? = some (.cells #[x0] t (0, 0))) : w.cell? ⟨b, 0, none⟩ = some x0 := by simp [World.cell?, h]
theorem bf {w : World} {b o t : Nat} {u0 u1 : Value} (h : w.heap[b]? = some (.cells #[u0, u1] t (0, 0))) : w.frozen? ⟨b, o, none⟩ = false := by simp [World.frozen?, h]
theorem bset {w : World} {b t : Nat} {u0 u1 x0 x1 : Value} (h : w.heap[b]? = some (.cells #[u0, u1] t (0, 0))) : (((w.setCell ⟨b, 0, none⟩ x0).setCell ⟨b, 1, none⟩ x1)).heap[b]? = some (.cells #[x0, x1] t (0, 0)) := by
  have hb := (Array.getElem?_eq_some_iff.1 h).1
  simp [World.setCell, Array.getElem?_modify, h]
theorem belowSetS {w w1 : World} {k : Nat} (h : Below w.heap.size w w1) (hk : w.heap.size ≤ k) (u0 u1 : Value) : Below w.heap.size w ((w1.setCell ⟨k, 0, none⟩ (u0)).setCell ⟨k, 1, none⟩ (u1)) := (h.setCell (p := ⟨k, 0, none⟩) hk _).setCell (p := ⟨k, 1, none⟩) hk _
theorem mNone (w : World) : (Go.method 339 103 (.agg #[]) "None").run Try.prog w = .ok (173, .agg #[]) w := by kernel_rfl
theorem mOne (w : World) : (Go.method 339 103 (.agg #[]) "One").run Try.prog w = .ok (174, .agg #[]) w := by kernel_rfl
theorem mJoin (w : World) : (Go.method 339 103 (.agg #[]) "Join").run Try.prog w = .ok (172, .agg #[]) w := by kernel_rfl

set_option maxHeartbeats 400000 in
theorem size_any {B : Nat} {w : World} {p : Option Addr} {t : BT V} (h : In B w p t) :
    Calls Try.prog 108 #[.pointer p] w fun e w' => e = .returned (.int .i64 (t.size : Nat)) ∧ w = w' := by
  cases t with
  | nil =>
    obtain rfl : p = none := h
    go_enter Try.func108, Try.ntmps108
    go_wp2
    go_ret
    exact ⟨rfl, rfl⟩
  | node x l r =>
    obtain ⟨b, pl, pr, rfl, _, hb, _, _⟩ := h
    have h1 := cn hb
    clear hb
    go_enter Try.func108, Try.ntmps108
    go_wp2
    go_ret
    exact ⟨rfl, rfl⟩

set_option maxHeartbeats 400000 in
theorem weight_any {B : Nat} {w : World} {p : Option Addr} {t : BT V} (h : In B w p t) (hn : t.size ≤ 1152921504606846976) :
    Calls Try.prog 136 #[.pointer p] w fun e w' => e = .returned (.int .i64 ((t.size : Nat) + 1)) ∧ w = w' := by
  have Hs := Lib.hid (size_any h)
  clear h
  go_enter Try.func136, Try.ntmps136
  go_wp2_with fail
  refine Hs.out.mono ?_
  rintro e w' ⟨rfl, rfl⟩
  go_wp2_with fail
  go_ret
  exact ⟨rfl, rfl⟩

/-- is the first one too heavy -/
def heavyB (a b : BT V) : Bool := decide (3 * ((b.size : Int) + 1) < (a.size : Int) + 1)
set_option maxHeartbeats 400000 in
theorem heavy_any {B : Nat} {w : World} {p q : Option Addr} {t u : BT V} (h : In B w p t) (h' : In B w q u) (hn : t.size ≤ 1152921504606846976) (hn' : u.size ≤ 1152921504606846976) :
    Calls Try.prog 128 #[.pointer p, .pointer q] w fun e w' => e = .returned (.bool (heavyB t u)) ∧ w = w' := by
  have Hs := Lib.hid (weight_any h hn)
  have Hs' := Lib.hid (weight_any h' hn')
  clear h h'
  go_enter Try.func128, Try.ntmps128
  go_wp2_with fail
  refine Hs.out.mono ?_
  rintro e w' ⟨rfl, rfl⟩
  go_wp2_with fail
  refine Hs'.out.mono ?_
  rintro e w' ⟨rfl, rfl⟩
  go_wp2_with fail
  go_ret
  exact ⟨rfl, rfl⟩

set_option maxRecDepth 100000 in
set_option maxHeartbeats 1000000 in
theorem total_any {B : Nat} {w : World} {p : Option Addr} {t : BT V} (h : In B w p t) :
    Calls Try.prog 117 #[.pointer p] w fun e w' => e = .returned (.agg #[.bool (sm t).isSome, .int .i64 ((sm t).getD 0)]) ∧ Below w.heap.size w w' := by
  cases t with
  | nil =>
    obtain rfl : p = none := h
    have hm := mNone
    rw [sm_nil]
    have Hn := Lib.hid None_any
    go_enter Try.func117, Try.ntmps117
    go_wp2_with fail
    refine (Hn.out _).mono ?_
    rintro e w1 ⟨rfl, hb1⟩
    have hk := upb hb1 (heapNew1 w (.cells #[.bool false, .int .i64 0] 101) (.cells #[] 103))
    have k0 := bc0 hk; have k1 := bc1 hk; have f0 := bf (o := 0) hk; have f1 := bf (o := 1) hk
    go_wp2_with fail
    have hk2 := bset (x0 := .bool false) (x1 := .int .i64 0) hk
    have k20 := bc0 hk2; have k21 := bc1 hk2; have f20 := bf (o := 0) hk2; have f21 := bf (o := 1) hk2
    exact bodyPost_ret (v := .agg #[.bool false, .int .i64 0]) (by simp [results, Try.results117, go_sem, k20, k21]) rfl ⟨rfl, belowSetS (belowTrans (belowTrans (belowAlloc _ _) (belowAlloc _ _)) hb1) (Nat.le_refl _) (.bool false) (.int .i64 0)⟩
  | node x l r =>
    obtain ⟨b, pl, pr, rfl, _, hb, _, _⟩ := h
    have h0 := upc (belowAlloc w (.cells #[.bool false, .int .i64 0] 101)) (cs0 hb)
    have h1 := upc (belowAlloc w (.cells #[.bool false, .int .i64 0] 101)) (cs1 hb)
    clear hb
    generalize sm (.node x l r) = s at *
    go_enter Try.func117, Try.ntmps117
    go_wp2_with fail
    exact bodyPost_ret (v := .agg #[.bool (s).isSome, .int .i64 ((s).getD 0)]) (by simp [results, Try.results117, go_sem]) rfl ⟨rfl, belowAlloc _ _⟩

/-- what a tree holds, and how many -/
def Is (xs : List V) (n : Nat) (t : BT V) : Prop := t.inorder = xs ∧ t.size = n
theorem Is.of {xs ys : List V} {n m : Nat} {t : BT V} (h : Is xs n t) (h1 : xs = ys) (h2 : n = m) : Is ys m t := ⟨h.1.trans h1, h.2.trans h2⟩
def kT (B : Nat) (Q : BT V → Prop) : grow.Kept := ⟨fun v W => ∃ q t, v = .pointer q ∧ Q t ∧ In B W q t, fun _ _ _ hb ⟨q, t, h1, h2, h3⟩ => ⟨q, t, h1, h2, h3.up hb⟩⟩

theorem newNode {B : Nat} {w : World} {pl pr : Option Addr} {l r : BT V} {v : V} (hB : B ≤ w.heap.size) (hl : In B w pl l) (hr : In B w pr r) :
    In B (w.alloc (.cells #[.int .i64 v, .int .i64 (1 + (l.size : Nat) + (r.size : Nat)), .bool (join (join (sm l) (one v)) (sm r)).isSome, .int .i64 ((join (join (sm l) (one v)) (sm r)).getD 0), .pointer pl, .pointer pr] 142)) (some ⟨w.heap.size, 0, none⟩) (.node v l r) := by
  have h := Holds.new (cs := cs) (ty := 142) (a := v) hB hl hr
  unfold cs at h
  rw [sm_node] at h
  have e : ((1 + l.size + r.size : Nat) : Int) = 1 + (l.size : Nat) + (r.size : Nat) := by omega
  rw [e] at h
  exact h

set_option maxRecDepth 100000 in
set_option maxHeartbeats 2000000 in
theorem made_eq (B : Nat) (w : World) (pl : Option Addr) (l : BT V) (v : V) (pr : Option Addr) (r : BT V) (hB : B ≤ w.heap.size) (hl : In B w pl l) (hr : In B w pr r) (hs : l.size + r.size ≤ 1152921504606846976) :
    Calls Try.prog 130 #[.pointer pl, .int .i64 v, .pointer pr] w (Ret B w (· = .node v l r)) := by
  obtain ⟨V0, hV⟩ : ∃ V0, V0 = (w).alloc (.cells #[] 103) := ⟨_, rfl⟩
  have hbV : Below w.heap.size w V0 := by rw [hV]; exact belowAlloc _ _
  have HV := Lib.hid hV
  have HB := Lib.hid (szle hbV hB)
  have Hl := Lib.hid (hl.up hbV)
  have Hr := Lib.hid (hr.up hbV)
  have HbV := Lib.hid hbV
  clear hV hB hl hr hbV
  go_enter Try.func130, Try.ntmps130
  go_wp2_with fail
  rw [← HV.out]
  refine grow.wp_grow [grow.kEq (.int .i64 v), grow.kEq (.pointer pl), grow.kEq (.int .i64 (l.size : Nat)), grow.kEq (.int .i64 (1 + (l.size : Nat))), grow.kEq (.pointer pr), grow.kEq (.int .i64 (r.size : Nat)), grow.kEq (.int .i64 (1 + (l.size : Nat) + (r.size : Nat))), grow.kEq (.agg #[]), grow.kEq (.iface 103 (.agg #[])), grow.kEq (.agg #[]), grow.kEq (.iface 103 (.agg #[])), grow.kEq (.pointer pl), grow.kEq (.agg #[.bool (sm l).isSome, .int .i64 ((sm l).getD 0)]), grow.kEq (.agg #[]), grow.kEq (.iface 103 (.agg #[])), grow.kEq (.int .i64 v), grow.kEq (.agg #[.bool (one v).isSome, .int .i64 ((one v).getD 0)]), grow.kEq (.agg #[.bool (join (sm l) (one v)).isSome, .int .i64 ((join (sm l) (one v)).getD 0)]), grow.kEq (.pointer pr), grow.kEq (.agg #[.bool (sm r).isSome, .int .i64 ((sm r).getD 0)]), grow.kEq (.agg #[.bool (join (join (sm l) (one v)) (sm r)).isSome, .int .i64 ((join (join (sm l) (one v)) (sm r)).getD 0)]), grow.kEq (.pointer pl), grow.kEq (.pointer pr), grow.kEq (.agg #[.int .i64 v, .int .i64 (1 + (l.size : Nat) + (r.size : Nat)), .bool (join (join (sm l) (one v)) (sm r)).isSome, .int .i64 ((join (join (sm l) (one v)) (sm r)).getD 0), .pointer pl, .pointer pr]), kT B (· = .node v l r), kT B (· = .node v l r)] (by kernel_rfl) (by kernel_rfl) (by kernel_rfl) (by kernel_rfl) ?step ?fin
  case step =>
    refine grow.Each.cons ?_ ?_
    · intro A W hB hs hJ K hK
      have s0 := hs 1 (by kernel_rfl)
      simp at s0
      rw [if_pos (by rfl)]
      clear hs hJ
      go_simp
      exact hK _ _ (Below.refl _ _) rfl
    refine grow.Each.cons ?_ ?_
    · intro A W hB hs hJ K hK
      have s0 := hs 0 (by kernel_rfl)
      simp at s0
      rw [if_pos (by rfl)]
      clear hs hJ
      go_simp
      exact hK _ _ (Below.refl _ _) rfl
    refine grow.Each.cons ?_ ?_
    · intro A W hB hs hJ K hK
      have s0 : A.tmps.getD 9 undef = .pointer pl := hJ 1 9 (by kernel_rfl) (by kernel_rfl)
      simp at s0
      rw [if_pos (by rfl)]
      clear hs hJ
      go_simp
      go_at_call 108
      refine (size_any (Hl.out.up hB)).mono ?_
      rintro e W2 ⟨rfl, rfl⟩
      exact hK _ _ (Below.refl _ _) rfl
    refine grow.Each.cons ?_ ?_
    · intro A W hB hs hJ K hK
      have s0 : A.tmps.getD 10 undef = .int .i64 (l.size : Nat) := hJ 2 10 (by kernel_rfl) (by kernel_rfl)
      simp at s0
      have hw : IntKind.i64.wrap (1 + (l.size : Nat)) = 1 + (l.size : Nat) := IntWalk.i64_in _ (by omega)
      rw [if_pos (by rfl)]
      clear hs hJ
      go_simp
      exact hK _ _ (Below.refl _ _) rfl
    refine grow.Each.cons ?_ ?_
    · intro A W hB hs hJ K hK
      have s0 := hs 2 (by kernel_rfl)
      simp at s0
      rw [if_pos (by rfl)]
      clear hs hJ
      go_simp
      exact hK _ _ (Below.refl _ _) rfl
    refine grow.Each.cons ?_ ?_
    · intro A W hB hs hJ K hK
      have s0 : A.tmps.getD 12 undef = .pointer pr := hJ 4 12 (by kernel_rfl) (by kernel_rfl)
      simp at s0
      rw [if_pos (by rfl)]
      clear hs hJ
      go_simp
      go_at_call 108
      refine (size_any (Hr.out.up hB)).mono ?_
      rintro e W2 ⟨rfl, rfl⟩
      exact hK _ _ (Below.refl _ _) rfl
    refine grow.Each.cons ?_ ?_
    · intro A W hB hs hJ K hK
      have s0 : A.tmps.getD 11 undef = .int .i64 (1 + (l.size : Nat)) := hJ 3 11 (by kernel_rfl) (by kernel_rfl)
      simp at s0
      have s1 : A.tmps.getD 13 undef = .int .i64 (r.size : Nat) := hJ 5 13 (by kernel_rfl) (by kernel_rfl)
      simp at s1
      have hw : IntKind.i64.wrap (1 + (l.size : Nat) + (r.size : Nat)) = 1 + (l.size : Nat) + (r.size : Nat) := IntWalk.i64_in _ (by omega)
      rw [if_pos (by rfl)]
      clear hs hJ
      go_simp
      exact hK _ _ (Below.refl _ _) rfl
    refine grow.Each.cons ?_ ?_
    · intro A W hB hs hJ K hK
      have s0 := hs 7 (by kernel_rfl)
      simp at s0
      rw [if_pos (by rfl)]
      clear hs hJ
      go_simp
      exact hK _ _ (Below.refl _ _) rfl
    refine grow.Each.cons ?_ ?_
    · intro A W hB hs hJ K hK
      have s0 : A.tmps.getD 15 undef = .agg #[] := hJ 7 15 (by kernel_rfl) (by kernel_rfl)
      simp at s0
      rw [if_pos (by rfl)]
      clear hs hJ
      go_simp
      exact hK _ _ (Below.refl _ _) rfl
    refine grow.Each.cons ?_ ?_
    · intro A W hB hs hJ K hK
      have s0 := hs 7 (by kernel_rfl)
      simp at s0
      rw [if_pos (by rfl)]
      clear hs hJ
      go_simp
      exact hK _ _ (Below.refl _ _) rfl
    refine grow.Each.cons ?_ ?_
    · intro A W hB hs hJ K hK
      have s0 : A.tmps.getD 17 undef = .agg #[] := hJ 9 17 (by kernel_rfl) (by kernel_rfl)
      simp at s0
      rw [if_pos (by rfl)]
      clear hs hJ
      go_simp
      exact hK _ _ (Below.refl _ _) rfl
    refine grow.Each.cons ?_ ?_
    · intro A W hB hs hJ K hK
      have s0 := hs 0 (by kernel_rfl)
      simp at s0
      rw [if_pos (by rfl)]
      clear hs hJ
      go_simp
      exact hK _ _ (Below.refl _ _) rfl
    refine grow.Each.cons ?_ ?_
    · intro A W hB hs hJ K hK
      have s0 : A.tmps.getD 19 undef = .pointer pl := hJ 11 19 (by kernel_rfl) (by kernel_rfl)
      simp at s0
      rw [if_pos (by rfl)]
      clear hs hJ
      go_simp
      go_at_call 117
      refine (total_any (Hl.out.up hB)).mono ?_
      rintro e W2 ⟨rfl, hbn⟩
      exact hK _ _ hbn rfl
    refine grow.Each.cons ?_ ?_
    · intro A W hB hs hJ K hK
      have s0 := hs 7 (by kernel_rfl)
      simp at s0
      rw [if_pos (by rfl)]
      clear hs hJ
      go_simp
      exact hK _ _ (Below.refl _ _) rfl
    refine grow.Each.cons ?_ ?_
    · intro A W hB hs hJ K hK
      have s0 : A.tmps.getD 21 undef = .agg #[] := hJ 13 21 (by kernel_rfl) (by kernel_rfl)
      simp at s0
      rw [if_pos (by rfl)]
      clear hs hJ
      go_simp
      exact hK _ _ (Below.refl _ _) rfl
    refine grow.Each.cons ?_ ?_
    · intro A W hB hs hJ K hK
      have s0 := hs 1 (by kernel_rfl)
      simp at s0
      rw [if_pos (by rfl)]
      clear hs hJ
      go_simp
      exact hK _ _ (Below.refl _ _) rfl
    refine grow.Each.cons ?_ ?_
    · intro A W hB hs hJ K hK
      have s0 : A.tmps.getD 22 undef = .iface 103 (.agg #[]) := hJ 14 22 (by kernel_rfl) (by kernel_rfl)
      simp at s0
      have s1 : A.tmps.getD 23 undef = .int .i64 v := hJ 15 23 (by kernel_rfl) (by kernel_rfl)
      simp at s1
      have hm := mOne
      rw [if_pos (by rfl)]
      clear hs hJ
      go_simp
      refine (One_any _ v).mono ?_
      rintro e W2 ⟨rfl, hbn⟩
      exact hK _ _ hbn rfl
    refine grow.Each.cons ?_ ?_
    · intro A W hB hs hJ K hK
      have s0 : A.tmps.getD 18 undef = .iface 103 (.agg #[]) := hJ 10 18 (by kernel_rfl) (by kernel_rfl)
      simp at s0
      have s1 : A.tmps.getD 20 undef = .agg #[.bool (sm l).isSome, .int .i64 ((sm l).getD 0)] := hJ 12 20 (by kernel_rfl) (by kernel_rfl)
      simp at s1
      have s2 : A.tmps.getD 24 undef = .agg #[.bool (one v).isSome, .int .i64 ((one v).getD 0)] := hJ 16 24 (by kernel_rfl) (by kernel_rfl)
      simp at s2
      have hm := mJoin
      rw [if_pos (by rfl)]
      clear hs hJ
      go_simp
      refine (Join_any _ (sm l) (one v)).mono ?_
      rintro e W2 ⟨rfl, hbn⟩
      exact hK _ _ hbn rfl
    refine grow.Each.cons ?_ ?_
    · intro A W hB hs hJ K hK
      have s0 := hs 2 (by kernel_rfl)
      simp at s0
      rw [if_pos (by rfl)]
      clear hs hJ
      go_simp
      exact hK _ _ (Below.refl _ _) rfl
    refine grow.Each.cons ?_ ?_
    · intro A W hB hs hJ K hK
      have s0 : A.tmps.getD 26 undef = .pointer pr := hJ 18 26 (by kernel_rfl) (by kernel_rfl)
      simp at s0
      rw [if_pos (by rfl)]
      clear hs hJ
      go_simp
      go_at_call 117
      refine (total_any (Hr.out.up hB)).mono ?_
      rintro e W2 ⟨rfl, hbn⟩
      exact hK _ _ hbn rfl
    refine grow.Each.cons ?_ ?_
    · intro A W hB hs hJ K hK
      have s0 : A.tmps.getD 16 undef = .iface 103 (.agg #[]) := hJ 8 16 (by kernel_rfl) (by kernel_rfl)
      simp at s0
      have s1 : A.tmps.getD 25 undef = .agg #[.bool (join (sm l) (one v)).isSome, .int .i64 ((join (sm l) (one v)).getD 0)] := hJ 17 25 (by kernel_rfl) (by kernel_rfl)
      simp at s1
      have s2 : A.tmps.getD 27 undef = .agg #[.bool (sm r).isSome, .int .i64 ((sm r).getD 0)] := hJ 19 27 (by kernel_rfl) (by kernel_rfl)
      simp at s2
      have hm := mJoin
      rw [if_pos (by rfl)]
      clear hs hJ
      go_simp
      refine (Join_any _ (join (sm l) (one v)) (sm r)).mono ?_
      rintro e W2 ⟨rfl, hbn⟩
      exact hK _ _ hbn rfl
    refine grow.Each.cons ?_ ?_
    · intro A W hB hs hJ K hK
      have s0 := hs 0 (by kernel_rfl)
      simp at s0
      rw [if_pos (by rfl)]
      clear hs hJ
      go_simp
      exact hK _ _ (Below.refl _ _) rfl
    refine grow.Each.cons ?_ ?_
    · intro A W hB hs hJ K hK
      have s0 := hs 2 (by kernel_rfl)
      simp at s0
      rw [if_pos (by rfl)]
      clear hs hJ
      go_simp
      exact hK _ _ (Below.refl _ _) rfl
    refine grow.Each.cons ?_ ?_
    · intro A W hB hs hJ K hK
      have s0 : A.tmps.getD 8 undef = .int .i64 v := hJ 0 8 (by kernel_rfl) (by kernel_rfl)
      simp at s0
      have s1 : A.tmps.getD 14 undef = .int .i64 (1 + (l.size : Nat) + (r.size : Nat)) := hJ 6 14 (by kernel_rfl) (by kernel_rfl)
      simp at s1
      have s2 : A.tmps.getD 28 undef = .agg #[.bool (join (join (sm l) (one v)) (sm r)).isSome, .int .i64 ((join (join (sm l) (one v)) (sm r)).getD 0)] := hJ 20 28 (by kernel_rfl) (by kernel_rfl)
      simp at s2
      have s3 : A.tmps.getD 29 undef = .pointer pl := hJ 21 29 (by kernel_rfl) (by kernel_rfl)
      simp at s3
      have s4 : A.tmps.getD 30 undef = .pointer pr := hJ 22 30 (by kernel_rfl) (by kernel_rfl)
      simp at s4
      rw [if_pos (by rfl)]
      clear hs hJ
      go_simp
      exact hK _ _ (Below.refl _ _) rfl
    refine grow.Each.cons ?_ ?_
    · intro A W hB hs hJ K hK
      have s0 : A.tmps.getD 31 undef = .agg #[.int .i64 v, .int .i64 (1 + (l.size : Nat) + (r.size : Nat)), .bool (join (join (sm l) (one v)) (sm r)).isSome, .int .i64 ((join (join (sm l) (one v)) (sm r)).getD 0), .pointer pl, .pointer pr] := hJ 23 31 (by kernel_rfl) (by kernel_rfl)
      simp at s0
      rw [if_pos (by rfl)]
      clear hs hJ
      go_simp
      exact hK _ _ (belowAlloc _ _) ⟨_, _, rfl, rfl, newNode (szle hB HB.out) (Hl.out.up hB) (Hr.out.up hB)⟩
    refine grow.Each.cons ?_ ?_
    · intro A W hB hs hJ K hK
      obtain ⟨q, t, s0, ht, hj⟩ := hJ 24 32 (by kernel_rfl) (by kernel_rfl)
      simp at s0
      rw [if_pos (by rfl)]
      clear hs hJ
      go_simp
      exact hK _ _ (Below.refl _ _) ⟨q, t, rfl, ht, hj⟩
    exact grow.Each.nil
  case fin =>
    intro f W hB hF
    have f0 : f 0 = .int .i64 v := hF 0 (by decide)
    have f1 : f 1 = .pointer pl := hF 1 (by decide)
    have f2 : f 2 = .int .i64 (l.size : Nat) := hF 2 (by decide)
    have f3 : f 3 = .int .i64 (1 + (l.size : Nat)) := hF 3 (by decide)
    have f4 : f 4 = .pointer pr := hF 4 (by decide)
    have f5 : f 5 = .int .i64 (r.size : Nat) := hF 5 (by decide)
    have f6 : f 6 = .int .i64 (1 + (l.size : Nat) + (r.size : Nat)) := hF 6 (by decide)
    have f7 : f 7 = .agg #[] := hF 7 (by decide)
    have f8 : f 8 = .iface 103 (.agg #[]) := hF 8 (by decide)
    have f9 : f 9 = .agg #[] := hF 9 (by decide)
    have f10 : f 10 = .iface 103 (.agg #[]) := hF 10 (by decide)
    have f11 : f 11 = .pointer pl := hF 11 (by decide)
    have f12 : f 12 = .agg #[.bool (sm l).isSome, .int .i64 ((sm l).getD 0)] := hF 12 (by decide)
    have f13 : f 13 = .agg #[] := hF 13 (by decide)
    have f14 : f 14 = .iface 103 (.agg #[]) := hF 14 (by decide)
    have f15 : f 15 = .int .i64 v := hF 15 (by decide)
    have f16 : f 16 = .agg #[.bool (one v).isSome, .int .i64 ((one v).getD 0)] := hF 16 (by decide)
    have f17 : f 17 = .agg #[.bool (join (sm l) (one v)).isSome, .int .i64 ((join (sm l) (one v)).getD 0)] := hF 17 (by decide)
    have f18 : f 18 = .pointer pr := hF 18 (by decide)
    have f19 : f 19 = .agg #[.bool (sm r).isSome, .int .i64 ((sm r).getD 0)] := hF 19 (by decide)
    have f20 : f 20 = .agg #[.bool (join (join (sm l) (one v)) (sm r)).isSome, .int .i64 ((join (join (sm l) (one v)) (sm r)).getD 0)] := hF 20 (by decide)
    have f21 : f 21 = .pointer pl := hF 21 (by decide)
    have f22 : f 22 = .pointer pr := hF 22 (by decide)
    have f23 : f 23 = .agg #[.int .i64 v, .int .i64 (1 + (l.size : Nat) + (r.size : Nat)), .bool (join (join (sm l) (one v)) (sm r)).isSome, .int .i64 ((join (join (sm l) (one v)) (sm r)).getD 0), .pointer pl, .pointer pr] := hF 23 (by decide)
    obtain ⟨q_24, t_24, f24, -, -⟩ := hF 24 (by decide)
    obtain ⟨q_25, t_25, f25, ht_25, hj_25⟩ := hF 25 (by decide)
    clear hF
    generalize hA : grow.puts _ _ f _ = A'
    simp only [List.length_cons, List.length_nil, Nat.reduceAdd, grow.puts, Act.put, List.getElem?_toArray, List.getElem?_cons_zero, List.getElem?_cons_succ, Option.bind_some, List.setIfInBounds_toArray, List.set_cons_zero, List.set_cons_succ, f0, f1, f2, f3, f4, f5, f6, f7, f8, f9, f10, f11, f12, f13, f14, f15, f16, f17, f18, f19, f20, f21, f22, f23, f24, f25] at hA
    subst hA
    go_wp2_with fail
    go_ret
    exact RetQ.mk ht_25 hj_25 (belowTrans HbV.out hB)
end Go.Proofs.Ytnigadnjppeckaa.manyO
