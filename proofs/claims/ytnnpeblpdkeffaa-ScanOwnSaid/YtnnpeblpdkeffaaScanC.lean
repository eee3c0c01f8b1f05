/- slices.Chunk over ints, in twos: its closure's contract: the twos in order, the last one may be of one. -/
import Derived.Test.YtnnpeblpdkeffaaScanT
import Derived.Test.YtnnpeblpdkeffaaRows
import Derived.Test.YtnnpeblpdkeffaaFill
import Derived.RangeFuncNested
import Derived.RangeFuncBound
import Derived.RangeFuncCalls
import Derived.RangeFuncLeaves
import Derived.RangeFuncFrom
import Derived.Shelf.Abstract
import Derived.Shelf.RegionOpen
import Derived.Sort.QuietIn
import Derived.Sort.QuietTacIn
import Derived.Sort.BigQuietIn
import Derived.WalkKit
import Derived.OwnWalkIn
import Derived.TacticsInMore
import Derived.LoopNIn
import Derived.LoopIn
namespace Go.Proofs.Ytnnpeblpdkeffaa.scan
open Go.RowKit Go.Shelf

attribute [local go_sem] Oper.semAt_some

set_option maxHeartbeats 1000000 in
theorem chunk_any (a : Option Addr) (len cap : Nat) (w : World) :
    Calls Try.prog 25 #[.slice a len cap, .int .i64 2] w fun e w' => e = .returned (.func (.func 30) #[] #[.pointer (some ⟨w.heap.size, 0, none⟩), .pointer (some ⟨w.heap.size + 1, 0, none⟩)]) ∧ w' = (w.alloc (.cells #[.slice a len cap] 22)).alloc (.cells #[.int .i64 2] 3) := by
  go_enter Try.func25, Try.ntmps25
  go_wp2_with fail
  go_ret
  exact ⟨rfl, rfl⟩

/-- what a round keeps: what lay below n₀, and both boxes -/
def Kc (n₀ Bs Bn : Nat) (W W' : World) : Prop := Below n₀ W W' ∧ W'.heap[Bs]? = W.heap[Bs]? ∧ W'.heap[Bn]? = W.heap[Bn]?
theorem Kc.trans {n₀ Bs Bn : Nat} {A B C : World} (h : Kc n₀ Bs Bn A B) (k : Kc n₀ Bs Bn B C) : Kc n₀ Bs Bn A C := ⟨h.1.trans k.1, k.2.1.trans h.2.1, k.2.2.trans h.2.2⟩
theorem Kc.refl (n₀ Bs Bn : Nat) (A : World) : Kc n₀ Bs Bn A A := ⟨Below.refl _ _, rfl, rfl⟩
theorem Kc.book {n₀ Bs Bn : Nat} {w : World} (hn : n₀ ≤ w.heap.size) (hB : Bs < w.heap.size) (hN : Bn < w.heap.size) (W : World) (l : Nat) (o o' : Obj) (hl : w.heap.size ≤ l) (h : W.heap[l]? = some o) (h1 : o.isCells = false) (h2 : o.isWalk = false) : Kc n₀ Bs Bn W (W.putObj l o') :=
  ⟨belowK_b hn W l o o' hl h h1 h2, World.putObj_heap_other (by omega), World.putObj_heap_other (by omega)⟩

/-- a chunk: its slice -/
def ch (b off len : Nat) (j : Nat) : Value := .slice (some ⟨b, off + 2 * j, none⟩) (min 2 (len - 2 * j)) (min 2 (len - 2 * j))

theorem abideDrew {β : Type} {B : Nat} {J : β → World → Prop} (hJ : AbidesFrom B J) {s : β} {W : World} (h : J s W) (n : Nat) : J s (W.drewN n) :=
  hJ s W _ none h ⟨rfl, rfl, rfl, Nat.le_refl _, fun _ _ _ => rfl⟩ (fun _ e => by cases e)
theorem Kc.drew {n₀ Bs Bn : Nat} {A B : World} (h : Kc n₀ Bs Bn A B) (n : Nat) : Kc n₀ Bs Bn A (B.drewN n) := ⟨h.1.trans (⟨rfl, rfl, rfl, Nat.le_refl _, fun _ _ => rfl⟩ : Below n₀ B (B.drewN n)), h.2.1, h.2.2⟩

set_option maxRecDepth 100000 in
set_option maxHeartbeats 2000000 in
theorem chunk1_in (n : Nat) (hn : 1 ≤ n) (l Bs Bn n₀ b off len cap : Nat) (hlc : len ≤ cap) (hreach : len ≤ 17592186044416) (J Jx : List (Fin ((len + 1) / 2)) → World → Prop)
    (hY : ∀ pre x W, J pre W → pre.length < (len + 1) / 2 → YieldAt Fence.wide (n - 1) Try.prog l #[ch b off len x.val] W fun e W' =>
      (e = .returned (.bool true) ∧ J (pre ++ [x]) W' ∧ Kc n₀ Bs Bn W W') ∨ (e = .returned (.bool false) ∧ Jx (pre ++ [x]) W'))
    (W : World) (hJ : AbidesFrom W.heap.size J) (hBs : W.heap[Bs]? = some (.cells #[.slice (some ⟨b, off, none⟩) len cap] 22 (0, 0))) (hBn : W.heap[Bn]? = some (.cells #[.int .i64 2] 3 (0, 0))) (h0 : J [] W) :
    CallsIn Fence.wide n Try.prog 30 #[.func (.yield l) #[] #[], .pointer (some ⟨Bs, 0, none⟩), .pointer (some ⟨Bn, 0, none⟩)] W fun e W' => (∃ v, e = .returned v) ∧
      ((∃ ys, ys.map Fin.val = List.range ((len + 1) / 2) ∧ J ys W') ∨ (∃ pre, True ∧ Jx pre W')) := by
  refine callsIn_of_wp Try.func30 rfl trivial ?_ rfl
  simp only [Try.ntmps30, List.size_toArray, List.length_cons, List.length_nil, Nat.reduceAdd, Nat.reduceSub, Array.replicate_succ, Array.replicate_zero, List.push_toArray, List.append_toArray, List.nil_append, List.cons_append]
  gi_wp2
  gi_loopw [4] (fun i wr => ∃ j : Nat, i = .int .i64 ((2 * j : Nat) : Int) ∧ 2 * j ≤ len + 1 ∧ (∃ pre : List (Fin ((len + 1) / 2)), pre.map Fin.val = List.range j ∧ J pre wr) ∧ Kc n₀ Bs Bn W wr)
    (fun i _ => (len + 1 - (intOf i).toNat))
  case atStart => exact ⟨0, rfl, by omega, ⟨[], rfl, h0⟩, Kc.refl _ _ _ _⟩
  case round =>
    obtain ⟨j, rfl, hj, ⟨pre, hpre, hJs⟩, hnx⟩ := hrel
    have hpl : pre.length = j := by have h := congrArg List.length hpre; simpa using h
    have cs := cell_of_one (hnx.2.1.trans hBs)
    have cn := cell_of_one (hnx.2.2.trans hBn)
    obtain ⟨m, hm⟩ : ∃ m, m = 2 * j := ⟨_, rfl⟩
    rw [← hm] at hj ⊢
    by_cases hlt : m < len
    · have d0 : (0 : Int) ≤ (m : Int) := by omega
      have d1 : (m : Int) < (len : Int) := by omega
      have d2 : (len : Int) ≤ 17592186044416 := by omega
      have hjl : pre.length < (len + 1) / 2 := by rw [hpl]; omega
      have hjn : j < (len + 1) / 2 := by omega
      have hch : ch b off len j = .slice (some ⟨b, off + m, none⟩) (min 2 (len - m)) (min 2 (len - m)) := by rw [ch, hm]
      have Hm := Lib.hid hm
      have Hpre := Lib.hid hpre
      clear hm hpl hpre
      by_cases h2 : m + 2 ≤ len
      · have hmin : min 2 (len - m) = 2 := by omega
        rw [hmin] at hch
        have Hch := Lib.hid hch
        clear hmin hch
        gi_wp2
        gi_quiet (fail)
        obtain ⟨fn, tmps, assign, body, hy, hR⟩ := hY _ ⟨j, hjn⟩ (wr.drewN nq) (abideDrew hJ hJs nq) hjl
        rw [Hch.out] at hy
        gi_wp2
        refine hR.mono ?_
        rintro e W3 (⟨rfl, hJ3, hk3⟩ | ⟨rfl, hJx3⟩)
        · have hnx3 := (hnx.drew nq).trans hk3
          have cn3 := cell_of_one (hnx3.2.2.trans hBn)
          have hp3 : (pre ++ [(⟨j, hjn⟩ : Fin ((len + 1) / 2))]).map Fin.val = List.range (j + 1) := by rw [List.map_append, Hpre.out, List.range_succ]; rfl
          have Hp3 := Lib.hid hp3
          clear hp3
          gi_wp2
          go_roundw
          case rel => exact ⟨j + 1, by have := Hm.out; rw [this]; go_num, by have := Hm.out; omega, ⟨_, Hp3.out, hJ3⟩, hnx3⟩
          case measure => simp [intOf]; omega
        · gi_wp2
          refine bodyPost_ret (results_none rfl _ _ _) rfl ?_
          exact ⟨⟨_, rfl⟩, .inr ⟨_, trivial, hJx3⟩⟩
      · have hmin : min 2 (len - m) = len - m := by omega
        rw [hmin] at hch
        have Hch := Lib.hid hch
        clear hmin hch
        gi_wp2
        gi_quiet (fail)
        obtain ⟨fn, tmps, assign, body, hy, hR⟩ := hY _ ⟨j, hjn⟩ (wr.drewN nq) (abideDrew hJ hJs nq) hjl
        rw [Hch.out] at hy
        gi_wp2
        refine hR.mono ?_
        rintro e W3 (⟨rfl, hJ3, hk3⟩ | ⟨rfl, hJx3⟩)
        · have hnx3 := (hnx.drew nq).trans hk3
          have cn3 := cell_of_one (hnx3.2.2.trans hBn)
          have hp3 : (pre ++ [(⟨j, hjn⟩ : Fin ((len + 1) / 2))]).map Fin.val = List.range (j + 1) := by rw [List.map_append, Hpre.out, List.range_succ]; rfl
          have Hp3 := Lib.hid hp3
          clear hp3
          gi_wp2
          go_roundw
          case rel => exact ⟨j + 1, by have := Hm.out; rw [this]; go_num, by have := Hm.out; omega, ⟨_, Hp3.out, hJ3⟩, hnx3⟩
          case measure => simp [intOf]; omega
        · gi_wp2
          refine bodyPost_ret (results_none rfl _ _ _) rfl ?_
          exact ⟨⟨_, rfl⟩, .inr ⟨_, trivial, hJx3⟩⟩
    · have hje : j = (len + 1) / 2 := by omega
      rw [hje] at hpre
      have Hpre := Lib.hid hpre
      clear hje hm hpre hpl
      gi_wp2
      go_end0
      exact ⟨⟨_, rfl⟩, .inl ⟨_, Hpre.out, hJs⟩⟩

set_option maxRecDepth 100000 in
set_option maxHeartbeats 1000000 in
theorem chunk1_none (n : Nat) (l Bs Bn : Nat) (a : Option Addr) (cap : Nat) {β : Type} (J : List β → World → Prop) (W : World) (hBs : W.cell? ⟨Bs, 0, none⟩ = some (.slice a 0 cap)) (h0 : J [] W) :
    CallsIn Fence.wide n Try.prog 30 #[.func (.yield l) #[] #[], .pointer (some ⟨Bs, 0, none⟩), .pointer (some ⟨Bn, 0, none⟩)] W fun e W' => (∃ v, e = .returned v) ∧ J [] W' := by
  refine callsIn_of_wp Try.func30 rfl trivial ?_ rfl
  simp only [Try.ntmps30, List.size_toArray, List.length_cons, List.length_nil, Nat.reduceAdd, Nat.reduceSub, Array.replicate_succ, Array.replicate_zero, List.push_toArray, List.append_toArray, List.nil_append, List.cons_append]
  gi_wp2
  gi_loopw [4] (fun i wr => i = .int .i64 0 ∧ wr = W) (fun _ _ => 0)
  case atStart => exact ⟨rfl, rfl⟩
  case round =>
    obtain ⟨rfl, rfl⟩ := hrel
    gi_wp2
    go_end0
    exact ⟨⟨_, rfl⟩, h0⟩

/-- what slices.Chunk hands back gives the twos, in order -/
theorem chunk_stops (n : Nat) (hn : 1 ≤ n) (Bs Bn n₀ : Nat) (a : Option Addr) (b off len cap : Nat) (hlc : len ≤ cap) (ha : len = 0 ∨ a = some ⟨b, off, none⟩) (hreach : len ≤ 17592186044416) (w : World)
    (hBs : w.heap[Bs]? = some (.cells #[.slice a len cap] 22 (0, 0))) (hBn : w.heap[Bn]? = some (.cells #[.int .i64 2] 3 (0, 0))) :
    SeqStopsK Fence.wide n Try.prog 30 #[.pointer (some ⟨Bs, 0, none⟩), .pointer (some ⟨Bn, 0, none⟩)] (fun x : Fin ((len + 1) / 2) => #[ch b off len x.val]) (Kc n₀ Bs Bn) (fun ys => ys.map Fin.val = List.range ((len + 1) / 2)) (fun _ => True) ((len + 1) / 2) w := fun l J Jx W hW hJ _ hY h0 => by
  have hc' := upb hW hBs
  have hn' := upb hW hBn
  by_cases hl : len = 0
  · subst hl
    exact (chunk1_none n l Bs Bn a cap J W (cell_of_one hc') h0).mono fun e W' ⟨he, hj⟩ => ⟨he, .inl ⟨[], rfl, hj⟩⟩
  · rcases ha with h | rfl
    · exact absurd h hl
    · exact chunk1_in n hn l Bs Bn n₀ b off len cap hlc hreach J Jx hY W hJ hc' hn' h0
end Go.Proofs.Ytnnpeblpdkeffaa.scan
