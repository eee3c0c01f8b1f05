/- list.All: its closure's contract: all, in order. slices.AppendSeq, slices.Collect over it; Ints. -/
import Derived.Test.YtcjhbpnmkahkeaaListOf
import Derived.Test.YtcjhbpnmkahkeaaGather
import Derived.Test.YtcjhbpnmkahkeaaCat
import Derived.RangeFuncBox
import Derived.RangeFuncWrites
import Derived.Maps.AppendAt
namespace Go.Proofs.Ytcjhbpnmkahkeaa.list
open Go.RowKit Go.Shelf

attribute [local go_sem] Oper.semAt_some

theorem In.unique {B : Nat} {w : World} : ∀ {xs ys : List Int} {p : Option Addr}, In B w p xs → In B w p ys → xs = ys
  | [], [], _, _, _ => rfl
  | [], _ :: _, _, h, ⟨_, _, e, _⟩ => by rw [In] at h; rw [h] at e; cases e
  | _ :: _, [], _, ⟨_, _, e, _⟩, h => by rw [In] at h; rw [h] at e; cases e
  | x :: xs, y :: ys, _, ⟨b, q, e, _, hc, hr⟩, ⟨b', q', e', _, hc', hr'⟩ => by
    rw [e] at e'
    cases e'
    rw [hc] at hc'
    cases hc'
    rw [In.unique hr hr']

open Classical in
/-- how many are still to come -/
noncomputable def left (w : World) (v : Value) : Nat :=
  if h : ∃ r : Option Addr × List Int, v = .pointer r.1 ∧ In 0 w r.1 r.2 then (Classical.choose h).2.length else 0
theorem left_eq {w : World} {q : Option Addr} {xs : List Int} (h : In 0 w q xs) : left w (.pointer q) = xs.length := by
  have hex : ∃ r : Option Addr × List Int, Value.pointer q = .pointer r.1 ∧ In 0 w r.1 r.2 := ⟨(q, xs), rfl, h⟩
  unfold left
  rw [dif_pos hex]
  obtain ⟨e, hl⟩ := Classical.choose_spec hex
  have e' : q = (Classical.choose hex).1 := by simpa using e
  rw [← e'] at hl
  rw [In.unique hl h]

set_option maxRecDepth 100000 in
set_option maxHeartbeats 2000000 in
theorem all1_in (F : Fence) (n : Nat) (hf : F.fn 85) (hro : F.round = none) (hn : 1 ≤ n) (l Bn : Nat) (w0 : World) (p0 : Option Addr) (nv : Int) (xs : List Int) (J Jx : List Int → World → Prop)
    (hY : ∀ pre x W, J pre W → pre.length < xs.length → YieldAt F (n - 1) Try.prog l #[.int .i64 x] W fun e W' =>
      (e = .returned (.bool true) ∧ J (pre ++ [x]) W' ∧ Below w0.heap.size W W') ∨ (e = .returned (.bool false) ∧ Jx (pre ++ [x]) W'))
    (W : World) (hb0 : Below w0.heap.size w0 W) (hBn : W.heap[Bn]? = some (.cells #[.pointer p0, .int .i64 nv] 26 (0, 0))) (hL : In 0 w0 p0 xs) (h0 : J [] W) :
    CallsIn F n Try.prog 85 #[.func (.yield l) #[] #[], .pointer (some ⟨Bn, 0, none⟩)] W fun e W' => (∃ v, e = .returned v) ∧
      ((∃ ys, ys = xs ∧ J ys W') ∨ (∃ pre, True ∧ Jx pre W')) := by
  have c0 := two_c0 hBn
  refine callsIn_of_wp Try.func85 rfl hf ?_ hro
  simp only [Try.ntmps85, List.size_toArray, List.length_cons, List.length_nil, Nat.reduceAdd, Nat.reduceSub, Array.replicate_succ, Array.replicate_zero, List.push_toArray, List.append_toArray, List.nil_append, List.cons_append]
  gi_wp2
  gi_loopw [3] (fun p wr => ∃ (pre rest : List Int) (q : Option Addr), p = .pointer q ∧ xs = pre ++ rest ∧ In 0 w0 q rest ∧ J pre wr ∧ Below w0.heap.size w0 wr)
    (fun p _ => left w0 p)
  case atStart => exact ⟨[], xs, p0, rfl, rfl, hL, h0, hb0⟩
  case round =>
    obtain ⟨pre, rest, q, rfl, hx, hl, hJs, hbr⟩ := hrel
    cases rest with
    | nil =>
      obtain rfl : q = none := hl
      gi_wp2
      refine ⟨fun _ h => (by cases h), ?_⟩
      gi_wp2
      go_end0
      exact ⟨⟨_, rfl⟩, .inl ⟨pre, by simp [hx], hJs⟩⟩
    | cons x rest =>
      have hl' := hl
      obtain ⟨b, q', rfl, _, hb, hr⟩ := hl
      obtain ⟨fn, tmps, assign, body, hy, hR⟩ := hY pre x wr hJs (by rw [hx]; simp)
      have hbw := upb hbr hb
      have d0 := two_c0 hbw
      gi_wp2
      refine hR.mono ?_
      rintro e W3 (⟨rfl, hJ3, hk3⟩ | ⟨rfl, hJx3⟩)
      · have hb3 : Below w0.heap.size w0 W3 := hbr.trans hk3
        have d1 := two_c1 (upb hb3 hb)
        gi_wp2
        go_roundw
        case rel => exact ⟨pre ++ [x], rest, q', rfl, by simp [hx], hr, hJ3, hb3⟩
        case measure => rw [left_eq hr, left_eq hl']; simp
      · gi_wp2
        go_end0
        exact ⟨⟨_, rfl⟩, .inr ⟨pre ++ [x], trivial, hJx3⟩⟩

set_option maxHeartbeats 1000000 in
theorem all_any (p : Option Addr) (nv : Int) (w : World) :
    Calls Try.prog 54 #[.agg #[.pointer p, .int .i64 nv]] w fun e w' => e = .returned (.func (.func 85) #[] #[.pointer (some ⟨w.heap.size, 0, none⟩)]) ∧ w' = w.alloc (.cells #[.pointer p, .int .i64 nv] 26) := by
  go_enter Try.func54, Try.ntmps54
  go_wp2_with fail
  go_ret
  exact ⟨rfl, rfl⟩

theorem all_stops (F : Fence) (n : Nat) (hf : F.fn 85) (hro : F.round = none) (hn : 1 ≤ n) (Bn : Nat) (w0 w : World) (p0 : Option Addr) (nv : Int) (xs : List Int) (hb0 : Below w0.heap.size w0 w)
    (hBn : w.heap[Bn]? = some (.cells #[.pointer p0, .int .i64 nv] 26 (0, 0))) (hL : In 0 w0 p0 xs) :
    SeqStopsK F n Try.prog 85 #[.pointer (some ⟨Bn, 0, none⟩)] (fun x : Int => #[Value.int .i64 x]) (Below w0.heap.size) (fun ys => ys = xs) (fun _ => True) xs.length w := fun l J Jx W hW _ _ hY h0 =>
  all1_in F n hf hro hn l Bn w0 p0 nv xs J Jx hY W (hb0.trans (hW.mono hb0.size)) (upb hW hBn) hL h0
end Go.Proofs.Ytcjhbpnmkahkeaa.list
