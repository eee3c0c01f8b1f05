/- Package list in memory: one cell behind the other; Push. -/
import Derived.Test.YtcjhbpnmkahkeaaTwo
import Derived.Test.YtcjhbpnmkahkeaaFill
import Derived.Test.YtcjhbpnmkahkeaaRows
import Derived.Deep.QuietTactic
import Derived.BigQuiet
import Derived.Deep.LoopGhost
namespace Go.Proofs.Ytcjhbpnmkahkeaa.list
open Go.RowKit

/-- a pointer leads to these numbers, one behind the other, in blocks from B on -/
def In (B : Nat) (w : World) : Option Addr → List Int → Prop
  | p, [] => p = none
  | p, x :: xs => ∃ b q, p = some ⟨b, 0, none⟩ ∧ B ≤ b ∧ w.heap[b]? = some (.cells #[.int .i64 x, .pointer q] 127 (0, 0)) ∧ In B w q xs
theorem In.up {B : Nat} {w w' : World} (hb : Below w.heap.size w w') : ∀ {xs : List Int} {p : Option Addr}, In B w p xs → In B w' p xs
  | [], _, h => h
  | _ :: _, _, ⟨b, q, e, hB, hc, hr⟩ => ⟨b, q, e, hB, upb hb hc, In.up hb hr⟩
theorem In.lower {B B' : Nat} {w : World} (hB : B' ≤ B) : ∀ {xs : List Int} {p : Option Addr}, In B w p xs → In B' w p xs
  | [], _, h => h
  | _ :: _, _, ⟨b, q, e, hB1, hc, hr⟩ => ⟨b, q, e, Nat.le_trans hB hB1, hc, In.lower hB hr⟩
theorem In.frame {B : Nat} {w w' : World} (hw : ∀ b, B ≤ b → b < w.heap.size → ∀ c, w.heap[b]? = some (.cells c 127 (0, 0)) → w'.heap[b]? = w.heap[b]?) : ∀ {xs : List Int} {p : Option Addr}, In B w p xs → In B w' p xs
  | [], _, h => h
  | _ :: _, _, ⟨b, q, e, hB, hc, hr⟩ => ⟨b, q, e, hB, (hw b hB (Array.getElem?_eq_some_iff.1 hc).1 _ hc).trans hc, In.frame hw hr⟩
theorem In.store2 {B k : Nat} {w : World} {p : Option Addr} {xs : List Int} {c : Array Value} {ty' : Nat} {fz : Nat × Nat} {u v : Value} (h : In B w p xs) (hk : w.heap[k]? = some (.cells c ty' fz)) (hne : ty' ≠ 127) :
    In B ((w.setCell ⟨k, 0, none⟩ u).setCell ⟨k, 1, none⟩ v) p xs := by
  refine In.frame (fun b _ _ c' hc => heapSet2 ?_) h
  rintro rfl
  rw [hk] at hc
  cases hc
  exact hne rfl
theorem In.new {B : Nat} {w : World} {q : Option Addr} {x : Int} {xs : List Int} (hB : B ≤ w.heap.size) (h : In B w q xs) : In B (w.alloc (.cells #[.int .i64 x, .pointer q] 127)) (some ⟨w.heap.size, 0, none⟩) (x :: xs) :=
  ⟨_, q, rfl, hB, heap_alloc_new _ _, h.up (belowAlloc _ _)⟩

/-- what a call that hands back a list leaves -/
def RetS (B : Nat) (w : World) (xs : List Int) (e : Ending) (w' : World) : Prop := ∃ p, e = .returned (.agg #[.pointer p, .int .i64 (xs.length : Nat)]) ∧ In B w' p xs ∧ Below w.heap.size w w'

set_option maxHeartbeats 4000000 in
theorem Push_any (B : Nat) (w : World) (p : Option Addr) (xs : List Int) (x : Int) (hB : B ≤ w.heap.size) (h : In B w p xs) (hn : xs.length ≤ 1152921504606844000) :
    Calls Try.prog 52 #[.agg #[.pointer p, .int .i64 (xs.length : Nat)], .int .i64 x] w (RetS B w (x :: xs)) := by
  have hwr : IntKind.i64.wrap ((xs.length : Nat) + 1) = (xs.length : Nat) + 1 := IntWalk.i64_in _ (by omega)
  have Hin := Lib.hid h
  have HB := Lib.hid hB
  clear h hB
  go_enter Try.func52, Try.ntmps52
  go_wp2_with fail
  have hb2 := fun o o' => belowTrans (belowAlloc w o) (belowAlloc _ o')
  refine bodyPost_ret (v := .agg #[.pointer (some ⟨w.heap.size + 1 + 1, 0, none⟩), .int .i64 ((xs.length : Nat) + 1)]) (by simp [results, Try.results52, go_sem]) rfl ?_
  refine ⟨some ⟨w.heap.size + 1 + 1, 0, none⟩, by simp, ?_, belowTrans (hb2 _ _) (belowAlloc _ _)⟩
  have hn := In.new (x := x) (szle (hb2 _ _) HB.out) (Hin.out.up (hb2 (.cells #[.pointer p, .int .i64 (xs.length : Nat)] 26) (.cells #[.pointer (some ⟨w.heap.size + 1 + 1, 0, none⟩), .int .i64 ((xs.length : Nat) + 1)] 26)))
  rw [World.size_alloc, World.size_alloc] at hn
  exact hn
end Go.Proofs.Ytcjhbpnmkahkeaa.list
