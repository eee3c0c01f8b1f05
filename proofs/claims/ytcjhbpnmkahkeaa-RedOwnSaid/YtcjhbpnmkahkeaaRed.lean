/- The walks of package red: each function hands back a tree of as many numbers as it must have; what was there stays. -/
import Derived.Test.YtcjhbpnmkahkeaaBase
import Derived.Test.YtcjhbpnmkahkeaaMore
import Derived.Test.YtcjhbpnmkahkeaaRows
import Derived.Deep.QuietTactic
import Derived.BigQuiet
namespace Go.Proofs.Ytcjhbpnmkahkeaa.red
open Go.RowKit

abbrev A := Bool × Int
abbrev key (x : A) : Int := x.2
def cs (x : A) (l r : BT A) : List Value := [.bool x.1, .int .i64 x.2, .int .i64 (BT.size (.node x l r))]
abbrev In := Holds cs 112
abbrev Ret := RetQ cs 112

section
variable {w : World} {b : Nat} {x : A} {l r : BT A} {pl pr : Option Addr}
  (h : w.heap[b]? = some (.cells (cs x l r ++ [Value.pointer pl, Value.pointer pr]).toArray 112 (0, 0)))
include h
theorem cc : w.cell? ⟨b, 0, none⟩ = some (.bool x.1) := by simp [World.cell?, h, cs]
theorem c0 : w.cell? ⟨b, 1, none⟩ = some (.int .i64 x.2) := by simp [World.cell?, h, cs]
theorem cx : w.cell? ⟨b, 1, none⟩ = some (.int .i64 (key x)) := c0 h
theorem cn : w.cell? ⟨b, 2, none⟩ = some (.int .i64 (BT.size (.node x l r))) := by simp [World.cell?, h, cs]
theorem cl : w.cell? ⟨b, 3, none⟩ = some (.pointer pl) := by simp [World.cell?, h, cs]
theorem cr : w.cell? ⟨b, 4, none⟩ = some (.pointer pr) := by simp [World.cell?, h, cs]
end

set_option maxHeartbeats 400000 in
theorem size_any {B : Nat} {w : World} {p : Option Addr} {t : BT A} (h : In B w p t) :
    Calls Try.prog 74 #[.pointer p] w fun e w' => e = .returned (.int .i64 (t.size : Nat)) ∧ w = w' := by
  cases t with
  | nil =>
    obtain rfl : p = none := h
    go_enter Try.func74, Try.ntmps74
    go_wp2
    go_ret
    exact ⟨rfl, rfl⟩
  | node x l r =>
    obtain ⟨b, pl, pr, rfl, _, hb, _, _⟩ := h
    have h1 := cn hb
    clear hb
    go_enter Try.func74, Try.ntmps74
    go_wp2
    go_ret
    exact ⟨rfl, rfl⟩

theorem new_any {B : Nat} {w : World} {pl : Option Addr} {l : BT A} {x : A} {pr : Option Addr} {r : BT A} (hB : B ≤ w.heap.size) (hl : In B w pl l) (hr : In B w pr r) (n : Int) (hn : n = (BT.size (.node x l r) : Nat)) :
    Ret B w (· = .node x l r) (.returned (.pointer (some ⟨w.heap.size, 0, none⟩))) (w.alloc (.cells #[.bool x.1, .int .i64 x.2, .int .i64 n, .pointer pl, .pointer pr] 112)) := by
  subst hn
  exact RetQ.mk rfl (Holds.new hB hl hr) (belowAlloc _ _)

set_option maxHeartbeats 400000 in
theorem made_any (B : Nat) (w : World) (c : Bool) (pl : Option Addr) (l : BT A) (x : Int) (pr : Option Addr) (r : BT A) (hB : B ≤ w.heap.size) (hl : In B w pl l) (hr : In B w pr r) (hs : l.size + r.size ≤ 1152921504606846976) :
    Calls Try.prog 115 #[.bool c, .pointer pl, .int .i64 x, .pointer pr] w (Ret B w (· = .node (c, x) l r)) := by
  go_enter Try.func115, Try.ntmps115
  go_wp2_with fail
  refine (size_any hl).mono ?_; rintro e w' ⟨rfl, rfl⟩
  go_wp2_with fail
  refine (size_any hr).mono ?_; rintro e w' ⟨rfl, rfl⟩
  go_wp2_with fail
  go_ret
  exact new_any (x := (c, x)) hB hl hr _ (by simp only [BT.size]; omega)


/-- is the top red? -/
def isR : BT A → Bool
  | .nil => false
  | .node a _ _ => a.1

set_option maxHeartbeats 400000 in
theorem isRed_any {B : Nat} {w : World} {p : Option Addr} {t : BT A} (h : In B w p t) :
    Calls Try.prog 125 #[.pointer p] w fun e w' => e = .returned (.bool (isR t)) ∧ w = w' := by
  cases t with
  | nil =>
    obtain rfl : p = none := h
    go_enter Try.func125, Try.ntmps125
    go_wp2
    go_ret
    exact ⟨rfl, rfl⟩
  | node a l r =>
    obtain ⟨b, pl, pr, rfl, _, hb, _, _⟩ := h
    obtain ⟨c, x⟩ := a
    have h1 : w.cell? ⟨b, 0, none⟩ = some (.bool c) := cc hb
    clear hb
    go_enter Try.func125, Try.ntmps125
    go_wp2
    go_ret
    exact ⟨rfl, rfl⟩

set_option maxHeartbeats 1000000 in
theorem three_any (B : Nat) (w : World) (pa : Option Addr) (a : BT A) (x : Int) (pb : Option Addr) (b : BT A) (y : Int) (pc : Option Addr) (c : BT A) (z : Int) (pd : Option Addr) (d : BT A) (hB : B ≤ w.heap.size) (ha : In B w pa a) (hb : In B w pb b) (hc : In B w pc c) (hd : In B w pd d)
    (hs : a.size + b.size + c.size + d.size ≤ 1152921504606846000) :
    Calls Try.prog 126 #[.pointer pa, .int .i64 x, .pointer pb, .int .i64 y, .pointer pc, .int .i64 z, .pointer pd] w (Ret B w (· = .node (true, y) (.node (false, x) a b) (.node (false, z) c d))) := by
  go_enter Try.func126, Try.ntmps126
  go_wp2_with fail
  refine (made_any B w false pa a x pb b hB ha hb (by omega)).mono ?_
  rintro e w1 ⟨p1, _, rfl, rfl, hp1, hb1⟩
  go_wp2_with fail
  refine (made_any B w1 false pc c z pd d (szle hb1 hB) (hc.up hb1) (hd.up hb1) (by omega)).mono ?_
  rintro e w2 ⟨p2, _, rfl, rfl, hp2, hb2⟩
  go_wp2_with fail
  refine (made_any B w2 true p1 _ y p2 _ (szle hb2 (szle hb1 hB)) (hp1.up hb2) hp2 (by simp only [BT.size]; omega)).mono ?_
  rintro e w3 ⟨p3, _, rfl, rfl, hp3, hb3⟩
  go_wp2_with fail
  go_ret
  exact RetQ.mk rfl hp3 (belowTrans (belowTrans hb1 hb2) hb3)
end Go.Proofs.Ytcjhbpnmkahkeaa.red
