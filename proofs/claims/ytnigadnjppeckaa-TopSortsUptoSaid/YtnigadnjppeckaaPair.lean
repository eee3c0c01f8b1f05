/- The walks of package pair: met, paired give just what the plain trees' functions give; what was there stays. -/
import Derived.Test.YtnigadnjppeckaaPairM
import Derived.Test.YtnigadnjppeckaaMore
import Derived.Test.YtnigadnjppeckaaFill
import Derived.Test.YtnigadnjppeckaaRows
import Derived.Deep.QuietTactic
import Derived.BigQuiet
import Derived.Deep.LoopGhost
namespace Go.Proofs.Ytnigadnjppeckaa.pair
open Go.RowKit

abbrev key (x : A) : Int := x
def cs (x : A) (_ _ : BT A) : List Value := [.int .i64 x]
abbrev In := Holds cs 179
abbrev Ret := RetQ cs 179

section
variable {w : World} {b : Nat} {x : A} {l r : BT A} {pl pr : Option Addr}
  (h : w.heap[b]? = some (.cells (cs x l r ++ [Value.pointer pl, Value.pointer pr]).toArray 179 (0, 0)))
include h
theorem c0 : w.cell? ⟨b, 0, none⟩ = some (.int .i64 x) := by simp [World.cell?, h, cs]
theorem cl : w.cell? ⟨b, 1, none⟩ = some (.pointer pl) := by simp [World.cell?, h, cs]
theorem cr : w.cell? ⟨b, 2, none⟩ = some (.pointer pr) := by simp [World.cell?, h, cs]
end

/-- two new nodes, the second above the first -/
theorem new_two {B : Nat} {w w' : World} {p q : Option Addr} {k k' : BT A} {x y : A} (hB : B ≤ w.heap.size) (hw : Below w.heap.size w w') (hk : In B w p k) (hk' : In B w q k') :
    Ret B w (· = .node y (.node x k k') .nil) (.returned (.pointer (some ⟨w'.heap.size + 1, 0, none⟩)))
      ((w'.alloc (.cells #[.int .i64 x, .pointer p, .pointer q] 179)).alloc (.cells #[.int .i64 y, .pointer (some ⟨w'.heap.size, 0, none⟩), .pointer none] 179)) := by
  have h1 := Holds.new (cs := cs) (ty := 179) (a := x) (szle hw hB) (hk.up hw) (hk'.up hw)
  have hB2 : B ≤ (w'.alloc (.cells (cs x k k' ++ [Value.pointer p, Value.pointer q]).toArray 179 (0, 0))).heap.size := szle (belowTrans hw (belowAlloc _ _)) hB
  have h2 := Holds.new (cs := cs) (ty := 179) (a := y) (r := .nil) (pr := none) hB2 h1 rfl
  have e : (w'.alloc (.cells (cs x k k' ++ [Value.pointer p, Value.pointer q]).toArray 179 (0, 0))).heap.size = w'.heap.size + 1 := by simp
  rw [e] at h2
  exact RetQ.mk rfl h2 (belowTrans (belowTrans hw (belowAlloc _ _)) (belowAlloc _ _))

set_option maxHeartbeats 2000000 in
theorem met_any (B : Nat) (w : World) (p : Option Addr) (a : BT A) (q : Option Addr) (b : BT A) (hB : B ≤ w.heap.size) (ha : In B w p a) (hb : In B w q b) :
    Calls Try.prog 68 #[.pointer p, .pointer q] w (Ret B w (· = meet a b)) := by
  cases a with
  | nil =>
    obtain rfl : p = none := ha
    have HE := Lib.hid (meet_nil' b)
    go_enter Try.func68, Try.ntmps68
    go_wp2_with fail
    go_ret
    exact RetQ.mk HE.out.symm hb (Below.refl _ _)
  | node x k n =>
    cases b with
    | nil =>
      obtain rfl : q = none := hb
      have HE := Lib.hid (meet_nil (.node x k n))
      obtain ⟨ab, pal, par, rfl, _⟩ := id ha
      go_enter Try.func68, Try.ntmps68
      go_wp2_with fail
      go_ret
      exact RetQ.mk HE.out.symm ha (Below.refl _ _)
    | node y k' n' =>
      obtain ⟨ab, pak, pan, rfl, _, hab, hak, _⟩ := ha
      obtain ⟨bb, pbk, pbn, rfl, _, hbb, hbk, _⟩ := hb
      have kx := c0 hab
      have kak := cl hab
      have ky := c0 hbb
      have kbk := cl hbb
      clear hab hbb
      by_cases hlt : y < x
      · have HE : Hid (meet (.node x k n) (.node y k' n') = .node y (.node x k k') .nil) := Lib.hid (by simp only [meet]; rw [if_pos hlt])
        have HR := fun q => Lib.hid (new_two (x := x) (y := y) hB (belowDrewN w q) hak hbk)
        go_enter Try.func68, Try.ntmps68
        go_wp2_with fail
        go_quiet (fail)
        go_wp2_with fail
        go_region_held3 (fun w' => w'.cell? ⟨ab, 0, none⟩ = some (.int .i64 x) ∧ w'.cell? ⟨ab, 1, none⟩ = some (.pointer pak) ∧ w'.cell? ⟨bb, 0, none⟩ = some (.int .i64 y) ∧ w'.cell? ⟨bb, 1, none⟩ = some (.pointer pbk)) (first | exact ⟨kx, kak, ky, kbk⟩ | go_keep)
          (fail)
        go_wp2_with fail
        go_ret
        rw [HE.out]
        exact (HR _).out
      · have HE : Hid (meet (.node x k n) (.node y k' n') = .node x (.node y k' k) .nil) := Lib.hid (by simp only [meet]; rw [if_neg hlt])
        have HR := fun q => Lib.hid (new_two (x := y) (y := x) hB (belowDrewN w q) hbk hak)
        go_enter Try.func68, Try.ntmps68
        go_wp2_with fail
        go_quiet (fail)
        go_wp2_with fail
        go_region_held3 (fun w' => w'.cell? ⟨ab, 0, none⟩ = some (.int .i64 x) ∧ w'.cell? ⟨ab, 1, none⟩ = some (.pointer pak) ∧ w'.cell? ⟨bb, 0, none⟩ = some (.int .i64 y) ∧ w'.cell? ⟨bb, 1, none⟩ = some (.pointer pbk)) (first | exact ⟨kx, kak, ky, kbk⟩ | go_keep)
          (fail)
        go_wp2_with fail
        go_ret
        rw [HE.out]
        exact (HR _).out

end Go.Proofs.Ytnigadnjppeckaa.pair
