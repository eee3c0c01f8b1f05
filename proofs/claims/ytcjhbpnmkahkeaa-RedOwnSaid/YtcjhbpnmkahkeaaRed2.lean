/- The walks of package red, the second part: even. -/
import Derived.Test.YtcjhbpnmkahkeaaRed
namespace Go.Proofs.Ytcjhbpnmkahkeaa.red
open Go.RowKit

set_option maxRecDepth 100000 in
set_option maxHeartbeats 4000000 in
theorem even_00 (B : Nat) (w : World) (pl : Option Addr) (l : BT A) (x : Int) (pr : Option Addr) (r : BT A) (hB : B ≤ w.heap.size) (hl : In B w pl l) (vl : isR l = false) (hr : In B w pr r) (vr : isR r = false)
    (hs : l.size + r.size ≤ 1152921504606845000) :
    Calls Try.prog 116 #[.pointer pl, .int .i64 x, .pointer pr] w (Ret B w fun t => t.size = 1 + l.size + r.size) := by
  have il := isRed_any hl
  rw [vl] at il
  have ir := isRed_any hr
  rw [vr] at ir
  clear vl vr
  go_enter Try.func116, Try.ntmps116
  go_wp2_with (first | (go_at_call_of 125 (Value.pointer pl); refine il.mono ?_; rintro e wq ⟨rfl, rfl⟩) | (go_at_call_of 125 (Value.pointer pr); refine ir.mono ?_; rintro e wq ⟨rfl, rfl⟩))
  refine (made_any B _ false _ l x _ r hB hl hr (by first | omega | (simp only [BT.size]; omega))).mono ?_
  rintro e w1 ⟨p1, _, rfl, rfl, hp1, hb1⟩
  go_wp2_with fail
  go_ret
  exact RetQ.mk (by first | rfl | (simp only [BT.size]; omega)) hp1 hb1

set_option maxRecDepth 100000 in
set_option maxHeartbeats 4000000 in
theorem even_10 (B : Nat) (w : World) (bl : Nat) (pll plr : Option Addr) (ll : BT A) (lx : Int) (lr : BT A) (x : Int) (pr : Option Addr) (r : BT A) (hB : B ≤ w.heap.size) (gl : w.heap[bl]? = some (.cells (cs (true, lx) ll lr ++ [Value.pointer pll, Value.pointer plr]).toArray 112 (0, 0))) (hl : In B w (some ⟨bl, 0, none⟩) (.node (true, lx) ll lr)) (hll : In B w pll ll) (hlr : In B w plr lr) (hr : In B w pr r) (vr : isR r = false) (vll : isR ll = false) (vlr : isR lr = false)
    (hs : (1 + ll.size + lr.size) + r.size ≤ 1152921504606845000) :
    Calls Try.prog 116 #[.pointer (some ⟨bl, 0, none⟩), .int .i64 x, .pointer pr] w (Ret B w fun t => t.size = 1 + (1 + ll.size + lr.size) + r.size) := by
  have klx : w.cell? ⟨bl, 1, none⟩ = some (.int .i64 lx) := c0 gl
  have kll := cl gl
  have klr := cr gl
  have il := isRed_any hl
  rw [show isR (BT.node (true, lx) ll lr) = true from rfl] at il
  have ir := isRed_any hr
  rw [vr] at ir
  have ill := isRed_any hll
  rw [vll] at ill
  have ilr := isRed_any hlr
  rw [vlr] at ilr
  clear gl vr vll vlr
  go_enter Try.func116, Try.ntmps116
  go_wp2_with (first | (go_at_call_of 125 (Value.pointer (some ⟨bl, 0, none⟩)); refine il.mono ?_; rintro e wq ⟨rfl, rfl⟩) | (go_at_call_of 125 (Value.pointer pr); refine ir.mono ?_; rintro e wq ⟨rfl, rfl⟩) | (go_at_call_of 125 (Value.pointer pll); refine ill.mono ?_; rintro e wq ⟨rfl, rfl⟩) | (go_at_call_of 125 (Value.pointer plr); refine ilr.mono ?_; rintro e wq ⟨rfl, rfl⟩))
  refine (made_any B _ false _ (.node (true, lx) ll lr) x _ r hB hl hr (by first | omega | (simp only [BT.size]; omega))).mono ?_
  rintro e w1 ⟨p1, _, rfl, rfl, hp1, hb1⟩
  go_wp2_with fail
  go_ret
  exact RetQ.mk (by first | rfl | (simp only [BT.size]; omega)) hp1 hb1

set_option maxRecDepth 100000 in
set_option maxHeartbeats 4000000 in
theorem even_01 (B : Nat) (w : World) (pl : Option Addr) (l : BT A) (x : Int) (br : Nat) (prl prr : Option Addr) (rl : BT A) (rx : Int) (rr : BT A) (hB : B ≤ w.heap.size) (hl : In B w pl l) (vl : isR l = false) (gr : w.heap[br]? = some (.cells (cs (true, rx) rl rr ++ [Value.pointer prl, Value.pointer prr]).toArray 112 (0, 0))) (hr : In B w (some ⟨br, 0, none⟩) (.node (true, rx) rl rr)) (hrl : In B w prl rl) (hrr : In B w prr rr) (vrl : isR rl = false) (vrr : isR rr = false)
    (hs : l.size + (1 + rl.size + rr.size) ≤ 1152921504606845000) :
    Calls Try.prog 116 #[.pointer pl, .int .i64 x, .pointer (some ⟨br, 0, none⟩)] w (Ret B w fun t => t.size = 1 + l.size + (1 + rl.size + rr.size)) := by
  have il := isRed_any hl
  rw [vl] at il
  have krx : w.cell? ⟨br, 1, none⟩ = some (.int .i64 rx) := c0 gr
  have krl := cl gr
  have krr := cr gr
  have ir := isRed_any hr
  rw [show isR (BT.node (true, rx) rl rr) = true from rfl] at ir
  have irl := isRed_any hrl
  rw [vrl] at irl
  have irr := isRed_any hrr
  rw [vrr] at irr
  clear vl gr vrl vrr
  go_enter Try.func116, Try.ntmps116
  go_wp2_with (first | (go_at_call_of 125 (Value.pointer pl); refine il.mono ?_; rintro e wq ⟨rfl, rfl⟩) | (go_at_call_of 125 (Value.pointer (some ⟨br, 0, none⟩)); refine ir.mono ?_; rintro e wq ⟨rfl, rfl⟩) | (go_at_call_of 125 (Value.pointer prl); refine irl.mono ?_; rintro e wq ⟨rfl, rfl⟩) | (go_at_call_of 125 (Value.pointer prr); refine irr.mono ?_; rintro e wq ⟨rfl, rfl⟩))
  refine (made_any B _ false _ l x _ (.node (true, rx) rl rr) hB hl hr (by first | omega | (simp only [BT.size]; omega))).mono ?_
  rintro e w1 ⟨p1, _, rfl, rfl, hp1, hb1⟩
  go_wp2_with fail
  go_ret
  exact RetQ.mk (by first | rfl | (simp only [BT.size]; omega)) hp1 hb1

set_option maxRecDepth 100000 in
set_option maxHeartbeats 4000000 in
theorem even_11 (B : Nat) (w : World) (bl : Nat) (pll plr : Option Addr) (ll : BT A) (lx : Int) (lr : BT A) (x : Int) (br : Nat) (prl prr : Option Addr) (rl : BT A) (rx : Int) (rr : BT A) (hB : B ≤ w.heap.size) (gl : w.heap[bl]? = some (.cells (cs (true, lx) ll lr ++ [Value.pointer pll, Value.pointer plr]).toArray 112 (0, 0))) (hl : In B w (some ⟨bl, 0, none⟩) (.node (true, lx) ll lr)) (hll : In B w pll ll) (hlr : In B w plr lr) (gr : w.heap[br]? = some (.cells (cs (true, rx) rl rr ++ [Value.pointer prl, Value.pointer prr]).toArray 112 (0, 0))) (hr : In B w (some ⟨br, 0, none⟩) (.node (true, rx) rl rr)) (hrl : In B w prl rl) (hrr : In B w prr rr) (vll : isR ll = false) (vlr : isR lr = false) (vrl : isR rl = false) (vrr : isR rr = false)
    (hs : (1 + ll.size + lr.size) + (1 + rl.size + rr.size) ≤ 1152921504606845000) :
    Calls Try.prog 116 #[.pointer (some ⟨bl, 0, none⟩), .int .i64 x, .pointer (some ⟨br, 0, none⟩)] w (Ret B w fun t => t.size = 1 + (1 + ll.size + lr.size) + (1 + rl.size + rr.size)) := by
  have klx : w.cell? ⟨bl, 1, none⟩ = some (.int .i64 lx) := c0 gl
  have kll := cl gl
  have klr := cr gl
  have il := isRed_any hl
  rw [show isR (BT.node (true, lx) ll lr) = true from rfl] at il
  have krx : w.cell? ⟨br, 1, none⟩ = some (.int .i64 rx) := c0 gr
  have krl := cl gr
  have krr := cr gr
  have ir := isRed_any hr
  rw [show isR (BT.node (true, rx) rl rr) = true from rfl] at ir
  have ill := isRed_any hll
  rw [vll] at ill
  have ilr := isRed_any hlr
  rw [vlr] at ilr
  have irl := isRed_any hrl
  rw [vrl] at irl
  have irr := isRed_any hrr
  rw [vrr] at irr
  clear gl gr vll vlr vrl vrr
  go_enter Try.func116, Try.ntmps116
  go_wp2_with (first | (go_at_call_of 125 (Value.pointer (some ⟨bl, 0, none⟩)); refine il.mono ?_; rintro e wq ⟨rfl, rfl⟩) | (go_at_call_of 125 (Value.pointer (some ⟨br, 0, none⟩)); refine ir.mono ?_; rintro e wq ⟨rfl, rfl⟩) | (go_at_call_of 125 (Value.pointer pll); refine ill.mono ?_; rintro e wq ⟨rfl, rfl⟩) | (go_at_call_of 125 (Value.pointer plr); refine ilr.mono ?_; rintro e wq ⟨rfl, rfl⟩) | (go_at_call_of 125 (Value.pointer prl); refine irl.mono ?_; rintro e wq ⟨rfl, rfl⟩) | (go_at_call_of 125 (Value.pointer prr); refine irr.mono ?_; rintro e wq ⟨rfl, rfl⟩))
  refine (made_any B _ false _ (.node (true, lx) ll lr) x _ (.node (true, rx) rl rr) hB hl hr (by first | omega | (simp only [BT.size]; omega))).mono ?_
  rintro e w1 ⟨p1, _, rfl, rfl, hp1, hb1⟩
  go_wp2_with fail
  go_ret
  exact RetQ.mk (by first | rfl | (simp only [BT.size]; omega)) hp1 hb1

end Go.Proofs.Ytcjhbpnmkahkeaa.red
