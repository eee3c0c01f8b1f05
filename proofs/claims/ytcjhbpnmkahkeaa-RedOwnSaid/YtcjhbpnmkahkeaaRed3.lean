/- The walks of package red, the third part: even, where two are red. -/
import Derived.Test.YtcjhbpnmkahkeaaRed2
namespace Go.Proofs.Ytcjhbpnmkahkeaa.red
open Go.RowKit

set_option maxRecDepth 100000 in
set_option maxHeartbeats 4000000 in
theorem even_ll (B : Nat) (w : World) (bl m : Nat) (plr pml pmr : Option Addr) (ml : BT A) (mx : Int) (mr : BT A) (lx : Int) (lr : BT A) (x : Int) (pr : Option Addr) (r : BT A) (hB : B ≤ w.heap.size) (gl : w.heap[bl]? = some (.cells (cs (true, lx) (.node (true, mx) ml mr) lr ++ [Value.pointer (some ⟨m, 0, none⟩), Value.pointer plr]).toArray 112 (0, 0))) (hl : In B w (some ⟨bl, 0, none⟩) (.node (true, lx) (.node (true, mx) ml mr) lr)) (hll : In B w (some ⟨m, 0, none⟩) (.node (true, mx) ml mr)) (hlr : In B w plr lr) (hr : In B w pr r) (gm : w.heap[m]? = some (.cells (cs (true, mx) ml mr ++ [Value.pointer pml, Value.pointer pmr]).toArray 112 (0, 0))) (hml : In B w pml ml) (hmr : In B w pmr mr)
    (hs : (1 + (1 + ml.size + mr.size) + lr.size) + r.size ≤ 1152921504606845000) :
    Calls Try.prog 116 #[.pointer (some ⟨bl, 0, none⟩), .int .i64 x, .pointer pr] w (Ret B w fun t => t.size = 1 + (1 + (1 + ml.size + mr.size) + lr.size) + r.size) := by
  have klx : w.cell? ⟨bl, 1, none⟩ = some (.int .i64 lx) := c0 gl
  have kll := cl gl
  have klr := cr gl
  have il := isRed_any hl
  rw [show isR (BT.node (true, lx) (.node (true, mx) ml mr) lr) = true from rfl] at il
  have kmx : w.cell? ⟨m, 1, none⟩ = some (.int .i64 mx) := c0 gm
  have kml := cl gm
  have kmr := cr gm
  have im := isRed_any hll
  rw [show isR (BT.node (true, mx) ml mr) = true from rfl] at im
  clear gl gm
  go_enter Try.func116, Try.ntmps116
  go_wp2_with (first | (go_at_call_of 125 (Value.pointer (some ⟨bl, 0, none⟩)); refine il.mono ?_; rintro e wq ⟨rfl, rfl⟩) | (go_at_call_of 125 (Value.pointer (some ⟨m, 0, none⟩)); refine im.mono ?_; rintro e wq ⟨rfl, rfl⟩))
  go_region_held3 (fun w' => w'.cell? ⟨bl, 1, none⟩ = some (.int .i64 lx) ∧ w'.cell? ⟨bl, 3, none⟩ = some (.pointer (some ⟨m, 0, none⟩)) ∧ w'.cell? ⟨bl, 4, none⟩ = some (.pointer plr) ∧ w'.cell? ⟨m, 1, none⟩ = some (.int .i64 mx) ∧ w'.cell? ⟨m, 3, none⟩ = some (.pointer pml) ∧ w'.cell? ⟨m, 4, none⟩ = some (.pointer pmr)) (first | exact ⟨klx_1, kll_1, klr_1, kmx_1, kml_1, kmr_1⟩ | exact ⟨klx, kll, klr, kmx, kml, kmr⟩ | go_keep)
    (first
      | (go_at_call 126; refine (three_any B _ pml ml mx pmr mr lx plr lr x pr r (by exact szle (belowDrew w) hB) (by exact hml.up (belowDrew w)) (by exact hmr.up (belowDrew w)) (by exact hlr.up (belowDrew w)) (by exact hr.up (belowDrew w)) (by first | omega | (simp only [BT.size]; omega))).mono ?_; rintro e w1 ⟨p1, _, rfl, rfl, hp1, hb1⟩; replace hb1 := belowTrans (belowDrew w) hb1; have klx_1 := upc hb1 klx; have kll_1 := upc hb1 kll; have klr_1 := upc hb1 klr; have kmx_1 := upc hb1 kmx; have kml_1 := upc hb1 kml; have kmr_1 := upc hb1 kmr))
  have hbel1 := hb1
  go_wp2_with fail
  go_ret
  exact RetQ.mk (by simp only [BT.size]; omega) hp1 hbel1

set_option maxRecDepth 100000 in
set_option maxHeartbeats 4000000 in
theorem even_lr (B : Nat) (w : World) (bl m : Nat) (pll pml pmr : Option Addr) (ll : BT A) (lx : Int) (ml : BT A) (mx : Int) (mr : BT A) (x : Int) (pr : Option Addr) (r : BT A) (hB : B ≤ w.heap.size) (gl : w.heap[bl]? = some (.cells (cs (true, lx) ll (.node (true, mx) ml mr) ++ [Value.pointer pll, Value.pointer (some ⟨m, 0, none⟩)]).toArray 112 (0, 0))) (hl : In B w (some ⟨bl, 0, none⟩) (.node (true, lx) ll (.node (true, mx) ml mr))) (hll : In B w pll ll) (hlr : In B w (some ⟨m, 0, none⟩) (.node (true, mx) ml mr)) (hr : In B w pr r) (vll : isR ll = false) (gm : w.heap[m]? = some (.cells (cs (true, mx) ml mr ++ [Value.pointer pml, Value.pointer pmr]).toArray 112 (0, 0))) (hml : In B w pml ml) (hmr : In B w pmr mr)
    (hs : (1 + ll.size + (1 + ml.size + mr.size)) + r.size ≤ 1152921504606845000) :
    Calls Try.prog 116 #[.pointer (some ⟨bl, 0, none⟩), .int .i64 x, .pointer pr] w (Ret B w fun t => t.size = 1 + (1 + ll.size + (1 + ml.size + mr.size)) + r.size) := by
  have klx : w.cell? ⟨bl, 1, none⟩ = some (.int .i64 lx) := c0 gl
  have kll := cl gl
  have klr := cr gl
  have il := isRed_any hl
  rw [show isR (BT.node (true, lx) ll (.node (true, mx) ml mr)) = true from rfl] at il
  have ill := isRed_any hll
  rw [vll] at ill
  have kmx : w.cell? ⟨m, 1, none⟩ = some (.int .i64 mx) := c0 gm
  have kml := cl gm
  have kmr := cr gm
  have im := isRed_any hlr
  rw [show isR (BT.node (true, mx) ml mr) = true from rfl] at im
  clear gl vll gm
  go_enter Try.func116, Try.ntmps116
  go_wp2_with (first | (go_at_call_of 125 (Value.pointer (some ⟨bl, 0, none⟩)); refine il.mono ?_; rintro e wq ⟨rfl, rfl⟩) | (go_at_call_of 125 (Value.pointer pll); refine ill.mono ?_; rintro e wq ⟨rfl, rfl⟩) | (go_at_call_of 125 (Value.pointer (some ⟨m, 0, none⟩)); refine im.mono ?_; rintro e wq ⟨rfl, rfl⟩))
  go_region_held3 (fun w' => w'.cell? ⟨bl, 1, none⟩ = some (.int .i64 lx) ∧ w'.cell? ⟨bl, 3, none⟩ = some (.pointer pll) ∧ w'.cell? ⟨bl, 4, none⟩ = some (.pointer (some ⟨m, 0, none⟩)) ∧ w'.cell? ⟨m, 1, none⟩ = some (.int .i64 mx) ∧ w'.cell? ⟨m, 3, none⟩ = some (.pointer pml) ∧ w'.cell? ⟨m, 4, none⟩ = some (.pointer pmr)) (first | exact ⟨klx_1, kll_1, klr_1, kmx_1, kml_1, kmr_1⟩ | exact ⟨klx, kll, klr, kmx, kml, kmr⟩ | go_keep)
    (first
      | (go_at_call 126; refine (three_any B _ pll ll lx pml ml mx pmr mr x pr r (by exact szle (belowDrew w) hB) (by exact hll.up (belowDrew w)) (by exact hml.up (belowDrew w)) (by exact hmr.up (belowDrew w)) (by exact hr.up (belowDrew w)) (by first | omega | (simp only [BT.size]; omega))).mono ?_; rintro e w1 ⟨p1, _, rfl, rfl, hp1, hb1⟩; replace hb1 := belowTrans (belowDrew w) hb1; have klx_1 := upc hb1 klx; have kll_1 := upc hb1 kll; have klr_1 := upc hb1 klr; have kmx_1 := upc hb1 kmx; have kml_1 := upc hb1 kml; have kmr_1 := upc hb1 kmr))
  have hbel1 := hb1
  go_wp2_with fail
  go_ret
  exact RetQ.mk (by simp only [BT.size]; omega) hp1 hbel1

set_option maxRecDepth 100000 in
set_option maxHeartbeats 4000000 in
theorem even_0rl (B : Nat) (w : World) (pl : Option Addr) (l : BT A) (x : Int) (br m : Nat) (prr pml pmr : Option Addr) (ml : BT A) (mx : Int) (mr : BT A) (rx : Int) (rr : BT A) (hB : B ≤ w.heap.size) (hl : In B w pl l) (vl : isR l = false) (gr : w.heap[br]? = some (.cells (cs (true, rx) (.node (true, mx) ml mr) rr ++ [Value.pointer (some ⟨m, 0, none⟩), Value.pointer prr]).toArray 112 (0, 0))) (hr : In B w (some ⟨br, 0, none⟩) (.node (true, rx) (.node (true, mx) ml mr) rr)) (hrl : In B w (some ⟨m, 0, none⟩) (.node (true, mx) ml mr)) (hrr : In B w prr rr) (gm : w.heap[m]? = some (.cells (cs (true, mx) ml mr ++ [Value.pointer pml, Value.pointer pmr]).toArray 112 (0, 0))) (hml : In B w pml ml) (hmr : In B w pmr mr)
    (hs : l.size + (1 + (1 + ml.size + mr.size) + rr.size) ≤ 1152921504606845000) :
    Calls Try.prog 116 #[.pointer pl, .int .i64 x, .pointer (some ⟨br, 0, none⟩)] w (Ret B w fun t => t.size = 1 + l.size + (1 + (1 + ml.size + mr.size) + rr.size)) := by
  have il := isRed_any hl
  rw [vl] at il
  have krx : w.cell? ⟨br, 1, none⟩ = some (.int .i64 rx) := c0 gr
  have krl := cl gr
  have krr := cr gr
  have ir := isRed_any hr
  rw [show isR (BT.node (true, rx) (.node (true, mx) ml mr) rr) = true from rfl] at ir
  have kmx : w.cell? ⟨m, 1, none⟩ = some (.int .i64 mx) := c0 gm
  have kml := cl gm
  have kmr := cr gm
  have im := isRed_any hrl
  rw [show isR (BT.node (true, mx) ml mr) = true from rfl] at im
  clear vl gr gm
  go_enter Try.func116, Try.ntmps116
  go_wp2_with (first | (go_at_call_of 125 (Value.pointer pl); refine il.mono ?_; rintro e wq ⟨rfl, rfl⟩) | (go_at_call_of 125 (Value.pointer (some ⟨br, 0, none⟩)); refine ir.mono ?_; rintro e wq ⟨rfl, rfl⟩) | (go_at_call_of 125 (Value.pointer (some ⟨m, 0, none⟩)); refine im.mono ?_; rintro e wq ⟨rfl, rfl⟩))
  go_region_held3 (fun w' => w'.cell? ⟨br, 1, none⟩ = some (.int .i64 rx) ∧ w'.cell? ⟨br, 3, none⟩ = some (.pointer (some ⟨m, 0, none⟩)) ∧ w'.cell? ⟨br, 4, none⟩ = some (.pointer prr) ∧ w'.cell? ⟨m, 1, none⟩ = some (.int .i64 mx) ∧ w'.cell? ⟨m, 3, none⟩ = some (.pointer pml) ∧ w'.cell? ⟨m, 4, none⟩ = some (.pointer pmr)) (first | exact ⟨krx_1, krl_1, krr_1, kmx_1, kml_1, kmr_1⟩ | exact ⟨krx, krl, krr, kmx, kml, kmr⟩ | go_keep)
    (first
      | (go_at_call 126; refine (three_any B _ pl l x pml ml mx pmr mr rx prr rr (by exact szle (belowDrew w) hB) (by exact hl.up (belowDrew w)) (by exact hml.up (belowDrew w)) (by exact hmr.up (belowDrew w)) (by exact hrr.up (belowDrew w)) (by first | omega | (simp only [BT.size]; omega))).mono ?_; rintro e w1 ⟨p1, _, rfl, rfl, hp1, hb1⟩; replace hb1 := belowTrans (belowDrew w) hb1; have krx_1 := upc hb1 krx; have krl_1 := upc hb1 krl; have krr_1 := upc hb1 krr; have kmx_1 := upc hb1 kmx; have kml_1 := upc hb1 kml; have kmr_1 := upc hb1 kmr))
  have hbel1 := hb1
  go_wp2_with fail
  go_ret
  exact RetQ.mk (by simp only [BT.size]; omega) hp1 hbel1

set_option maxRecDepth 100000 in
set_option maxHeartbeats 4000000 in
theorem even_0rr (B : Nat) (w : World) (pl : Option Addr) (l : BT A) (x : Int) (br m : Nat) (prl pml pmr : Option Addr) (rl : BT A) (rx : Int) (ml : BT A) (mx : Int) (mr : BT A) (hB : B ≤ w.heap.size) (hl : In B w pl l) (vl : isR l = false) (gr : w.heap[br]? = some (.cells (cs (true, rx) rl (.node (true, mx) ml mr) ++ [Value.pointer prl, Value.pointer (some ⟨m, 0, none⟩)]).toArray 112 (0, 0))) (hr : In B w (some ⟨br, 0, none⟩) (.node (true, rx) rl (.node (true, mx) ml mr))) (hrl : In B w prl rl) (hrr : In B w (some ⟨m, 0, none⟩) (.node (true, mx) ml mr)) (vrl : isR rl = false) (gm : w.heap[m]? = some (.cells (cs (true, mx) ml mr ++ [Value.pointer pml, Value.pointer pmr]).toArray 112 (0, 0))) (hml : In B w pml ml) (hmr : In B w pmr mr)
    (hs : l.size + (1 + rl.size + (1 + ml.size + mr.size)) ≤ 1152921504606845000) :
    Calls Try.prog 116 #[.pointer pl, .int .i64 x, .pointer (some ⟨br, 0, none⟩)] w (Ret B w fun t => t.size = 1 + l.size + (1 + rl.size + (1 + ml.size + mr.size))) := by
  have il := isRed_any hl
  rw [vl] at il
  have krx : w.cell? ⟨br, 1, none⟩ = some (.int .i64 rx) := c0 gr
  have krl := cl gr
  have krr := cr gr
  have ir := isRed_any hr
  rw [show isR (BT.node (true, rx) rl (.node (true, mx) ml mr)) = true from rfl] at ir
  have irl := isRed_any hrl
  rw [vrl] at irl
  have kmx : w.cell? ⟨m, 1, none⟩ = some (.int .i64 mx) := c0 gm
  have kml := cl gm
  have kmr := cr gm
  have im := isRed_any hrr
  rw [show isR (BT.node (true, mx) ml mr) = true from rfl] at im
  clear vl gr vrl gm
  go_enter Try.func116, Try.ntmps116
  go_wp2_with (first | (go_at_call_of 125 (Value.pointer pl); refine il.mono ?_; rintro e wq ⟨rfl, rfl⟩) | (go_at_call_of 125 (Value.pointer (some ⟨br, 0, none⟩)); refine ir.mono ?_; rintro e wq ⟨rfl, rfl⟩) | (go_at_call_of 125 (Value.pointer prl); refine irl.mono ?_; rintro e wq ⟨rfl, rfl⟩) | (go_at_call_of 125 (Value.pointer (some ⟨m, 0, none⟩)); refine im.mono ?_; rintro e wq ⟨rfl, rfl⟩))
  go_region_held3 (fun w' => w'.cell? ⟨br, 1, none⟩ = some (.int .i64 rx) ∧ w'.cell? ⟨br, 3, none⟩ = some (.pointer prl) ∧ w'.cell? ⟨br, 4, none⟩ = some (.pointer (some ⟨m, 0, none⟩)) ∧ w'.cell? ⟨m, 1, none⟩ = some (.int .i64 mx) ∧ w'.cell? ⟨m, 3, none⟩ = some (.pointer pml) ∧ w'.cell? ⟨m, 4, none⟩ = some (.pointer pmr)) (first | exact ⟨krx_1, krl_1, krr_1, kmx_1, kml_1, kmr_1⟩ | exact ⟨krx, krl, krr, kmx, kml, kmr⟩ | go_keep)
    (first
      | (go_at_call 126; refine (three_any B _ pl l x prl rl rx pml ml mx pmr mr (by exact szle (belowDrew w) hB) (by exact hl.up (belowDrew w)) (by exact hrl.up (belowDrew w)) (by exact hml.up (belowDrew w)) (by exact hmr.up (belowDrew w)) (by first | omega | (simp only [BT.size]; omega))).mono ?_; rintro e w1 ⟨p1, _, rfl, rfl, hp1, hb1⟩; replace hb1 := belowTrans (belowDrew w) hb1; have krx_1 := upc hb1 krx; have krl_1 := upc hb1 krl; have krr_1 := upc hb1 krr; have kmx_1 := upc hb1 kmx; have kml_1 := upc hb1 kml; have kmr_1 := upc hb1 kmr))
  have hbel1 := hb1
  go_wp2_with fail
  go_ret
  exact RetQ.mk (by simp only [BT.size]; omega) hp1 hbel1

set_option maxRecDepth 100000 in
set_option maxHeartbeats 4000000 in
theorem even_1rl (B : Nat) (w : World) (bl : Nat) (pll plr : Option Addr) (ll : BT A) (lx : Int) (lr : BT A) (x : Int) (br m : Nat) (prr pml pmr : Option Addr) (ml : BT A) (mx : Int) (mr : BT A) (rx : Int) (rr : BT A) (hB : B ≤ w.heap.size) (gl : w.heap[bl]? = some (.cells (cs (true, lx) ll lr ++ [Value.pointer pll, Value.pointer plr]).toArray 112 (0, 0))) (hl : In B w (some ⟨bl, 0, none⟩) (.node (true, lx) ll lr)) (hll : In B w pll ll) (hlr : In B w plr lr) (gr : w.heap[br]? = some (.cells (cs (true, rx) (.node (true, mx) ml mr) rr ++ [Value.pointer (some ⟨m, 0, none⟩), Value.pointer prr]).toArray 112 (0, 0))) (hr : In B w (some ⟨br, 0, none⟩) (.node (true, rx) (.node (true, mx) ml mr) rr)) (hrl : In B w (some ⟨m, 0, none⟩) (.node (true, mx) ml mr)) (hrr : In B w prr rr) (vll : isR ll = false) (vlr : isR lr = false) (gm : w.heap[m]? = some (.cells (cs (true, mx) ml mr ++ [Value.pointer pml, Value.pointer pmr]).toArray 112 (0, 0))) (hml : In B w pml ml) (hmr : In B w pmr mr)
    (hs : (1 + ll.size + lr.size) + (1 + (1 + ml.size + mr.size) + rr.size) ≤ 1152921504606845000) :
    Calls Try.prog 116 #[.pointer (some ⟨bl, 0, none⟩), .int .i64 x, .pointer (some ⟨br, 0, none⟩)] w (Ret B w fun t => t.size = 1 + (1 + ll.size + lr.size) + (1 + (1 + ml.size + mr.size) + rr.size)) := by
  have klx : w.cell? ⟨bl, 1, none⟩ = some (.int .i64 lx) := c0 gl
  have kll := cl gl
  have klr := cr gl
  have il := isRed_any hl
  rw [show isR (BT.node (true, lx) ll lr) = true from rfl] at il
  have krx : w.cell? ⟨br, 1, none⟩ = some (.int .i64 rx) := c0 gr
  have krl := cl gr
  have krr := cr gr
  have ir := isRed_any hr
  rw [show isR (BT.node (true, rx) (.node (true, mx) ml mr) rr) = true from rfl] at ir
  have ill := isRed_any hll
  rw [vll] at ill
  have ilr := isRed_any hlr
  rw [vlr] at ilr
  have kmx : w.cell? ⟨m, 1, none⟩ = some (.int .i64 mx) := c0 gm
  have kml := cl gm
  have kmr := cr gm
  have im := isRed_any hrl
  rw [show isR (BT.node (true, mx) ml mr) = true from rfl] at im
  clear gl gr vll vlr gm
  go_enter Try.func116, Try.ntmps116
  go_wp2_with (first | (go_at_call_of 125 (Value.pointer (some ⟨bl, 0, none⟩)); refine il.mono ?_; rintro e wq ⟨rfl, rfl⟩) | (go_at_call_of 125 (Value.pointer (some ⟨br, 0, none⟩)); refine ir.mono ?_; rintro e wq ⟨rfl, rfl⟩) | (go_at_call_of 125 (Value.pointer pll); refine ill.mono ?_; rintro e wq ⟨rfl, rfl⟩) | (go_at_call_of 125 (Value.pointer plr); refine ilr.mono ?_; rintro e wq ⟨rfl, rfl⟩) | (go_at_call_of 125 (Value.pointer (some ⟨m, 0, none⟩)); refine im.mono ?_; rintro e wq ⟨rfl, rfl⟩))
  go_region_held3 (fun w' => w'.cell? ⟨br, 1, none⟩ = some (.int .i64 rx) ∧ w'.cell? ⟨br, 3, none⟩ = some (.pointer (some ⟨m, 0, none⟩)) ∧ w'.cell? ⟨br, 4, none⟩ = some (.pointer prr) ∧ w'.cell? ⟨m, 1, none⟩ = some (.int .i64 mx) ∧ w'.cell? ⟨m, 3, none⟩ = some (.pointer pml) ∧ w'.cell? ⟨m, 4, none⟩ = some (.pointer pmr)) (first | exact ⟨krx_1, krl_1, krr_1, kmx_1, kml_1, kmr_1⟩ | exact ⟨krx, krl, krr, kmx, kml, kmr⟩ | go_keep)
    (first
      | (go_at_call 126; refine (three_any B _ (some ⟨bl, 0, none⟩) (.node (true, lx) ll lr) x pml ml mx pmr mr rx prr rr (by exact szle (belowDrew w) hB) (by exact hl.up (belowDrew w)) (by exact hml.up (belowDrew w)) (by exact hmr.up (belowDrew w)) (by exact hrr.up (belowDrew w)) (by first | omega | (simp only [BT.size]; omega))).mono ?_; rintro e w1 ⟨p1, _, rfl, rfl, hp1, hb1⟩; replace hb1 := belowTrans (belowDrew w) hb1; have krx_1 := upc hb1 krx; have krl_1 := upc hb1 krl; have krr_1 := upc hb1 krr; have kmx_1 := upc hb1 kmx; have kml_1 := upc hb1 kml; have kmr_1 := upc hb1 kmr))
  have hbel1 := hb1
  go_wp2_with fail
  go_ret
  exact RetQ.mk (by simp only [BT.size]; omega) hp1 hbel1

set_option maxRecDepth 100000 in
set_option maxHeartbeats 4000000 in
theorem even_1rr (B : Nat) (w : World) (bl : Nat) (pll plr : Option Addr) (ll : BT A) (lx : Int) (lr : BT A) (x : Int) (br m : Nat) (prl pml pmr : Option Addr) (rl : BT A) (rx : Int) (ml : BT A) (mx : Int) (mr : BT A) (hB : B ≤ w.heap.size) (gl : w.heap[bl]? = some (.cells (cs (true, lx) ll lr ++ [Value.pointer pll, Value.pointer plr]).toArray 112 (0, 0))) (hl : In B w (some ⟨bl, 0, none⟩) (.node (true, lx) ll lr)) (hll : In B w pll ll) (hlr : In B w plr lr) (gr : w.heap[br]? = some (.cells (cs (true, rx) rl (.node (true, mx) ml mr) ++ [Value.pointer prl, Value.pointer (some ⟨m, 0, none⟩)]).toArray 112 (0, 0))) (hr : In B w (some ⟨br, 0, none⟩) (.node (true, rx) rl (.node (true, mx) ml mr))) (hrl : In B w prl rl) (hrr : In B w (some ⟨m, 0, none⟩) (.node (true, mx) ml mr)) (vll : isR ll = false) (vlr : isR lr = false) (vrl : isR rl = false) (gm : w.heap[m]? = some (.cells (cs (true, mx) ml mr ++ [Value.pointer pml, Value.pointer pmr]).toArray 112 (0, 0))) (hml : In B w pml ml) (hmr : In B w pmr mr)
    (hs : (1 + ll.size + lr.size) + (1 + rl.size + (1 + ml.size + mr.size)) ≤ 1152921504606845000) :
    Calls Try.prog 116 #[.pointer (some ⟨bl, 0, none⟩), .int .i64 x, .pointer (some ⟨br, 0, none⟩)] w (Ret B w fun t => t.size = 1 + (1 + ll.size + lr.size) + (1 + rl.size + (1 + ml.size + mr.size))) := by
  have klx : w.cell? ⟨bl, 1, none⟩ = some (.int .i64 lx) := c0 gl
  have kll := cl gl
  have klr := cr gl
  have il := isRed_any hl
  rw [show isR (BT.node (true, lx) ll lr) = true from rfl] at il
  have krx : w.cell? ⟨br, 1, none⟩ = some (.int .i64 rx) := c0 gr
  have krl := cl gr
  have krr := cr gr
  have ir := isRed_any hr
  rw [show isR (BT.node (true, rx) rl (.node (true, mx) ml mr)) = true from rfl] at ir
  have ill := isRed_any hll
  rw [vll] at ill
  have ilr := isRed_any hlr
  rw [vlr] at ilr
  have irl := isRed_any hrl
  rw [vrl] at irl
  have kmx : w.cell? ⟨m, 1, none⟩ = some (.int .i64 mx) := c0 gm
  have kml := cl gm
  have kmr := cr gm
  have im := isRed_any hrr
  rw [show isR (BT.node (true, mx) ml mr) = true from rfl] at im
  clear gl gr vll vlr vrl gm
  go_enter Try.func116, Try.ntmps116
  go_wp2_with (first | (go_at_call_of 125 (Value.pointer (some ⟨bl, 0, none⟩)); refine il.mono ?_; rintro e wq ⟨rfl, rfl⟩) | (go_at_call_of 125 (Value.pointer (some ⟨br, 0, none⟩)); refine ir.mono ?_; rintro e wq ⟨rfl, rfl⟩) | (go_at_call_of 125 (Value.pointer pll); refine ill.mono ?_; rintro e wq ⟨rfl, rfl⟩) | (go_at_call_of 125 (Value.pointer plr); refine ilr.mono ?_; rintro e wq ⟨rfl, rfl⟩) | (go_at_call_of 125 (Value.pointer prl); refine irl.mono ?_; rintro e wq ⟨rfl, rfl⟩) | (go_at_call_of 125 (Value.pointer (some ⟨m, 0, none⟩)); refine im.mono ?_; rintro e wq ⟨rfl, rfl⟩))
  go_region_held3 (fun w' => w'.cell? ⟨br, 1, none⟩ = some (.int .i64 rx) ∧ w'.cell? ⟨br, 3, none⟩ = some (.pointer prl) ∧ w'.cell? ⟨br, 4, none⟩ = some (.pointer (some ⟨m, 0, none⟩)) ∧ w'.cell? ⟨m, 1, none⟩ = some (.int .i64 mx) ∧ w'.cell? ⟨m, 3, none⟩ = some (.pointer pml) ∧ w'.cell? ⟨m, 4, none⟩ = some (.pointer pmr)) (first | exact ⟨krx_1, krl_1, krr_1, kmx_1, kml_1, kmr_1⟩ | exact ⟨krx, krl, krr, kmx, kml, kmr⟩ | go_keep)
    (first
      | (go_at_call 126; refine (three_any B _ (some ⟨bl, 0, none⟩) (.node (true, lx) ll lr) x prl rl rx pml ml mx pmr mr (by exact szle (belowDrew w) hB) (by exact hl.up (belowDrew w)) (by exact hrl.up (belowDrew w)) (by exact hml.up (belowDrew w)) (by exact hmr.up (belowDrew w)) (by first | omega | (simp only [BT.size]; omega))).mono ?_; rintro e w1 ⟨p1, _, rfl, rfl, hp1, hb1⟩; replace hb1 := belowTrans (belowDrew w) hb1; have krx_1 := upc hb1 krx; have krl_1 := upc hb1 krl; have krr_1 := upc hb1 krr; have kmx_1 := upc hb1 kmx; have kml_1 := upc hb1 kml; have kmr_1 := upc hb1 kmr))
  have hbel1 := hb1
  go_wp2_with fail
  go_ret
  exact RetQ.mk (by simp only [BT.size]; omega) hp1 hbel1

end Go.Proofs.Ytcjhbpnmkahkeaa.red
