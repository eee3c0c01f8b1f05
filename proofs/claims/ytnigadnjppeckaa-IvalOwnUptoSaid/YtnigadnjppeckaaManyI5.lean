/- Package finger, many things (ival): Len, Sum, Split, Insert, Join, Cut, At. (Printed by mm.py.) -/
import Derived.Test.YtnigadnjppeckaaManyI4
import Derived.Test.YtnigadnjppeckaaGrow2
import Derived.Deep.LoopGhost
namespace Go.Proofs.Ytnigadnjppeckaa.manyI
open Go.RowKit

set_option maxHeartbeats 400000 in
theorem Len_any (B : Nat) (w : World) (p : Option Addr) (t : BT V) (h : In B w p t) :
    Calls Try.prog 58 #[.agg #[.pointer p]] w fun e w' => e = .returned (.int .i64 (t.size : Nat)) ∧ Below w.heap.size w w' := by
  have Hh := Lib.hid (size_any (h.up (belowAlloc w (.cells #[.pointer p] 60))))
  clear h
  go_enter Try.func58, Try.ntmps58
  go_wp2_with fail
  refine Hh.out.mono ?_
  rintro e w1 ⟨rfl, rfl⟩
  go_wp2_with fail
  go_ret
  exact ⟨rfl, belowAlloc _ _⟩

def RetSpM (B : Nat) (w : World) (xs : List V) (k m : Nat) (e : Ending) (w' : World) : Prop :=
  ∃ p q t u, e = .returned (.tuple #[.agg #[.pointer p], .agg #[.pointer q]]) ∧ Is (xs.take k) k t ∧ Is (xs.drop k) m u ∧ In B w' p t ∧ In B w' q u ∧ Below w.heap.size w w'
/-- what a call that hands back many things leaves -/
def RetM (B : Nat) (w : World) (Q : BT V → Prop) (e : Ending) (w' : World) : Prop := ∃ p t, e = .returned (.agg #[.pointer p]) ∧ Q t ∧ In B w' p t ∧ Below w.heap.size w w'
theorem below3 (w : World) (o1 o2 o3 : Obj) : Below w.heap.size w (((w.alloc o1).alloc o2).alloc o3) := belowTrans (belowAlloc _ _) (belowTrans (belowAlloc _ _) (belowAlloc _ _))
theorem Holds.store1 {B k : Nat} {w : World} {p : Option Addr} {t : BT V} {c : Array Value} {fz : Nat × Nat} {u : Value} {ty : Nat} (h : In B w p t) (hk : w.heap[k]? = some (.cells c ty fz)) (hne : ty ≠ 159) : In B (w.setCell ⟨k, 0, none⟩ u) p t :=
  h.store hk hne

set_option maxHeartbeats 1000000 in
theorem Split_any (B : Nat) (w : World) (p : Option Addr) (t : BT V) (i : Int) (hB : B ≤ w.heap.size) (h : In B w p t) (h0 : 0 ≤ i) (h1 : i ≤ (t.size : Nat)) (hs : t.size ≤ 1152921504606830000) :
    Calls Try.prog 97 #[.agg #[.pointer p], .int .i64 i] w (RetSpM B w t.inorder i.toNat (t.size - i.toNat)) := by
  have hb3 := below3 w (.cells #[.pointer p] 60) (.cells #[.pointer none] 60) (.cells #[.pointer none] 60)
  have Hc := Lib.hid (split_any B t _ p i (szle hb3 hB) (h.up hb3) h0 h1 hs)
  have Hb3 := Lib.hid hb3
  clear h hb3 h0 h1 hB
  go_enter Try.func97, Try.ntmps97
  go_wp2_with fail
  refine Hc.out.mono ?_
  rintro e w1 ⟨a, b, u1, u2, rfl, i1, i2, j1, j2, hb1⟩
  have hk1 := upb hb1 (upb (belowAlloc _ (.cells #[.pointer none] 60)) (heapNew2 w (.cells #[.pointer p] 60) (.cells #[.pointer none] 60)))
  have hk2 := upb hb1 (heapNew2 (w.alloc (.cells #[.pointer p] 60)) (.cells #[.pointer none] 60) (.cells #[.pointer none] 60))
  rw [World.size_alloc] at hk2
  have I1 := Lib.hid i1
  have I2 := Lib.hid i2
  have J1 := Lib.hid j1
  have J2 := Lib.hid j2
  have Hb := Lib.hid (belowTrans Hb3.out hb1)
  have c1 := cell_of_one hk1
  have f1 := free_of_one hk1
  have c2 := cell_of_one hk2
  have f2 := free_of_one hk2
  have K1 := Lib.hid hk1
  have K2 := Lib.hid hk2
  clear i1 i2 j1 j2 hb1 hk1 hk2 Hb3
  go_wp2_with fail
  have hr1 := one_setCell (u := .pointer a) K1.out
  have hr2 : (w1.setCell ⟨w.heap.size + 1, 0, none⟩ (.pointer a)).heap[w.heap.size + 1 + 1]? = _ := (Below.heap_setCell w1 _ _ _ (by simp)).trans K2.out
  have hr3 := one_setCell (u := .pointer b) hr2
  have hr4 : ((w1.setCell ⟨w.heap.size + 1, 0, none⟩ (.pointer a)).setCell ⟨w.heap.size + 1 + 1, 0, none⟩ (.pointer b)).heap[w.heap.size + 1]? = _ := (Below.heap_setCell _ _ _ _ (by simp)).trans hr1
  have e1 := cell_of_one hr4
  have e2 := cell_of_one hr3
  exact bodyPost_ret (v := .tuple #[.agg #[.pointer a], .agg #[.pointer b]]) (by simp [results, Try.results97, go_sem, e1, e2]) rfl ⟨a, b, u1, u2, rfl, I1.out, I2.out, Holds.store1 (Holds.store1 J1.out K1.out (by decide)) hr2 (by decide), Holds.store1 (Holds.store1 J2.out K1.out (by decide)) hr2 (by decide), ((Hb.out.setCell (p := ⟨w.heap.size + 1, 0, none⟩) (Nat.le_succ _) _).setCell (p := ⟨w.heap.size + 1 + 1, 0, none⟩) (by show w.heap.size ≤ w.heap.size + 1 + 1; omega) _)⟩

set_option maxHeartbeats 1000000 in
theorem Insert_any (B : Nat) (w : World) (p : Option Addr) (t : BT V) (i : Int) (v : V) (hB : B ≤ w.heap.size) (h : In B w p t) (h0 : 0 ≤ i) (h1 : i ≤ (t.size : Nat)) (hs : t.size ≤ 1152921504606820000) :
    Calls Try.prog 57 #[.agg #[.pointer p], .int .i64 i, .agg #[.int .i64 (v).1, .int .i64 (v).2.1, .int .i64 (v).2.2]] w (RetM B w (Is (t.inorder.take i.toNat ++ v :: t.inorder.drop i.toNat) (t.size + 1))) := by
  obtain ⟨V0, hV⟩ : ∃ V0, V0 = (((w.alloc (.cells #[.pointer p] 60)).alloc (.cells #[.int .i64 (v).1, .int .i64 (v).2.1, .int .i64 (v).2.2] 68)).alloc (.cells #[.pointer none] 60)) := ⟨_, rfl⟩
  have hb0 : Below w.heap.size w V0 := by rw [hV]; exact below3 _ _ _ _
  have hres : V0.heap[w.heap.size + 1 + 1]? = some (.cells #[.pointer none] 60 (0, 0)) := by
    rw [hV]
    have h := heapNew2 (w.alloc (.cells #[.pointer p] 60)) (.cells #[.int .i64 (v).1, .int .i64 (v).2.1, .int .i64 (v).2.2] 68) (.cells #[.pointer none] 60)
    simpa using h
  have kv0 : V0.cell? ⟨w.heap.size + 1, 0, none⟩ = some (.int .i64 (v).1) := by rw [hV]; exact upc (belowAlloc _ _) (vc0 (heapNew2 w (.cells #[.pointer p] 60) (.cells #[.int .i64 (v).1, .int .i64 (v).2.1, .int .i64 (v).2.2] 68)))
  have kv1 : V0.cell? ⟨w.heap.size + 1, 1, none⟩ = some (.int .i64 (v).2.1) := by rw [hV]; exact upc (belowAlloc _ _) (vc1 (heapNew2 w (.cells #[.pointer p] 60) (.cells #[.int .i64 (v).1, .int .i64 (v).2.1, .int .i64 (v).2.2] 68)))
  have kv2 : V0.cell? ⟨w.heap.size + 1, 2, none⟩ = some (.int .i64 (v).2.2) := by rw [hV]; exact upc (belowAlloc _ _) (vc2 (heapNew2 w (.cells #[.pointer p] 60) (.cells #[.int .i64 (v).1, .int .i64 (v).2.1, .int .i64 (v).2.2] 68)))
  have Hc := Lib.hid (split_any B t V0 p i (szle hb0 hB) (h.up hb0) h0 h1 (by omega))
  have HB := Lib.hid (szle hb0 hB)
  have Hb0 := Lib.hid hb0
  have HV := Lib.hid hV
  have Hres := Lib.hid hres
  clear h hb0 hB hV hres
  go_enter Try.func57, Try.ntmps57
  go_wp2_with fail
  rw [← HV.out]
  refine Hc.out.mono ?_
  rintro e w1 ⟨a, b, u1, u2, rfl, i1, i2, j1, j2, hb1⟩
  have hl := link_any B w1 a u1 v b u2 (szle hb1 HB.out) j1 j2 (by have e1 := i1.2; have e2 := i2.2; omega)
  have Hl := Lib.hid hl
  have I1 := Lib.hid i1
  have I2 := Lib.hid i2
  have hk1 := upb hb1 Hres.out
  have kw0 := upc hb1 kv0
  have kw1 := upc hb1 kv1
  have kw2 := upc hb1 kv2
  have K1 := Lib.hid hk1
  have Hb := Lib.hid (belowTrans Hb0.out hb1)
  clear i1 i2 j1 j2 hb1 hl hk1 Hc
  go_wp2_with fail
  refine Hl.out.mono ?_
  rintro e w2 ⟨q, u, rfl, i3, j3, hb2⟩
  have hk2 := upb hb2 K1.out
  have c1 := cell_of_one hk2
  have f1 := free_of_one hk2
  have I3 := Lib.hid i3
  have J3 := Lib.hid j3
  have K2 := Lib.hid hk2
  have Hb2 := Lib.hid (belowTrans Hb.out hb2)
  clear i3 j3 hk2 hb2 Hl
  go_wp2_with fail
  have hr1 := one_setCell (u := .pointer q) K2.out
  have e1 := cell_of_one hr1
  exact bodyPost_ret (v := .agg #[.pointer q]) (by simp [results, Try.results57, go_sem, e1]) rfl ⟨q, u, rfl, I3.out.of (by rw [I1.out.1, I2.out.1]) (by rw [I1.out.2, I2.out.2]; omega), Holds.store1 J3.out K2.out (by decide), Hb2.out.setCell (p := ⟨w.heap.size + 1 + 1, 0, none⟩) (by show w.heap.size ≤ w.heap.size + 1 + 1; omega) _⟩
end Go.Proofs.Ytnigadnjppeckaa.manyI
