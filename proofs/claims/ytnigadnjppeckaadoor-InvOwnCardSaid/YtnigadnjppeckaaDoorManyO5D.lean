/- Package finger, many things (ord): Len, Sum, Split, Insert, Join, Cut, At. (Printed by mm.py.) -/
import Derived.Test.YtnigadnjppeckaaDoorManyO4
import Derived.Test.YtnigadnjppeckaaDoorGrow2
import Derived.Deep.LoopGhost
namespace Go.Proofs.YtnigadnjppeckaaDoor.manyO
open Go.RowKit

def RetSpM (B : Nat) (w : World) (xs : List V) (k m : Nat) (e : Ending) (w' : World) : Prop :=
  ∃ p q t u, e = .returned (.tuple #[.agg #[.pointer p], .agg #[.pointer q]]) ∧ Is (xs.take k) k t ∧ Is (xs.drop k) m u ∧ In B w' p t ∧ In B w' q u ∧ Below w.heap.size w w'
/-- what a call that hands back many things leaves -/
def RetM (B : Nat) (w : World) (Q : BT V → Prop) (e : Ending) (w' : World) : Prop := ∃ p t, e = .returned (.agg #[.pointer p]) ∧ Q t ∧ In B w' p t ∧ Below w.heap.size w w'
theorem below3 (w : World) (o1 o2 o3 : Obj) : Below w.heap.size w (((w.alloc o1).alloc o2).alloc o3) := belowTrans (belowAlloc _ _) (belowTrans (belowAlloc _ _) (belowAlloc _ _))
theorem Holds.store1 {B k : Nat} {w : World} {p : Option Addr} {t : BT V} {c : Array Value} {fz : Nat × Nat} {u : Value} {ty : Nat} (h : In B w p t) (hk : w.heap[k]? = some (.cells c ty fz)) (hne : ty ≠ 69) : In B (w.setCell ⟨k, 0, none⟩ u) p t :=
  h.store hk hne

set_option maxHeartbeats 1000000 in
theorem Split_any (B : Nat) (w : World) (p : Option Addr) (t : BT V) (i : Int) (hB : B ≤ w.heap.size) (h : In B w p t) (h0 : 0 ≤ i) (h1 : i ≤ (t.size : Nat)) (hs : t.size ≤ 1152921504606830000) :
    Calls Tryd.prog 23 #[.agg #[.pointer p], .int .i64 i] w (RetSpM B w t.inorder i.toNat (t.size - i.toNat)) := by
  have hb3 := below3 w (.cells #[.pointer p] 37) (.cells #[.pointer none] 37) (.cells #[.pointer none] 37)
  have Hc := Lib.hid (split_any B t _ p i (szle hb3 hB) (h.up hb3) h0 h1 hs)
  have Hb3 := Lib.hid hb3
  clear h hb3 h0 h1 hB
  go_enter Tryd.func23, Tryd.ntmps23
  go_wp2_with fail
  refine Hc.out.mono ?_
  rintro e w1 ⟨a, b, u1, u2, rfl, i1, i2, j1, j2, hb1⟩
  have hk1 := upb hb1 (upb (belowAlloc _ (.cells #[.pointer none] 37)) (heapNew2 w (.cells #[.pointer p] 37) (.cells #[.pointer none] 37)))
  have hk2 := upb hb1 (heapNew2 (w.alloc (.cells #[.pointer p] 37)) (.cells #[.pointer none] 37) (.cells #[.pointer none] 37))
  rw [World.size_alloc] at hk2
  have I1 := Lib.hid i1
  have I2 := Lib.hid i2
  have J1 := Lib.hid j1
  have J2 := Lib.hid j2
  have Hb := Lib.hid (belowTrans Hb3.out hb1)
  have c1 := cell_of_one hk1
  have f1 := free_of_one hk1
  have c2 := cell_of_one hk2
  have f2 := free_of_one hk2
  have K1 := Lib.hid hk1
  have K2 := Lib.hid hk2
  clear i1 i2 j1 j2 hb1 hk1 hk2 Hb3
  go_wp2_with fail
  have hr1 := one_setCell (u := .pointer a) K1.out
  have hr2 : (w1.setCell ⟨w.heap.size + 1, 0, none⟩ (.pointer a)).heap[w.heap.size + 1 + 1]? = _ := (Below.heap_setCell w1 _ _ _ (by simp)).trans K2.out
  have hr3 := one_setCell (u := .pointer b) hr2
  have hr4 : ((w1.setCell ⟨w.heap.size + 1, 0, none⟩ (.pointer a)).setCell ⟨w.heap.size + 1 + 1, 0, none⟩ (.pointer b)).heap[w.heap.size + 1]? = _ := (Below.heap_setCell _ _ _ _ (by simp)).trans hr1
  have e1 := cell_of_one hr4
  have e2 := cell_of_one hr3
  exact bodyPost_ret (v := .tuple #[.agg #[.pointer a], .agg #[.pointer b]]) (by simp [results, Tryd.results23, go_sem, e1, e2]) rfl ⟨a, b, u1, u2, rfl, I1.out, I2.out, Holds.store1 (Holds.store1 J1.out K1.out (by decide)) hr2 (by decide), Holds.store1 (Holds.store1 J2.out K1.out (by decide)) hr2 (by decide), ((Hb.out.setCell (p := ⟨w.heap.size + 1, 0, none⟩) (Nat.le_succ _) _).setCell (p := ⟨w.heap.size + 1 + 1, 0, none⟩) (by show w.heap.size ≤ w.heap.size + 1 + 1; omega) _)⟩

set_option maxHeartbeats 1000000 in
theorem Insert_any (B : Nat) (w : World) (p : Option Addr) (t : BT V) (i : Int) (v : V) (hB : B ≤ w.heap.size) (h : In B w p t) (h0 : 0 ≤ i) (h1 : i ≤ (t.size : Nat)) (hs : t.size ≤ 1152921504606820000) :
    Calls Tryd.prog 25 #[.agg #[.pointer p], .int .i64 i, .int .i64 v] w (RetM B w (Is (t.inorder.take i.toNat ++ v :: t.inorder.drop i.toNat) (t.size + 1))) := by
  obtain ⟨V0, hV⟩ : ∃ V0, V0 = ((w.alloc (.cells #[.pointer p] 37)).alloc (.cells #[.pointer none] 37)) := ⟨_, rfl⟩
  have hb0 : Below w.heap.size w V0 := by rw [hV]; exact belowTrans (belowAlloc _ _) (belowAlloc _ _)
  have hres : V0.heap[w.heap.size + 1]? = some (.cells #[.pointer none] 37 (0, 0)) := by
    rw [hV]
    have h := heapNew2 w (.cells #[.pointer p] 37) (.cells #[.pointer none] 37)
    simpa using h
  have Hc := Lib.hid (split_any B t V0 p i (szle hb0 hB) (h.up hb0) h0 h1 (by omega))
  have HB := Lib.hid (szle hb0 hB)
  have Hb0 := Lib.hid hb0
  have HV := Lib.hid hV
  have Hres := Lib.hid hres
  clear h hb0 hB hV hres
  go_enter Tryd.func25, Tryd.ntmps25
  go_wp2_with fail
  rw [← HV.out]
  refine Hc.out.mono ?_
  rintro e w1 ⟨a, b, u1, u2, rfl, i1, i2, j1, j2, hb1⟩
  have hl := link_any B w1 a u1 v b u2 (szle hb1 HB.out) j1 j2 (by have e1 := i1.2; have e2 := i2.2; omega)
  have Hl := Lib.hid hl
  have I1 := Lib.hid i1
  have I2 := Lib.hid i2
  have hk1 := upb hb1 Hres.out
  have K1 := Lib.hid hk1
  have Hb := Lib.hid (belowTrans Hb0.out hb1)
  clear i1 i2 j1 j2 hb1 hl hk1 Hc
  go_wp2_with fail
  refine Hl.out.mono ?_
  rintro e w2 ⟨q, u, rfl, i3, j3, hb2⟩
  have hk2 := upb hb2 K1.out
  have c1 := cell_of_one hk2
  have f1 := free_of_one hk2
  have I3 := Lib.hid i3
  have J3 := Lib.hid j3
  have K2 := Lib.hid hk2
  have Hb2 := Lib.hid (belowTrans Hb.out hb2)
  clear i3 j3 hk2 hb2 Hl
  go_wp2_with fail
  have hr1 := one_setCell (u := .pointer q) K2.out
  have e1 := cell_of_one hr1
  exact bodyPost_ret (v := .agg #[.pointer q]) (by simp [results, Tryd.results25, go_sem, e1]) rfl ⟨q, u, rfl, I3.out.of (by rw [I1.out.1, I2.out.1]) (by rw [I1.out.2, I2.out.2]; omega), Holds.store1 J3.out K2.out (by decide), Hb2.out.setCell (p := ⟨w.heap.size + 1, 0, none⟩) (by show w.heap.size ≤ w.heap.size + 1; omega) _⟩

def kTM (B : Nat) (Q : BT V → Prop) : grow.Kept := ⟨fun v W => ∃ q t, v = .agg #[.pointer q] ∧ Q t ∧ In B W q t, fun _ _ _ hb ⟨q, t, h1, h2, h3⟩ => ⟨q, t, h1, h2, h3.up hb⟩⟩
end Go.Proofs.YtnigadnjppeckaaDoor.manyO
