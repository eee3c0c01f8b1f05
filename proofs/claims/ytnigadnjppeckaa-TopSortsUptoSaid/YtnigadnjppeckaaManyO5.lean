/- Package finger, many things (ord): Len, Sum, Split, Insert, Join, Cut, At. (Printed by mm.py.) -/
import Derived.Test.YtnigadnjppeckaaManyO4
import Derived.Test.YtnigadnjppeckaaGrow2
import Derived.Deep.LoopGhost
namespace Go.Proofs.Ytnigadnjppeckaa.manyO
open Go.RowKit

set_option maxHeartbeats 400000 in
theorem Len_any (B : Nat) (w : World) (p : Option Addr) (t : BT V) (h : In B w p t) :
    Calls Try.prog 70 #[.agg #[.pointer p]] w fun e w' => e = .returned (.int .i64 (t.size : Nat)) ∧ Below w.heap.size w w' := by
  have Hh := Lib.hid (size_any (h.up (belowAlloc w (.cells #[.pointer p] 40))))
  clear h
  go_enter Try.func70, Try.ntmps70
  go_wp2_with fail
  refine Hh.out.mono ?_
  rintro e w1 ⟨rfl, rfl⟩
  go_wp2_with fail
  go_ret
  exact ⟨rfl, belowAlloc _ _⟩

def RetSpM (B : Nat) (w : World) (xs : List V) (k m : Nat) (e : Ending) (w' : World) : Prop :=
  ∃ p q t u, e = .returned (.tuple #[.agg #[.pointer p], .agg #[.pointer q]]) ∧ Is (xs.take k) k t ∧ Is (xs.drop k) m u ∧ In B w' p t ∧ In B w' q u ∧ Below w.heap.size w w'
/-- what a call that hands back many things leaves -/
def RetM (B : Nat) (w : World) (Q : BT V → Prop) (e : Ending) (w' : World) : Prop := ∃ p t, e = .returned (.agg #[.pointer p]) ∧ Q t ∧ In B w' p t ∧ Below w.heap.size w w'
theorem below3 (w : World) (o1 o2 o3 : Obj) : Below w.heap.size w (((w.alloc o1).alloc o2).alloc o3) := belowTrans (belowAlloc _ _) (belowTrans (belowAlloc _ _) (belowAlloc _ _))
theorem Holds.store1 {B k : Nat} {w : World} {p : Option Addr} {t : BT V} {c : Array Value} {fz : Nat × Nat} {u : Value} {ty : Nat} (h : In B w p t) (hk : w.heap[k]? = some (.cells c ty fz)) (hne : ty ≠ 142) : In B (w.setCell ⟨k, 0, none⟩ u) p t :=
  h.store hk hne

set_option maxHeartbeats 1000000 in
theorem Split_any (B : Nat) (w : World) (p : Option Addr) (t : BT V) (i : Int) (hB : B ≤ w.heap.size) (h : In B w p t) (h0 : 0 ≤ i) (h1 : i ≤ (t.size : Nat)) (hs : t.size ≤ 1152921504606830000) :
    Calls Try.prog 72 #[.agg #[.pointer p], .int .i64 i] w (RetSpM B w t.inorder i.toNat (t.size - i.toNat)) := by
  have hb3 := below3 w (.cells #[.pointer p] 40) (.cells #[.pointer none] 40) (.cells #[.pointer none] 40)
  have Hc := Lib.hid (split_any B t _ p i (szle hb3 hB) (h.up hb3) h0 h1 hs)
  have Hb3 := Lib.hid hb3
  clear h hb3 h0 h1 hB
  go_enter Try.func72, Try.ntmps72
  go_wp2_with fail
  refine Hc.out.mono ?_
  rintro e w1 ⟨a, b, u1, u2, rfl, i1, i2, j1, j2, hb1⟩
  have hk1 := upb hb1 (upb (belowAlloc _ (.cells #[.pointer none] 40)) (heapNew2 w (.cells #[.pointer p] 40) (.cells #[.pointer none] 40)))
  have hk2 := upb hb1 (heapNew2 (w.alloc (.cells #[.pointer p] 40)) (.cells #[.pointer none] 40) (.cells #[.pointer none] 40))
  rw [World.size_alloc] at hk2
  have I1 := Lib.hid i1
  have I2 := Lib.hid i2
  have J1 := Lib.hid j1
  have J2 := Lib.hid j2
  have Hb := Lib.hid (belowTrans Hb3.out hb1)
  have c1 := cell_of_one hk1
  have f1 := free_of_one hk1
  have c2 := cell_of_one hk2
  have f2 := free_of_one hk2
  have K1 := Lib.hid hk1
  have K2 := Lib.hid hk2
  clear i1 i2 j1 j2 hb1 hk1 hk2 Hb3
  go_wp2_with fail
  have hr1 := one_setCell (u := .pointer a) K1.out
  have hr2 : (w1.setCell ⟨w.heap.size + 1, 0, none⟩ (.pointer a)).heap[w.heap.size + 1 + 1]? = _ := (Below.heap_setCell w1 _ _ _ (by simp)).trans K2.out
  have hr3 := one_setCell (u := .pointer b) hr2
  have hr4 : ((w1.setCell ⟨w.heap.size + 1, 0, none⟩ (.pointer a)).setCell ⟨w.heap.size + 1 + 1, 0, none⟩ (.pointer b)).heap[w.heap.size + 1]? = _ := (Below.heap_setCell _ _ _ _ (by simp)).trans hr1
  have e1 := cell_of_one hr4
  have e2 := cell_of_one hr3
  exact bodyPost_ret (v := .tuple #[.agg #[.pointer a], .agg #[.pointer b]]) (by simp [results, Try.results72, go_sem, e1, e2]) rfl ⟨a, b, u1, u2, rfl, I1.out, I2.out, Holds.store1 (Holds.store1 J1.out K1.out (by decide)) hr2 (by decide), Holds.store1 (Holds.store1 J2.out K1.out (by decide)) hr2 (by decide), ((Hb.out.setCell (p := ⟨w.heap.size + 1, 0, none⟩) (Nat.le_succ _) _).setCell (p := ⟨w.heap.size + 1 + 1, 0, none⟩) (by show w.heap.size ≤ w.heap.size + 1 + 1; omega) _)⟩

set_option maxHeartbeats 1000000 in
theorem Insert_any (B : Nat) (w : World) (p : Option Addr) (t : BT V) (i : Int) (v : V) (hB : B ≤ w.heap.size) (h : In B w p t) (h0 : 0 ≤ i) (h1 : i ≤ (t.size : Nat)) (hs : t.size ≤ 1152921504606820000) :
    Calls Try.prog 78 #[.agg #[.pointer p], .int .i64 i, .int .i64 v] w (RetM B w (Is (t.inorder.take i.toNat ++ v :: t.inorder.drop i.toNat) (t.size + 1))) := by
  obtain ⟨V0, hV⟩ : ∃ V0, V0 = ((w.alloc (.cells #[.pointer p] 40)).alloc (.cells #[.pointer none] 40)) := ⟨_, rfl⟩
  have hb0 : Below w.heap.size w V0 := by rw [hV]; exact belowTrans (belowAlloc _ _) (belowAlloc _ _)
  have hres : V0.heap[w.heap.size + 1]? = some (.cells #[.pointer none] 40 (0, 0)) := by
    rw [hV]
    have h := heapNew2 w (.cells #[.pointer p] 40) (.cells #[.pointer none] 40)
    simpa using h
  have Hc := Lib.hid (split_any B t V0 p i (szle hb0 hB) (h.up hb0) h0 h1 (by omega))
  have HB := Lib.hid (szle hb0 hB)
  have Hb0 := Lib.hid hb0
  have HV := Lib.hid hV
  have Hres := Lib.hid hres
  clear h hb0 hB hV hres
  go_enter Try.func78, Try.ntmps78
  go_wp2_with fail
  rw [← HV.out]
  refine Hc.out.mono ?_
  rintro e w1 ⟨a, b, u1, u2, rfl, i1, i2, j1, j2, hb1⟩
  have hl := link_any B w1 a u1 v b u2 (szle hb1 HB.out) j1 j2 (by have e1 := i1.2; have e2 := i2.2; omega)
  have Hl := Lib.hid hl
  have I1 := Lib.hid i1
  have I2 := Lib.hid i2
  have hk1 := upb hb1 Hres.out
  have K1 := Lib.hid hk1
  have Hb := Lib.hid (belowTrans Hb0.out hb1)
  clear i1 i2 j1 j2 hb1 hl hk1 Hc
  go_wp2_with fail
  refine Hl.out.mono ?_
  rintro e w2 ⟨q, u, rfl, i3, j3, hb2⟩
  have hk2 := upb hb2 K1.out
  have c1 := cell_of_one hk2
  have f1 := free_of_one hk2
  have I3 := Lib.hid i3
  have J3 := Lib.hid j3
  have K2 := Lib.hid hk2
  have Hb2 := Lib.hid (belowTrans Hb.out hb2)
  clear i3 j3 hk2 hb2 Hl
  go_wp2_with fail
  have hr1 := one_setCell (u := .pointer q) K2.out
  have e1 := cell_of_one hr1
  exact bodyPost_ret (v := .agg #[.pointer q]) (by simp [results, Try.results78, go_sem, e1]) rfl ⟨q, u, rfl, I3.out.of (by rw [I1.out.1, I2.out.1]) (by rw [I1.out.2, I2.out.2]; omega), Holds.store1 J3.out K2.out (by decide), Hb2.out.setCell (p := ⟨w.heap.size + 1, 0, none⟩) (by show w.heap.size ≤ w.heap.size + 1; omega) _⟩

set_option maxHeartbeats 1000000 in
theorem Join_nil (B : Nat) (w : World) (p : Option Addr) (t : BT V) (h : In B w p t) :
    Calls Try.prog 73 #[.agg #[.pointer p], .agg #[.pointer none]] w (RetM B w (Is t.inorder t.size)) := by
  have Hh := Lib.hid (h.up (below3 w (.cells #[.pointer p] 40) (.cells #[.pointer none] 40) (.cells #[.pointer p] 40)))
  clear h
  go_enter Try.func73, Try.ntmps73
  go_wp2_with fail
  exact bodyPost_ret (v := .agg #[.pointer p]) (by simp [results, Try.results73, go_sem]) rfl ⟨p, t, rfl, ⟨rfl, rfl⟩, Hh.out, below3 _ _ _ _⟩

def kTM (B : Nat) (Q : BT V → Prop) : grow.Kept := ⟨fun v W => ∃ q t, v = .agg #[.pointer q] ∧ Q t ∧ In B W q t, fun _ _ _ hb ⟨q, t, h1, h2, h3⟩ => ⟨q, t, h1, h2, h3.up hb⟩⟩
theorem one_node {xs : List V} {u1 : BT V} (h : Is (xs.take 1) 1 u1) (hx : xs ≠ []) : ∃ x, u1 = .node x .nil .nil ∧ xs = x :: xs.drop 1 := by
  cases u1 with
  | nil => have := h.2; simp [BT.size] at this
  | node x l r =>
    have h2 := h.2
    simp only [BT.size] at h2
    cases l with
    | node _ _ _ => simp only [BT.size] at h2; omega
    | nil =>
      cases r with
      | node _ _ _ => simp only [BT.size] at h2; omega
      | nil =>
        have h1 := h.1
        cases xs with
        | nil => exact absurd rfl hx
        | cons y ys =>
          simp [BT.inorder] at h1
          exact ⟨x, rfl, by rw [h1]; rfl⟩
set_option maxRecDepth 100000 in
set_option maxHeartbeats 4000000 in
theorem Join_some (B : Nat) (w : World) (p pu : Option Addr) (t tu : BT V) (hB : B ≤ w.heap.size) (h : In B w p t) (hu : In B w pu tu) (hne : 0 < tu.size) (hs : t.size + tu.size ≤ 1152921504606820000) :
    Calls Try.prog 73 #[.agg #[.pointer p], .agg #[.pointer pu]] w (RetM B w (Is (t.inorder ++ tu.inorder) (t.size + tu.size))) := by
  obtain ⟨bu, hbu⟩ : ∃ bu, pu = some ⟨bu, 0, none⟩ := by
    cases tu with
    | nil => simp [BT.size] at hne
    | node x l r => obtain ⟨b, pl, pr, rfl, _⟩ := hu; exact ⟨b, rfl⟩
  have hb3 := below3 w (.cells #[.pointer p] 40) (.cells #[.pointer pu] 40) (.cells #[.pointer none] 40)
  have Hc := Lib.hid (split_any B tu _ pu 1 (szle hb3 hB) (hu.up hb3) (by omega) (by omega) (by omega))
  subst hbu
  have HB := Lib.hid (szle hb3 hB)
  have Hb3 := Lib.hid hb3
  have Hh := Lib.hid h
  clear h hb3 hB hu
  go_enter Try.func73, Try.ntmps73
  go_wp2_with fail
  refine Hc.out.mono ?_
  rintro e w1 ⟨a, b, u1, u2, rfl, i1, i2, j1, j2, hb1⟩
  obtain ⟨x, hx1, hx2⟩ := one_node i1 (by intro e; have := BT.length_inorder tu; rw [e] at this; simp at this; omega)
  subst hx1
  obtain ⟨bx, pl, pr, rfl, _, hbx, _, _⟩ := j1
  have kx0 := cv0 hbx
  have hk1 := upb hb1 (heapNew2 (w.alloc (.cells #[.pointer p] 40)) (.cells #[.pointer (some ⟨bu, 0, none⟩)] 40) (.cells #[.pointer none] 40))
  rw [World.size_alloc] at hk1
  have kt := cell_of_one (upb hb1 (upb (belowTrans (belowAlloc _ (.cells #[.pointer (some ⟨bu, 0, none⟩)] 40)) (belowAlloc _ (.cells #[.pointer none] 40))) (heap_alloc_new w (.cells #[.pointer p] 40))))
  have hb := belowTrans Hb3.out hb1
  replace Hh := Lib.hid (Hh.out.up hb)
  have HBw := Lib.hid (szle hb1 HB.out)
  have Hb := Lib.hid hb
  have K1 := Lib.hid hk1
  have I2 := Lib.hid i2
  have J2 := Lib.hid j2
  have hu2 := i2.2
  have hu3 : u2.size = tu.size - 1 := hu2
  have HX := Lib.hid (And.intro hx2.symm trivial)
  clear hbx hk1 hb hb1 i1 i2 j2 hx2 hu2 Hc HB Hb3
  have hu4 : t.size + u2.size ≤ 1152921504606820000 := by omega
  have HU := Lib.hid hu3
  clear hu3
  go_wp2_with fail
  refine grow.wp_grow_last 9 _ [grow.kEq (.pointer (some ⟨w.heap.size, 0, none⟩)), grow.kEq (.pointer p), grow.kEq (.pointer (some ⟨bx, 0, none⟩)), grow.kEq (.pointer (some ⟨bx, 0, none⟩)), grow.kEq (.pointer (some ⟨bx, 0, none⟩)), grow.kEq (.int .i64 x), grow.kEq (.pointer b), kT B (Is (t.inorder ++ x :: u2.inorder) (t.size + 1 + u2.size)), kTM B (Is (t.inorder ++ x :: u2.inorder) (t.size + 1 + u2.size))] rfl rfl rfl (by kernel_rfl) (by kernel_rfl) (by kernel_rfl) (by kernel_rfl) (by kernel_rfl) ?step ?fin
  case step =>
    refine grow.EachL.cons ?_ ?_
    · intro A W hB hs hJ K hK
      have s0 := hs 2 (by kernel_rfl)
      simp at s0
      rw [if_pos (by rfl)]
      clear hs hJ
      go_simp
      exact hK _ _ (Below.refl _ _) rfl
    refine grow.EachL.cons ?_ ?_
    · intro A W hB hs hJ K hK
      have s0 : A.tmps.getD 17 undef = .pointer (some ⟨w.heap.size, 0, none⟩) := hJ 0 17 (by kernel_rfl) (by kernel_rfl)
      simp at s0
      have kk := upc hB kt
      rw [if_pos (by rfl)]
      clear hs hJ
      go_simp
      exact hK _ _ (Below.refl _ _) rfl
    refine grow.EachL.cons ?_ ?_
    · intro A W hB hs hJ K hK
      have s0 := hs 5 (by kernel_rfl)
      simp at s0
      rw [if_pos (by rfl)]
      clear hs hJ
      go_simp
      exact hK _ _ (Below.refl _ _) rfl
    refine grow.EachL.cons ?_ ?_
    · intro A W hB hs hJ K hK
      have s0 : A.tmps.getD 19 undef = .pointer (some ⟨bx, 0, none⟩) := hJ 2 19 (by kernel_rfl) (by kernel_rfl)
      simp at s0
      rw [if_pos (by rfl)]
      clear hs hJ
      go_simp
      exact hK _ _ (Below.refl _ _) rfl
    refine grow.EachL.cons ?_ ?_
    · intro A W hB hs hJ K hK
      have s0 : A.tmps.getD 20 undef = .pointer (some ⟨bx, 0, none⟩) := hJ 3 20 (by kernel_rfl) (by kernel_rfl)
      simp at s0
      rw [if_pos (by rfl)]
      clear hs hJ
      go_simp
      exact hK _ _ (Below.refl _ _) rfl
    refine grow.EachL.cons ?_ ?_
    · intro A W hB hs hJ K hK
      have s0 : A.tmps.getD 21 undef = .pointer (some ⟨bx, 0, none⟩) := hJ 4 21 (by kernel_rfl) (by kernel_rfl)
      simp at s0
      have kk0 := upc hB kx0
      rw [if_pos (by rfl)]
      clear hs hJ
      go_simp
      exact hK _ _ (Below.refl _ _) rfl
    refine grow.EachL.cons ?_ ?_
    · intro A W hB hs hJ K hK
      have s0 := hs 6 (by kernel_rfl)
      simp at s0
      rw [if_pos (by rfl)]
      clear hs hJ
      go_simp
      exact hK _ _ (Below.refl _ _) rfl
    refine grow.EachL.cons ?_ ?_
    · intro A W hB hs hJ K hK
      have s0 : A.tmps.getD 18 undef = .pointer p := hJ 1 18 (by kernel_rfl) (by kernel_rfl)
      simp at s0
      have s1 : A.tmps.getD 22 undef = .int .i64 x := hJ 5 22 (by kernel_rfl) (by kernel_rfl)
      simp at s1
      have s2 : A.tmps.getD 23 undef = .pointer b := hJ 6 23 (by kernel_rfl) (by kernel_rfl)
      simp at s2
      rw [if_pos (by rfl)]
      clear hs hJ
      go_simp
      go_at_call 110
      refine (link_any B W p t x b u2 (szle hB HBw.out) (Hh.out.up hB) (J2.out.up hB) (by omega)).mono ?_
      rintro e W2 ⟨q, u, rfl, i3, j3, hbn⟩
      exact hK _ _ hbn ⟨q, u, rfl, i3, j3⟩
    refine grow.EachL.cons ?_ ?_
    · intro A W hB hs hJ K hK
      obtain ⟨q, u, s0, i3, j3⟩ := hJ 7 24 (by kernel_rfl) (by kernel_rfl)
      simp at s0
      rw [if_pos (by rfl)]
      clear hs hJ
      go_simp
      exact hK _ _ (Below.refl _ _) ⟨q, u, rfl, i3, j3⟩
    exact grow.EachL.nil
  case fin =>
    intro f W hB hF
    have f0 : f 0 = .pointer (some ⟨w.heap.size, 0, none⟩) := hF 0 (by decide)
    have f1 : f 1 = .pointer p := hF 1 (by decide)
    have f2 : f 2 = .pointer (some ⟨bx, 0, none⟩) := hF 2 (by decide)
    have f3 : f 3 = .pointer (some ⟨bx, 0, none⟩) := hF 3 (by decide)
    have f4 : f 4 = .pointer (some ⟨bx, 0, none⟩) := hF 4 (by decide)
    have f5 : f 5 = .int .i64 x := hF 5 (by decide)
    have f6 : f 6 = .pointer b := hF 6 (by decide)
    obtain ⟨q_7, u_7, f7, i3_7, j3_7⟩ := hF 7 (by decide)
    obtain ⟨q_8, u_8, f8, i3_8, j3_8⟩ := hF 8 (by decide)
    clear hF
    intro A hA
    simp only [grow.puts, Act.put, List.getElem?_toArray, List.getElem?_cons_zero, List.getElem?_cons_succ, Option.bind_some, List.setIfInBounds_toArray, List.set_cons_zero, List.set_cons_succ, f0, f1, f2, f3, f4, f5, f6, f7, f8] at hA
    subst hA
    have hk2 := upb hB K1.out
    have c1 := cell_of_one hk2
    have f1 := free_of_one hk2
    have I3 := Lib.hid i3_8
    have J3 := Lib.hid j3_8
    have K2 := Lib.hid hk2
    have Hb2 := Lib.hid (belowTrans Hb.out hB)
    clear hk2 hB
    go_simp
    go_wp2_with fail
    have hr1 := one_setCell (u := .pointer q_8) K2.out
    have e1 := cell_of_one hr1
    refine bodyPost_ret (v := .agg #[.pointer q_8]) (by simp [results, Try.results73, go_sem, e1]) rfl ⟨q_8, u_8, rfl, I3.out.of ?_ ?_, Holds.store1 J3.out K2.out (by decide), Hb2.out.setCell (p := ⟨w.heap.size + 1 + 1, 0, none⟩) (by show w.heap.size ≤ w.heap.size + 1 + 1; omega) _⟩
    · rw [I2.out.1, ← HX.out.1]; rfl
    · rw [HU.out]; omega
theorem Join_any' (B : Nat) (w : World) (p pu : Option Addr) (t tu : BT V) (hB : B ≤ w.heap.size) (h : In B w p t) (hu : In B w pu tu) (hs : t.size + tu.size ≤ 1152921504606820000) :
    Calls Try.prog 73 #[.agg #[.pointer p], .agg #[.pointer pu]] w (RetM B w (Is (t.inorder ++ tu.inorder) (t.size + tu.size))) := by
  by_cases hne : 0 < tu.size
  · exact Join_some B w p pu t tu hB h hu hne hs
  · cases tu with
    | node x l r => simp only [BT.size] at hne; omega
    | nil =>
      obtain rfl : pu = none := hu
      have e : t.inorder ++ (BT.nil : BT V).inorder = t.inorder := by simp [BT.inorder]
      rw [e]
      exact Join_nil B w p t h
end Go.Proofs.Ytnigadnjppeckaa.manyO
