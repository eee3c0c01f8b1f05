/- Package seg: pull. (Printed by sg.py.) -/
import Derived.Test.YtnnpeblpdkeffaaSegW
import Derived.Test.YtnnpeblpdkeffaaGrowR
namespace Go.Proofs.Ytnnpeblpdkeffaa.seg
open Go.RowKit Go

def atP (P : PF) (a : Nat) (x y z : Int) : PF := updP P a ⟨x, y, z, (P a).put, (P a).what, (P a).more⟩
theorem atP_self (P : PF) (a : Nat) : atP P a (P a).sum (P a).least (P a).most = P := by
  funext j
  by_cases h : j = a
  · subst h; simp [atP, updP]
  · simp [atP, updP, h]
/-- the sum, the least and the most of a part may change -/
structure PR (s pb M n a : Nat) (P : PF) (W W' : World) : Prop where
  on : On pb W W'
  sm : ∀ x y z, SM s pb M n (atP P a x y z) W → ∃ x' y' z', SM s pb M n (atP P a x' y' z') W'
theorem PR.now {s pb M n a : Nat} {P : PF} {W W' : World} (h : PR s pb M n a P W W') (hs : SM s pb M n P W) : ∃ x y z, SM s pb M n (atP P a x y z) W' := h.sm _ _ _ (by rw [atP_self]; exact hs)
theorem PR.refl {s pb M n a : Nat} {P : PF} (W : World) : PR s pb M n a P W W := ⟨On.refl _ _, fun x y z h => ⟨x, y, z, h⟩⟩
theorem PR.trans {s pb M n a : Nat} {P : PF} (u v x : World) (h : PR s pb M n a P u v) (k : PR s pb M n a P v x) : PR s pb M n a P u x :=
  ⟨h.on.trans k.on, fun p q r hs => by obtain ⟨p', q', r', h'⟩ := h.sm p q r hs; exact k.sm p' q' r' h'⟩
theorem PR.of {s pb M n a : Nat} {P : PF} {W W' : World} (h : Below W.heap.size W W') : PR s pb M n a P W W' := ⟨On.below h, fun x y z hs => ⟨x, y, z, hs.below h⟩⟩
theorem PR.cell {s pb M n a : Nat} {P : PF} {W W' : World} (h : PR s pb M n a P W W') {b o : Nat} {v : Value} (hn : b ≠ pb) (hl : b < W.heap.size) (hc : W.cell? ⟨b, o, none⟩ = some v) : W'.cell? ⟨b, o, none⟩ = some v := by
  unfold World.cell? at hc ⊢
  rw [h.on.block b hl hn]
  exact hc
theorem atP_eq (P : PF) (a : Nat) (x y z x' y' z' : Int) : updP (atP P a x y z) a { atP P a x y z a with sum := x', least := y', most := z' } = atP P a x' y' z' := by
  funext j
  by_cases h : j = a
  · subst h; simp [atP, updP]
  · simp [atP, updP, h]
theorem PR.set0 {s pb M n a : Nat} {P : PF} {W : World} (ha : a < M) (u : Int) : PR s pb M n a P W (W.setCell ⟨pb, a * 6, none⟩ (.int .i64 u)) :=
  ⟨On.set _ _ _ _, fun x y z h => ⟨u, y, z, by
    have := h.setSum ha u
    rw [← atP_eq P a x y z u y z]
    simpa [atP, updP] using this⟩⟩
theorem PR.set1 {s pb M n a : Nat} {P : PF} {W : World} (ha : a < M) (u : Int) : PR s pb M n a P W (W.setCell ⟨pb, a * 6 + 1, none⟩ (.int .i64 u)) :=
  ⟨On.set _ _ _ _, fun x y z h => ⟨x, u, z, by
    have := h.setLeast ha u
    rw [← atP_eq P a x y z x u z]
    simpa [atP, updP] using this⟩⟩
theorem PR.set2 {s pb M n a : Nat} {P : PF} {W : World} (ha : a < M) (u : Int) : PR s pb M n a P W (W.setCell ⟨pb, a * 6 + 2, none⟩ (.int .i64 u)) :=
  ⟨On.set _ _ _ _, fun x y z h => ⟨x, y, u, by
    have := h.setMost ha u
    rw [← atP_eq P a x y z x y u]
    simpa [atP, updP] using this⟩⟩
/-- what a call leaves behind that reckons a part's sum anew -/
def RetU (s pb M n a : Nat) (P : PF) (w : World) (e : Ending) (w' : World) : Prop := e = .returned (.tuple #[]) ∧ (∃ x y z : Int, SM s pb M n (atP P a x y z) w') ∧ On pb w w'
theorem six_cells {w : World} {b t : Nat} {v0 v1 v2 v3 v4 v5 : Value} (h : w.heap[b]? = some (.cells #[v0, v1, v2, v3, v4, v5] t (0, 0))) :
    w.cell? ⟨b, 0, none⟩ = some v0 ∧ w.cell? ⟨b, 1, none⟩ = some v1 ∧ w.cell? ⟨b, 2, none⟩ = some v2 := by
  refine ⟨?_, ?_, ?_⟩ <;> simp [World.cell?, h]
set_option maxRecDepth 100000 in
set_option maxHeartbeats 4000000 in
theorem pull_at (s pb M n a a2 a3 : Nat) (P : PF) (w : World) (h2 : a2 = 2 * a) (h3 : a3 = 2 * a + 1) (h : SM s pb M n P w) (ha : a3 < M) (hM : M ≤ 20000) :
    Calls Try.prog 26 #[.pointer (some ⟨s, 0, none⟩), .int .i64 a] w (RetU s pb M n a P w) := by
  obtain ⟨h0, h1⟩ := h.head
  obtain ⟨c0, c1, c2, c3, c4, c5⟩ := h.cells (show a2 < M by omega)
  obtain ⟨d0, d1, d2, d3, d4, d5⟩ := h.cells ha
  have ha0 : (0 : Int) ≤ (a : Int) := by omega
  have ha1 : (a : Int) < (M : Int) := by omega
  have e1 : (2 : Int) * (a : Int) = (a2 : Int) := by omega
  have e3 : (a2 : Int) + 1 = (a3 : Int) := by omega
  have b1 : (0 : Int) ≤ (a2 : Int) := by omega
  have b2 : (a2 : Int) < (M : Int) := by omega
  have b3 : (0 : Int) ≤ (a3 : Int) := by omega
  have b6 : (a3 : Int) < (M : Int) := by omega
  have r1 : IntKind.i64.wrap (a2 : Int) = (a2 : Int) := by rw [IntKind.wrap_i64]; omega
  have r3 : IntKind.i64.wrap (a3 : Int) = (a3 : Int) := by rw [IntKind.wrap_i64]; omega
  have l1 : s < w.heap.size := (Array.getElem?_eq_some_iff.1 h.hs).1
  have l2 : pb < w.heap.size := by obtain ⟨cur, hc, _⟩ := h.hp; exact (Array.getElem?_eq_some_iff.1 hc).1
  have H := Lib.hid h
  have HA := Lib.hid (show a < M by omega)
  clear h h2 h3 h0
  go_enter Try.func26, Try.ntmps26
  go_wp2_with fail
  go_region
  · obtain ⟨W0, hW⟩ : ∃ W0, W0 = ((w.alloc (.cells #[.int .i64 (P a2).sum, .int .i64 (P a2).least, .int .i64 (P a2).most, .bool (P a2).put, .int .i64 (P a2).what, .int .i64 (P a2).more] 55)).alloc (.cells #[.int .i64 (P a3).sum, .int .i64 (P a3).least, .int .i64 (P a3).most, .bool (P a3).put, .int .i64 (P a3).what, .int .i64 (P a3).more] 55)).drew := ⟨_, rfl⟩
    rw [← hW]
    obtain ⟨b5, hb5⟩ : ∃ b5, b5 = w.heap.size + 1 := ⟨_, rfl⟩
    rw [← hb5]
    obtain ⟨b4, hb4⟩ : ∃ b4, b4 = w.heap.size := ⟨_, rfl⟩
    rw [← hb4]
    have hb : Below w.heap.size w W0 := by rw [hW]; exact belowTrans (belowTrans (belowAlloc _ _) (belowAlloc _ _)) (belowDrew _)
    have k4 : W0.heap[b4]? = some (.cells #[.int .i64 (P a2).sum, .int .i64 (P a2).least, .int .i64 (P a2).most, .bool (P a2).put, .int .i64 (P a2).what, .int .i64 (P a2).more] 55 (0, 0)) := by rw [hW, hb4]; exact heapNew1 _ _ _
    have k5 : W0.heap[b5]? = some (.cells #[.int .i64 (P a3).sum, .int .i64 (P a3).least, .int .i64 (P a3).most, .bool (P a3).put, .int .i64 (P a3).what, .int .i64 (P a3).more] 55 (0, 0)) := by rw [hW, hb5]; exact heapNew2 _ _ _
    obtain ⟨u0, u1, u2⟩ := six_cells k4
    obtain ⟨v0, v1, v2⟩ := six_cells k5
    obtain ⟨x2, ex2⟩ : ∃ x2, x2 = (P a2).sum := ⟨_, rfl⟩
    obtain ⟨x3, ex3⟩ : ∃ x3, x3 = (P a3).sum := ⟨_, rfl⟩
    obtain ⟨y2, ey2⟩ : ∃ y2, y2 = (P a2).least := ⟨_, rfl⟩
    obtain ⟨y3, ey3⟩ : ∃ y3, y3 = (P a3).least := ⟨_, rfl⟩
    obtain ⟨z2, ez2⟩ : ∃ z2, z2 = (P a2).most := ⟨_, rfl⟩
    obtain ⟨z3, ez3⟩ : ∃ z3, z3 = (P a3).most := ⟨_, rfl⟩
    rw [← ex2] at u0
    rw [← ey2] at u1
    rw [← ez2] at u2
    rw [← ex3] at v0
    rw [← ey3] at v1
    rw [← ez3] at v2
    have n4 : b4 ≠ pb := by omega
    have n5 : b5 ≠ pb := by omega
    have l4 : b4 < W0.heap.size := (Array.getElem?_eq_some_iff.1 k4).1
    have l5 : b5 < W0.heap.size := (Array.getElem?_eq_some_iff.1 k5).1
    have hS := H.out.below hb
    obtain ⟨_, g1⟩ := hS.head
    have aM := HA.out
    have aM1 : (a : Int) < (M : Int) := by omega
    have HS := Lib.hid hS
    have HO := Lib.hid (On.below (pb := pb) hb)
    clear hW hS hb k4 k5 h1 c0 c1 c2 c3 c4 c5 d0 d1 d2 d3 d4 d5 e1 e3 b1 b2 b3 r1 r3 H hb4 hb5 ex2 ex3 ey2 ey3 ez2 ez3 l1 l2
    go_wp2_with fail
    refine grow.wp_grow_rel (PR s pb M n a P) PR.trans (fun u => .of (belowDrew u)) [grow.rEq (.pointer (some ⟨pb, a * 6, none⟩)), grow.rEq (.pointer (some ⟨pb, a * 6, none⟩)), grow.rEq (.pointer (some ⟨pb, a * 6, none⟩)), grow.rEq (.pointer (some ⟨b4, 0, none⟩)), grow.rEq (.int .i64 x2), grow.rEq (.pointer (some ⟨b5, 0, none⟩)), grow.rEq (.int .i64 x3), grow.rEq (.int .i64 (IntKind.i64.wrap (x2 + x3))), grow.rEq (.pointer (some ⟨b4, 1, none⟩)), grow.rEq (.int .i64 y2), grow.rEq (.pointer (some ⟨b5, 1, none⟩)), grow.rEq (.int .i64 y3), grow.rEq (.int .i64 (if y3 < y2 then y3 else y2)), grow.rEq (.pointer (some ⟨b4, 2, none⟩)), grow.rEq (.int .i64 z2), grow.rEq (.pointer (some ⟨b5, 2, none⟩)), grow.rEq (.int .i64 z3), grow.rEq (.int .i64 (if z2 < z3 then z3 else z2)), grow.rEq (.pointer (some ⟨pb, a * 6, none⟩)), grow.rEq (.pointer (some ⟨pb, a * 6, none⟩)), grow.rAny, grow.rEq (.pointer (some ⟨pb, a * 6, none⟩)), grow.rEq (.pointer (some ⟨pb, a * 6 + 1, none⟩)), grow.rAny, grow.rEq (.pointer (some ⟨pb, a * 6, none⟩)), grow.rEq (.pointer (some ⟨pb, a * 6 + 2, none⟩)), grow.rAny] (by kernel_rfl) (by kernel_rfl) (by kernel_rfl) (by kernel_rfl) ?monoR ?step ?fin
    case monoR =>
      refine grow.monoR_of ?_
      intro i hi
      match i, hi with
      | 0, _ => exact fun _ _ _ _ h => h
      | 1, _ => exact fun _ _ _ _ h => h
      | 2, _ => exact fun _ _ _ _ h => h
      | 3, _ => exact fun _ _ _ _ h => h
      | 4, _ => exact fun _ _ _ _ h => h
      | 5, _ => exact fun _ _ _ _ h => h
      | 6, _ => exact fun _ _ _ _ h => h
      | 7, _ => exact fun _ _ _ _ h => h
      | 8, _ => exact fun _ _ _ _ h => h
      | 9, _ => exact fun _ _ _ _ h => h
      | 10, _ => exact fun _ _ _ _ h => h
      | 11, _ => exact fun _ _ _ _ h => h
      | 12, _ => exact fun _ _ _ _ h => h
      | 13, _ => exact fun _ _ _ _ h => h
      | 14, _ => exact fun _ _ _ _ h => h
      | 15, _ => exact fun _ _ _ _ h => h
      | 16, _ => exact fun _ _ _ _ h => h
      | 17, _ => exact fun _ _ _ _ h => h
      | 18, _ => exact fun _ _ _ _ h => h
      | 19, _ => exact fun _ _ _ _ h => h
      | 20, _ => exact fun _ _ _ _ _ => trivial
      | 21, _ => exact fun _ _ _ _ h => h
      | 22, _ => exact fun _ _ _ _ h => h
      | 23, _ => exact fun _ _ _ _ _ => trivial
      | 24, _ => exact fun _ _ _ _ h => h
      | 25, _ => exact fun _ _ _ _ h => h
      | 26, _ => exact fun _ _ _ _ _ => trivial
      | i + 27, hi => simp at hi; omega
    case step =>
      refine grow.EachR.cons ?_ ?_
      · intro A W hB hs hJ K hK
        have s0 := hs 6 (by kernel_rfl)
        simp at s0
        rw [if_pos (by rfl)]
        clear hs hJ
        go_simp
        exact hK _ _ (.refl _) rfl
      refine grow.EachR.cons ?_ ?_
      · intro A W hB hs hJ K hK
        have s0 := hs 6 (by kernel_rfl)
        simp at s0
        rw [if_pos (by rfl)]
        clear hs hJ
        go_simp
        exact hK _ _ (.refl _) rfl
      refine grow.EachR.cons ?_ ?_
      · intro A W hB hs hJ K hK
        have s0 := hs 6 (by kernel_rfl)
        simp at s0
        rw [if_pos (by rfl)]
        clear hs hJ
        go_simp
        exact hK _ _ (.refl _) rfl
      refine grow.EachR.cons ?_ ?_
      · intro A W hB hs hJ K hK
        have s0 := hs 4 (by kernel_rfl)
        simp at s0
        rw [if_pos (by rfl)]
        clear hs hJ
        go_simp
        exact hK _ _ (.refl _) rfl
      refine grow.EachR.cons ?_ ?_
      · intro A W hB hs hJ K hK
        have s0 : A.tmps.getD 33 undef = .pointer (some ⟨b4, 0, none⟩) := hJ 3 33 (by kernel_rfl) (by kernel_rfl)
        simp at s0
        have kk := hB.cell n4 l4 u0
        rw [if_pos (by rfl)]
        clear hs hJ
        go_simp
        exact hK _ _ (.refl _) rfl
      refine grow.EachR.cons ?_ ?_
      · intro A W hB hs hJ K hK
        have s0 := hs 5 (by kernel_rfl)
        simp at s0
        rw [if_pos (by rfl)]
        clear hs hJ
        go_simp
        exact hK _ _ (.refl _) rfl
      refine grow.EachR.cons ?_ ?_
      · intro A W hB hs hJ K hK
        have s0 : A.tmps.getD 35 undef = .pointer (some ⟨b5, 0, none⟩) := hJ 5 35 (by kernel_rfl) (by kernel_rfl)
        simp at s0
        have kk := hB.cell n5 l5 v0
        rw [if_pos (by rfl)]
        clear hs hJ
        go_simp
        exact hK _ _ (.refl _) rfl
      refine grow.EachR.cons ?_ ?_
      · intro A W hB hs hJ K hK
        have s0 : A.tmps.getD 34 undef = .int .i64 x2 := hJ 4 34 (by kernel_rfl) (by kernel_rfl)
        simp at s0
        have s1 : A.tmps.getD 36 undef = .int .i64 x3 := hJ 6 36 (by kernel_rfl) (by kernel_rfl)
        simp at s1
        rw [if_pos (by rfl)]
        clear hs hJ
        go_simp
        exact hK _ _ (.refl _) rfl
      refine grow.EachR.cons ?_ ?_
      · intro A W hB hs hJ K hK
        have s0 := hs 4 (by kernel_rfl)
        simp at s0
        rw [if_pos (by rfl)]
        clear hs hJ
        go_simp
        exact hK _ _ (.refl _) rfl
      refine grow.EachR.cons ?_ ?_
      · intro A W hB hs hJ K hK
        have s0 : A.tmps.getD 38 undef = .pointer (some ⟨b4, 1, none⟩) := hJ 8 38 (by kernel_rfl) (by kernel_rfl)
        simp at s0
        have kk := hB.cell n4 l4 u1
        rw [if_pos (by rfl)]
        clear hs hJ
        go_simp
        exact hK _ _ (.refl _) rfl
      refine grow.EachR.cons ?_ ?_
      · intro A W hB hs hJ K hK
        have s0 := hs 5 (by kernel_rfl)
        simp at s0
        rw [if_pos (by rfl)]
        clear hs hJ
        go_simp
        exact hK _ _ (.refl _) rfl
      refine grow.EachR.cons ?_ ?_
      · intro A W hB hs hJ K hK
        have s0 : A.tmps.getD 40 undef = .pointer (some ⟨b5, 1, none⟩) := hJ 10 40 (by kernel_rfl) (by kernel_rfl)
        simp at s0
        have kk := hB.cell n5 l5 v1
        rw [if_pos (by rfl)]
        clear hs hJ
        go_simp
        exact hK _ _ (.refl _) rfl
      refine grow.EachR.cons ?_ ?_
      · intro A W hB hs hJ K hK
        have s0 : A.tmps.getD 39 undef = .int .i64 y2 := hJ 9 39 (by kernel_rfl) (by kernel_rfl)
        simp at s0
        have s1 : A.tmps.getD 41 undef = .int .i64 y3 := hJ 11 41 (by kernel_rfl) (by kernel_rfl)
        simp at s1
        rw [if_pos (by rfl)]
        clear hs hJ
        go_simp
        exact hK _ _ (.refl _) rfl
      refine grow.EachR.cons ?_ ?_
      · intro A W hB hs hJ K hK
        have s0 := hs 4 (by kernel_rfl)
        simp at s0
        rw [if_pos (by rfl)]
        clear hs hJ
        go_simp
        exact hK _ _ (.refl _) rfl
      refine grow.EachR.cons ?_ ?_
      · intro A W hB hs hJ K hK
        have s0 : A.tmps.getD 43 undef = .pointer (some ⟨b4, 2, none⟩) := hJ 13 43 (by kernel_rfl) (by kernel_rfl)
        simp at s0
        have kk := hB.cell n4 l4 u2
        rw [if_pos (by rfl)]
        clear hs hJ
        go_simp
        exact hK _ _ (.refl _) rfl
      refine grow.EachR.cons ?_ ?_
      · intro A W hB hs hJ K hK
        have s0 := hs 5 (by kernel_rfl)
        simp at s0
        rw [if_pos (by rfl)]
        clear hs hJ
        go_simp
        exact hK _ _ (.refl _) rfl
      refine grow.EachR.cons ?_ ?_
      · intro A W hB hs hJ K hK
        have s0 : A.tmps.getD 45 undef = .pointer (some ⟨b5, 2, none⟩) := hJ 15 45 (by kernel_rfl) (by kernel_rfl)
        simp at s0
        have kk := hB.cell n5 l5 v2
        rw [if_pos (by rfl)]
        clear hs hJ
        go_simp
        exact hK _ _ (.refl _) rfl
      refine grow.EachR.cons ?_ ?_
      · intro A W hB hs hJ K hK
        have s0 : A.tmps.getD 44 undef = .int .i64 z2 := hJ 14 44 (by kernel_rfl) (by kernel_rfl)
        simp at s0
        have s1 : A.tmps.getD 46 undef = .int .i64 z3 := hJ 16 46 (by kernel_rfl) (by kernel_rfl)
        simp at s1
        rw [if_pos (by rfl)]
        clear hs hJ
        go_simp
        exact hK _ _ (.refl _) rfl
      refine grow.EachR.cons ?_ ?_
      · intro A W hB hs hJ K hK
        have s0 : A.tmps.getD 30 undef = .pointer (some ⟨pb, a * 6, none⟩) := hJ 0 30 (by kernel_rfl) (by kernel_rfl)
        simp at s0
        rw [if_pos (by rfl)]
        clear hs hJ
        go_simp
        exact hK _ _ (.refl _) rfl
      refine grow.EachR.cons ?_ ?_
      · intro A W hB hs hJ K hK
        have s0 : A.tmps.getD 48 undef = .pointer (some ⟨pb, a * 6, none⟩) := hJ 18 48 (by kernel_rfl) (by kernel_rfl)
        simp at s0
        rw [if_pos (by rfl)]
        clear hs hJ
        go_simp
        exact hK _ _ (.refl _) rfl
      refine grow.EachR.cons ?_ ?_
      · intro A W hB hs hJ K hK
        have s0 : A.tmps.getD 49 undef = .pointer (some ⟨pb, a * 6, none⟩) := hJ 19 49 (by kernel_rfl) (by kernel_rfl)
        simp at s0
        have s1 : A.tmps.getD 37 undef = .int .i64 (IntKind.i64.wrap (x2 + x3)) := hJ 7 37 (by kernel_rfl) (by kernel_rfl)
        simp at s1
        obtain ⟨x, y, z, hx⟩ := hB.now HS.out
        obtain ⟨q0, q1, q2, _⟩ := hx.cells aM
        have f0 := hx.free (a * 6)
        have f1 := hx.free (a * 6 + 1)
        have f2 := hx.free (a * 6 + 2)
        have HX := Lib.hid hx
        clear hx
        rw [if_pos (by rfl)]
        clear hs hJ
        go_simp
        exact hK undef _ (PR.set0 aM _) trivial
      refine grow.EachR.cons ?_ ?_
      · intro A W hB hs hJ K hK
        have s0 : A.tmps.getD 31 undef = .pointer (some ⟨pb, a * 6, none⟩) := hJ 1 31 (by kernel_rfl) (by kernel_rfl)
        simp at s0
        rw [if_pos (by rfl)]
        clear hs hJ
        go_simp
        exact hK _ _ (.refl _) rfl
      refine grow.EachR.cons ?_ ?_
      · intro A W hB hs hJ K hK
        have s0 : A.tmps.getD 50 undef = .pointer (some ⟨pb, a * 6, none⟩) := hJ 21 50 (by kernel_rfl) (by kernel_rfl)
        simp at s0
        rw [if_pos (by rfl)]
        clear hs hJ
        go_simp
        exact hK _ _ (.refl _) rfl
      refine grow.EachR.cons ?_ ?_
      · intro A W hB hs hJ K hK
        have s0 : A.tmps.getD 51 undef = .pointer (some ⟨pb, a * 6 + 1, none⟩) := hJ 22 51 (by kernel_rfl) (by kernel_rfl)
        simp at s0
        have s1 : A.tmps.getD 42 undef = .int .i64 (if y3 < y2 then y3 else y2) := hJ 12 42 (by kernel_rfl) (by kernel_rfl)
        simp at s1
        obtain ⟨x, y, z, hx⟩ := hB.now HS.out
        obtain ⟨q0, q1, q2, _⟩ := hx.cells aM
        have f0 := hx.free (a * 6)
        have f1 := hx.free (a * 6 + 1)
        have f2 := hx.free (a * 6 + 2)
        have HX := Lib.hid hx
        clear hx
        rw [if_pos (by rfl)]
        clear hs hJ
        go_simp
        exact hK undef _ (PR.set1 aM _) trivial
      refine grow.EachR.cons ?_ ?_
      · intro A W hB hs hJ K hK
        have s0 : A.tmps.getD 32 undef = .pointer (some ⟨pb, a * 6, none⟩) := hJ 2 32 (by kernel_rfl) (by kernel_rfl)
        simp at s0
        rw [if_pos (by rfl)]
        clear hs hJ
        go_simp
        exact hK _ _ (.refl _) rfl
      refine grow.EachR.cons ?_ ?_
      · intro A W hB hs hJ K hK
        have s0 : A.tmps.getD 52 undef = .pointer (some ⟨pb, a * 6, none⟩) := hJ 24 52 (by kernel_rfl) (by kernel_rfl)
        simp at s0
        rw [if_pos (by rfl)]
        clear hs hJ
        go_simp
        exact hK _ _ (.refl _) rfl
      refine grow.EachR.cons ?_ ?_
      · intro A W hB hs hJ K hK
        have s0 : A.tmps.getD 53 undef = .pointer (some ⟨pb, a * 6 + 2, none⟩) := hJ 25 53 (by kernel_rfl) (by kernel_rfl)
        simp at s0
        have s1 : A.tmps.getD 47 undef = .int .i64 (if z2 < z3 then z3 else z2) := hJ 17 47 (by kernel_rfl) (by kernel_rfl)
        simp at s1
        obtain ⟨x, y, z, hx⟩ := hB.now HS.out
        obtain ⟨q0, q1, q2, _⟩ := hx.cells aM
        have f0 := hx.free (a * 6)
        have f1 := hx.free (a * 6 + 1)
        have f2 := hx.free (a * 6 + 2)
        have HX := Lib.hid hx
        clear hx
        rw [if_pos (by rfl)]
        clear hs hJ
        go_simp
        exact hK undef _ (PR.set2 aM _) trivial
      exact grow.EachR.nil
    case fin =>
      intro f W hB hF
      have f0 : f 0 = .pointer (some ⟨pb, a * 6, none⟩) := hF 0 (by decide)
      have f1 : f 1 = .pointer (some ⟨pb, a * 6, none⟩) := hF 1 (by decide)
      have f2 : f 2 = .pointer (some ⟨pb, a * 6, none⟩) := hF 2 (by decide)
      have f3 : f 3 = .pointer (some ⟨b4, 0, none⟩) := hF 3 (by decide)
      have f4 : f 4 = .int .i64 x2 := hF 4 (by decide)
      have f5 : f 5 = .pointer (some ⟨b5, 0, none⟩) := hF 5 (by decide)
      have f6 : f 6 = .int .i64 x3 := hF 6 (by decide)
      have f7 : f 7 = .int .i64 (IntKind.i64.wrap (x2 + x3)) := hF 7 (by decide)
      have f8 : f 8 = .pointer (some ⟨b4, 1, none⟩) := hF 8 (by decide)
      have f9 : f 9 = .int .i64 y2 := hF 9 (by decide)
      have f10 : f 10 = .pointer (some ⟨b5, 1, none⟩) := hF 10 (by decide)
      have f11 : f 11 = .int .i64 y3 := hF 11 (by decide)
      have f12 : f 12 = .int .i64 (if y3 < y2 then y3 else y2) := hF 12 (by decide)
      have f13 : f 13 = .pointer (some ⟨b4, 2, none⟩) := hF 13 (by decide)
      have f14 : f 14 = .int .i64 z2 := hF 14 (by decide)
      have f15 : f 15 = .pointer (some ⟨b5, 2, none⟩) := hF 15 (by decide)
      have f16 : f 16 = .int .i64 z3 := hF 16 (by decide)
      have f17 : f 17 = .int .i64 (if z2 < z3 then z3 else z2) := hF 17 (by decide)
      have f18 : f 18 = .pointer (some ⟨pb, a * 6, none⟩) := hF 18 (by decide)
      have f19 : f 19 = .pointer (some ⟨pb, a * 6, none⟩) := hF 19 (by decide)
      have hst20 := hF 20 (by decide)
      have f21 : f 21 = .pointer (some ⟨pb, a * 6, none⟩) := hF 21 (by decide)
      have f22 : f 22 = .pointer (some ⟨pb, a * 6 + 1, none⟩) := hF 22 (by decide)
      have hst23 := hF 23 (by decide)
      have f24 : f 24 = .pointer (some ⟨pb, a * 6, none⟩) := hF 24 (by decide)
      have f25 : f 25 = .pointer (some ⟨pb, a * 6 + 2, none⟩) := hF 25 (by decide)
      have hst26 := hF 26 (by decide)
      clear hF
      intro A hA
      simp only [List.length_cons, List.length_nil, Nat.reduceAdd, grow.puts, Act.put, List.getElem?_toArray, List.getElem?_cons_zero, List.getElem?_cons_succ, Option.bind_some, List.setIfInBounds_toArray, List.set_cons_zero, List.set_cons_succ, f0, f1, f2, f3, f4, f5, f6, f7, f8, f9, f10, f11, f12, f13, f14, f15, f16, f17, f18, f19, f21, f22, f24, f25] at hA
      subst hA
      have hb9 := hB.now HS.out
      have ho9 := hB.on
      have H9 := Lib.hid (And.intro hb9 ho9)
      clear hb9 ho9 hst20 hst23 hst26 hB
      go_wp2_with fail
      all_goals
        go_end0
        exact ⟨rfl, H9.out.1, HO.out.trans H9.out.2⟩
  · obtain ⟨W0, hW⟩ : ∃ W0, W0 = ((w.alloc (.cells #[.int .i64 (P a3).sum, .int .i64 (P a3).least, .int .i64 (P a3).most, .bool (P a3).put, .int .i64 (P a3).what, .int .i64 (P a3).more] 55)).alloc (.cells #[.int .i64 (P a2).sum, .int .i64 (P a2).least, .int .i64 (P a2).most, .bool (P a2).put, .int .i64 (P a2).what, .int .i64 (P a2).more] 55)).drew := ⟨_, rfl⟩
    rw [← hW]
    obtain ⟨b4, hb4⟩ : ∃ b4, b4 = w.heap.size + 1 := ⟨_, rfl⟩
    rw [← hb4]
    obtain ⟨b5, hb5⟩ : ∃ b5, b5 = w.heap.size := ⟨_, rfl⟩
    rw [← hb5]
    have hb : Below w.heap.size w W0 := by rw [hW]; exact belowTrans (belowTrans (belowAlloc _ _) (belowAlloc _ _)) (belowDrew _)
    have k4 : W0.heap[b4]? = some (.cells #[.int .i64 (P a2).sum, .int .i64 (P a2).least, .int .i64 (P a2).most, .bool (P a2).put, .int .i64 (P a2).what, .int .i64 (P a2).more] 55 (0, 0)) := by rw [hW, hb4]; exact heapNew2 _ _ _
    have k5 : W0.heap[b5]? = some (.cells #[.int .i64 (P a3).sum, .int .i64 (P a3).least, .int .i64 (P a3).most, .bool (P a3).put, .int .i64 (P a3).what, .int .i64 (P a3).more] 55 (0, 0)) := by rw [hW, hb5]; exact heapNew1 _ _ _
    obtain ⟨u0, u1, u2⟩ := six_cells k4
    obtain ⟨v0, v1, v2⟩ := six_cells k5
    obtain ⟨x2, ex2⟩ : ∃ x2, x2 = (P a2).sum := ⟨_, rfl⟩
    obtain ⟨x3, ex3⟩ : ∃ x3, x3 = (P a3).sum := ⟨_, rfl⟩
    obtain ⟨y2, ey2⟩ : ∃ y2, y2 = (P a2).least := ⟨_, rfl⟩
    obtain ⟨y3, ey3⟩ : ∃ y3, y3 = (P a3).least := ⟨_, rfl⟩
    obtain ⟨z2, ez2⟩ : ∃ z2, z2 = (P a2).most := ⟨_, rfl⟩
    obtain ⟨z3, ez3⟩ : ∃ z3, z3 = (P a3).most := ⟨_, rfl⟩
    rw [← ex2] at u0
    rw [← ey2] at u1
    rw [← ez2] at u2
    rw [← ex3] at v0
    rw [← ey3] at v1
    rw [← ez3] at v2
    have n4 : b4 ≠ pb := by omega
    have n5 : b5 ≠ pb := by omega
    have l4 : b4 < W0.heap.size := (Array.getElem?_eq_some_iff.1 k4).1
    have l5 : b5 < W0.heap.size := (Array.getElem?_eq_some_iff.1 k5).1
    have hS := H.out.below hb
    obtain ⟨_, g1⟩ := hS.head
    have aM := HA.out
    have aM1 : (a : Int) < (M : Int) := by omega
    have HS := Lib.hid hS
    have HO := Lib.hid (On.below (pb := pb) hb)
    clear hW hS hb k4 k5 h1 c0 c1 c2 c3 c4 c5 d0 d1 d2 d3 d4 d5 e1 e3 b1 b2 b3 r1 r3 H hb4 hb5 ex2 ex3 ey2 ey3 ez2 ez3 l1 l2
    go_wp2_with fail
    refine grow.wp_grow_rel (PR s pb M n a P) PR.trans (fun u => .of (belowDrew u)) [grow.rEq (.pointer (some ⟨pb, a * 6, none⟩)), grow.rEq (.pointer (some ⟨pb, a * 6, none⟩)), grow.rEq (.pointer (some ⟨pb, a * 6, none⟩)), grow.rEq (.pointer (some ⟨b4, 0, none⟩)), grow.rEq (.int .i64 x2), grow.rEq (.pointer (some ⟨b5, 0, none⟩)), grow.rEq (.int .i64 x3), grow.rEq (.int .i64 (IntKind.i64.wrap (x2 + x3))), grow.rEq (.pointer (some ⟨b4, 1, none⟩)), grow.rEq (.int .i64 y2), grow.rEq (.pointer (some ⟨b5, 1, none⟩)), grow.rEq (.int .i64 y3), grow.rEq (.int .i64 (if y3 < y2 then y3 else y2)), grow.rEq (.pointer (some ⟨b4, 2, none⟩)), grow.rEq (.int .i64 z2), grow.rEq (.pointer (some ⟨b5, 2, none⟩)), grow.rEq (.int .i64 z3), grow.rEq (.int .i64 (if z2 < z3 then z3 else z2)), grow.rEq (.pointer (some ⟨pb, a * 6, none⟩)), grow.rEq (.pointer (some ⟨pb, a * 6, none⟩)), grow.rAny, grow.rEq (.pointer (some ⟨pb, a * 6, none⟩)), grow.rEq (.pointer (some ⟨pb, a * 6 + 1, none⟩)), grow.rAny, grow.rEq (.pointer (some ⟨pb, a * 6, none⟩)), grow.rEq (.pointer (some ⟨pb, a * 6 + 2, none⟩)), grow.rAny] (by kernel_rfl) (by kernel_rfl) (by kernel_rfl) (by kernel_rfl) ?monoR ?step ?fin
    case monoR =>
      refine grow.monoR_of ?_
      intro i hi
      match i, hi with
      | 0, _ => exact fun _ _ _ _ h => h
      | 1, _ => exact fun _ _ _ _ h => h
      | 2, _ => exact fun _ _ _ _ h => h
      | 3, _ => exact fun _ _ _ _ h => h
      | 4, _ => exact fun _ _ _ _ h => h
      | 5, _ => exact fun _ _ _ _ h => h
      | 6, _ => exact fun _ _ _ _ h => h
      | 7, _ => exact fun _ _ _ _ h => h
      | 8, _ => exact fun _ _ _ _ h => h
      | 9, _ => exact fun _ _ _ _ h => h
      | 10, _ => exact fun _ _ _ _ h => h
      | 11, _ => exact fun _ _ _ _ h => h
      | 12, _ => exact fun _ _ _ _ h => h
      | 13, _ => exact fun _ _ _ _ h => h
      | 14, _ => exact fun _ _ _ _ h => h
      | 15, _ => exact fun _ _ _ _ h => h
      | 16, _ => exact fun _ _ _ _ h => h
      | 17, _ => exact fun _ _ _ _ h => h
      | 18, _ => exact fun _ _ _ _ h => h
      | 19, _ => exact fun _ _ _ _ h => h
      | 20, _ => exact fun _ _ _ _ _ => trivial
      | 21, _ => exact fun _ _ _ _ h => h
      | 22, _ => exact fun _ _ _ _ h => h
      | 23, _ => exact fun _ _ _ _ _ => trivial
      | 24, _ => exact fun _ _ _ _ h => h
      | 25, _ => exact fun _ _ _ _ h => h
      | 26, _ => exact fun _ _ _ _ _ => trivial
      | i + 27, hi => simp at hi; omega
    case step =>
      refine grow.EachR.cons ?_ ?_
      · intro A W hB hs hJ K hK
        have s0 := hs 6 (by kernel_rfl)
        simp at s0
        rw [if_pos (by rfl)]
        clear hs hJ
        go_simp
        exact hK _ _ (.refl _) rfl
      refine grow.EachR.cons ?_ ?_
      · intro A W hB hs hJ K hK
        have s0 := hs 6 (by kernel_rfl)
        simp at s0
        rw [if_pos (by rfl)]
        clear hs hJ
        go_simp
        exact hK _ _ (.refl _) rfl
      refine grow.EachR.cons ?_ ?_
      · intro A W hB hs hJ K hK
        have s0 := hs 6 (by kernel_rfl)
        simp at s0
        rw [if_pos (by rfl)]
        clear hs hJ
        go_simp
        exact hK _ _ (.refl _) rfl
      refine grow.EachR.cons ?_ ?_
      · intro A W hB hs hJ K hK
        have s0 := hs 4 (by kernel_rfl)
        simp at s0
        rw [if_pos (by rfl)]
        clear hs hJ
        go_simp
        exact hK _ _ (.refl _) rfl
      refine grow.EachR.cons ?_ ?_
      · intro A W hB hs hJ K hK
        have s0 : A.tmps.getD 33 undef = .pointer (some ⟨b4, 0, none⟩) := hJ 3 33 (by kernel_rfl) (by kernel_rfl)
        simp at s0
        have kk := hB.cell n4 l4 u0
        rw [if_pos (by rfl)]
        clear hs hJ
        go_simp
        exact hK _ _ (.refl _) rfl
      refine grow.EachR.cons ?_ ?_
      · intro A W hB hs hJ K hK
        have s0 := hs 5 (by kernel_rfl)
        simp at s0
        rw [if_pos (by rfl)]
        clear hs hJ
        go_simp
        exact hK _ _ (.refl _) rfl
      refine grow.EachR.cons ?_ ?_
      · intro A W hB hs hJ K hK
        have s0 : A.tmps.getD 35 undef = .pointer (some ⟨b5, 0, none⟩) := hJ 5 35 (by kernel_rfl) (by kernel_rfl)
        simp at s0
        have kk := hB.cell n5 l5 v0
        rw [if_pos (by rfl)]
        clear hs hJ
        go_simp
        exact hK _ _ (.refl _) rfl
      refine grow.EachR.cons ?_ ?_
      · intro A W hB hs hJ K hK
        have s0 : A.tmps.getD 34 undef = .int .i64 x2 := hJ 4 34 (by kernel_rfl) (by kernel_rfl)
        simp at s0
        have s1 : A.tmps.getD 36 undef = .int .i64 x3 := hJ 6 36 (by kernel_rfl) (by kernel_rfl)
        simp at s1
        rw [if_pos (by rfl)]
        clear hs hJ
        go_simp
        exact hK _ _ (.refl _) rfl
      refine grow.EachR.cons ?_ ?_
      · intro A W hB hs hJ K hK
        have s0 := hs 4 (by kernel_rfl)
        simp at s0
        rw [if_pos (by rfl)]
        clear hs hJ
        go_simp
        exact hK _ _ (.refl _) rfl
      refine grow.EachR.cons ?_ ?_
      · intro A W hB hs hJ K hK
        have s0 : A.tmps.getD 38 undef = .pointer (some ⟨b4, 1, none⟩) := hJ 8 38 (by kernel_rfl) (by kernel_rfl)
        simp at s0
        have kk := hB.cell n4 l4 u1
        rw [if_pos (by rfl)]
        clear hs hJ
        go_simp
        exact hK _ _ (.refl _) rfl
      refine grow.EachR.cons ?_ ?_
      · intro A W hB hs hJ K hK
        have s0 := hs 5 (by kernel_rfl)
        simp at s0
        rw [if_pos (by rfl)]
        clear hs hJ
        go_simp
        exact hK _ _ (.refl _) rfl
      refine grow.EachR.cons ?_ ?_
      · intro A W hB hs hJ K hK
        have s0 : A.tmps.getD 40 undef = .pointer (some ⟨b5, 1, none⟩) := hJ 10 40 (by kernel_rfl) (by kernel_rfl)
        simp at s0
        have kk := hB.cell n5 l5 v1
        rw [if_pos (by rfl)]
        clear hs hJ
        go_simp
        exact hK _ _ (.refl _) rfl
      refine grow.EachR.cons ?_ ?_
      · intro A W hB hs hJ K hK
        have s0 : A.tmps.getD 39 undef = .int .i64 y2 := hJ 9 39 (by kernel_rfl) (by kernel_rfl)
        simp at s0
        have s1 : A.tmps.getD 41 undef = .int .i64 y3 := hJ 11 41 (by kernel_rfl) (by kernel_rfl)
        simp at s1
        rw [if_pos (by rfl)]
        clear hs hJ
        go_simp
        exact hK _ _ (.refl _) rfl
      refine grow.EachR.cons ?_ ?_
      · intro A W hB hs hJ K hK
        have s0 := hs 4 (by kernel_rfl)
        simp at s0
        rw [if_pos (by rfl)]
        clear hs hJ
        go_simp
        exact hK _ _ (.refl _) rfl
      refine grow.EachR.cons ?_ ?_
      · intro A W hB hs hJ K hK
        have s0 : A.tmps.getD 43 undef = .pointer (some ⟨b4, 2, none⟩) := hJ 13 43 (by kernel_rfl) (by kernel_rfl)
        simp at s0
        have kk := hB.cell n4 l4 u2
        rw [if_pos (by rfl)]
        clear hs hJ
        go_simp
        exact hK _ _ (.refl _) rfl
      refine grow.EachR.cons ?_ ?_
      · intro A W hB hs hJ K hK
        have s0 := hs 5 (by kernel_rfl)
        simp at s0
        rw [if_pos (by rfl)]
        clear hs hJ
        go_simp
        exact hK _ _ (.refl _) rfl
      refine grow.EachR.cons ?_ ?_
      · intro A W hB hs hJ K hK
        have s0 : A.tmps.getD 45 undef = .pointer (some ⟨b5, 2, none⟩) := hJ 15 45 (by kernel_rfl) (by kernel_rfl)
        simp at s0
        have kk := hB.cell n5 l5 v2
        rw [if_pos (by rfl)]
        clear hs hJ
        go_simp
        exact hK _ _ (.refl _) rfl
      refine grow.EachR.cons ?_ ?_
      · intro A W hB hs hJ K hK
        have s0 : A.tmps.getD 44 undef = .int .i64 z2 := hJ 14 44 (by kernel_rfl) (by kernel_rfl)
        simp at s0
        have s1 : A.tmps.getD 46 undef = .int .i64 z3 := hJ 16 46 (by kernel_rfl) (by kernel_rfl)
        simp at s1
        rw [if_pos (by rfl)]
        clear hs hJ
        go_simp
        exact hK _ _ (.refl _) rfl
      refine grow.EachR.cons ?_ ?_
      · intro A W hB hs hJ K hK
        have s0 : A.tmps.getD 30 undef = .pointer (some ⟨pb, a * 6, none⟩) := hJ 0 30 (by kernel_rfl) (by kernel_rfl)
        simp at s0
        rw [if_pos (by rfl)]
        clear hs hJ
        go_simp
        exact hK _ _ (.refl _) rfl
      refine grow.EachR.cons ?_ ?_
      · intro A W hB hs hJ K hK
        have s0 : A.tmps.getD 48 undef = .pointer (some ⟨pb, a * 6, none⟩) := hJ 18 48 (by kernel_rfl) (by kernel_rfl)
        simp at s0
        rw [if_pos (by rfl)]
        clear hs hJ
        go_simp
        exact hK _ _ (.refl _) rfl
      refine grow.EachR.cons ?_ ?_
      · intro A W hB hs hJ K hK
        have s0 : A.tmps.getD 49 undef = .pointer (some ⟨pb, a * 6, none⟩) := hJ 19 49 (by kernel_rfl) (by kernel_rfl)
        simp at s0
        have s1 : A.tmps.getD 37 undef = .int .i64 (IntKind.i64.wrap (x2 + x3)) := hJ 7 37 (by kernel_rfl) (by kernel_rfl)
        simp at s1
        obtain ⟨x, y, z, hx⟩ := hB.now HS.out
        obtain ⟨q0, q1, q2, _⟩ := hx.cells aM
        have f0 := hx.free (a * 6)
        have f1 := hx.free (a * 6 + 1)
        have f2 := hx.free (a * 6 + 2)
        have HX := Lib.hid hx
        clear hx
        rw [if_pos (by rfl)]
        clear hs hJ
        go_simp
        exact hK undef _ (PR.set0 aM _) trivial
      refine grow.EachR.cons ?_ ?_
      · intro A W hB hs hJ K hK
        have s0 : A.tmps.getD 31 undef = .pointer (some ⟨pb, a * 6, none⟩) := hJ 1 31 (by kernel_rfl) (by kernel_rfl)
        simp at s0
        rw [if_pos (by rfl)]
        clear hs hJ
        go_simp
        exact hK _ _ (.refl _) rfl
      refine grow.EachR.cons ?_ ?_
      · intro A W hB hs hJ K hK
        have s0 : A.tmps.getD 50 undef = .pointer (some ⟨pb, a * 6, none⟩) := hJ 21 50 (by kernel_rfl) (by kernel_rfl)
        simp at s0
        rw [if_pos (by rfl)]
        clear hs hJ
        go_simp
        exact hK _ _ (.refl _) rfl
      refine grow.EachR.cons ?_ ?_
      · intro A W hB hs hJ K hK
        have s0 : A.tmps.getD 51 undef = .pointer (some ⟨pb, a * 6 + 1, none⟩) := hJ 22 51 (by kernel_rfl) (by kernel_rfl)
        simp at s0
        have s1 : A.tmps.getD 42 undef = .int .i64 (if y3 < y2 then y3 else y2) := hJ 12 42 (by kernel_rfl) (by kernel_rfl)
        simp at s1
        obtain ⟨x, y, z, hx⟩ := hB.now HS.out
        obtain ⟨q0, q1, q2, _⟩ := hx.cells aM
        have f0 := hx.free (a * 6)
        have f1 := hx.free (a * 6 + 1)
        have f2 := hx.free (a * 6 + 2)
        have HX := Lib.hid hx
        clear hx
        rw [if_pos (by rfl)]
        clear hs hJ
        go_simp
        exact hK undef _ (PR.set1 aM _) trivial
      refine grow.EachR.cons ?_ ?_
      · intro A W hB hs hJ K hK
        have s0 : A.tmps.getD 32 undef = .pointer (some ⟨pb, a * 6, none⟩) := hJ 2 32 (by kernel_rfl) (by kernel_rfl)
        simp at s0
        rw [if_pos (by rfl)]
        clear hs hJ
        go_simp
        exact hK _ _ (.refl _) rfl
      refine grow.EachR.cons ?_ ?_
      · intro A W hB hs hJ K hK
        have s0 : A.tmps.getD 52 undef = .pointer (some ⟨pb, a * 6, none⟩) := hJ 24 52 (by kernel_rfl) (by kernel_rfl)
        simp at s0
        rw [if_pos (by rfl)]
        clear hs hJ
        go_simp
        exact hK _ _ (.refl _) rfl
      refine grow.EachR.cons ?_ ?_
      · intro A W hB hs hJ K hK
        have s0 : A.tmps.getD 53 undef = .pointer (some ⟨pb, a * 6 + 2, none⟩) := hJ 25 53 (by kernel_rfl) (by kernel_rfl)
        simp at s0
        have s1 : A.tmps.getD 47 undef = .int .i64 (if z2 < z3 then z3 else z2) := hJ 17 47 (by kernel_rfl) (by kernel_rfl)
        simp at s1
        obtain ⟨x, y, z, hx⟩ := hB.now HS.out
        obtain ⟨q0, q1, q2, _⟩ := hx.cells aM
        have f0 := hx.free (a * 6)
        have f1 := hx.free (a * 6 + 1)
        have f2 := hx.free (a * 6 + 2)
        have HX := Lib.hid hx
        clear hx
        rw [if_pos (by rfl)]
        clear hs hJ
        go_simp
        exact hK undef _ (PR.set2 aM _) trivial
      exact grow.EachR.nil
    case fin =>
      intro f W hB hF
      have f0 : f 0 = .pointer (some ⟨pb, a * 6, none⟩) := hF 0 (by decide)
      have f1 : f 1 = .pointer (some ⟨pb, a * 6, none⟩) := hF 1 (by decide)
      have f2 : f 2 = .pointer (some ⟨pb, a * 6, none⟩) := hF 2 (by decide)
      have f3 : f 3 = .pointer (some ⟨b4, 0, none⟩) := hF 3 (by decide)
      have f4 : f 4 = .int .i64 x2 := hF 4 (by decide)
      have f5 : f 5 = .pointer (some ⟨b5, 0, none⟩) := hF 5 (by decide)
      have f6 : f 6 = .int .i64 x3 := hF 6 (by decide)
      have f7 : f 7 = .int .i64 (IntKind.i64.wrap (x2 + x3)) := hF 7 (by decide)
      have f8 : f 8 = .pointer (some ⟨b4, 1, none⟩) := hF 8 (by decide)
      have f9 : f 9 = .int .i64 y2 := hF 9 (by decide)
      have f10 : f 10 = .pointer (some ⟨b5, 1, none⟩) := hF 10 (by decide)
      have f11 : f 11 = .int .i64 y3 := hF 11 (by decide)
      have f12 : f 12 = .int .i64 (if y3 < y2 then y3 else y2) := hF 12 (by decide)
      have f13 : f 13 = .pointer (some ⟨b4, 2, none⟩) := hF 13 (by decide)
      have f14 : f 14 = .int .i64 z2 := hF 14 (by decide)
      have f15 : f 15 = .pointer (some ⟨b5, 2, none⟩) := hF 15 (by decide)
      have f16 : f 16 = .int .i64 z3 := hF 16 (by decide)
      have f17 : f 17 = .int .i64 (if z2 < z3 then z3 else z2) := hF 17 (by decide)
      have f18 : f 18 = .pointer (some ⟨pb, a * 6, none⟩) := hF 18 (by decide)
      have f19 : f 19 = .pointer (some ⟨pb, a * 6, none⟩) := hF 19 (by decide)
      have hst20 := hF 20 (by decide)
      have f21 : f 21 = .pointer (some ⟨pb, a * 6, none⟩) := hF 21 (by decide)
      have f22 : f 22 = .pointer (some ⟨pb, a * 6 + 1, none⟩) := hF 22 (by decide)
      have hst23 := hF 23 (by decide)
      have f24 : f 24 = .pointer (some ⟨pb, a * 6, none⟩) := hF 24 (by decide)
      have f25 : f 25 = .pointer (some ⟨pb, a * 6 + 2, none⟩) := hF 25 (by decide)
      have hst26 := hF 26 (by decide)
      clear hF
      intro A hA
      simp only [List.length_cons, List.length_nil, Nat.reduceAdd, grow.puts, Act.put, List.getElem?_toArray, List.getElem?_cons_zero, List.getElem?_cons_succ, Option.bind_some, List.setIfInBounds_toArray, List.set_cons_zero, List.set_cons_succ, f0, f1, f2, f3, f4, f5, f6, f7, f8, f9, f10, f11, f12, f13, f14, f15, f16, f17, f18, f19, f21, f22, f24, f25] at hA
      subst hA
      have hb9 := hB.now HS.out
      have ho9 := hB.on
      have H9 := Lib.hid (And.intro hb9 ho9)
      clear hb9 ho9 hst20 hst23 hst26 hB
      go_wp2_with fail
      all_goals
        go_end0
        exact ⟨rfl, H9.out.1, HO.out.trans H9.out.2⟩
theorem pull_any (s pb M n a : Nat) (P : PF) (w : World) (h : SM s pb M n P w) (ha : 2 * a + 1 < M) (hM : M ≤ 20000) :
    Calls Try.prog 26 #[.pointer (some ⟨s, 0, none⟩), .int .i64 a] w (RetU s pb M n a P w) := pull_at s pb M n a _ _ P w rfl rfl h ha hM
end Go.Proofs.Ytnnpeblpdkeffaa.seg
