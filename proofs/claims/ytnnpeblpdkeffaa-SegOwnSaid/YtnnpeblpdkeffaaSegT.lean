/- Package seg: told of one number, and of none. -/
import Derived.Test.YtnnpeblpdkeffaaSegD
namespace Go.Proofs.Ytnnpeblpdkeffaa.seg
open Go.RowKit Go

theorem On.keep {pb : Nat} {w w' : World} (h : On pb w w') {b : Nat} {o : Obj} (hn : b ≠ pb) (ho : w.heap[b]? = some o) : w'.heap[b]? = some o :=
  (h.block b (Array.getElem?_eq_some_iff.1 ho).1 hn).trans ho
theorem six_all {w : World} {b t : Nat} {v0 v1 v2 v3 v4 v5 : Value} (h : w.heap[b]? = some (.cells #[v0, v1, v2, v3, v4, v5] t (0, 0))) :
    w.cell? ⟨b, 0, none⟩ = some v0 ∧ w.cell? ⟨b, 1, none⟩ = some v1 ∧ w.cell? ⟨b, 2, none⟩ = some v2 ∧ w.cell? ⟨b, 3, none⟩ = some v3 ∧ w.cell? ⟨b, 4, none⟩ = some v4 ∧ w.cell? ⟨b, 5, none⟩ = some v5 ∧
    w.frozen? ⟨b, 0, none⟩ = false ∧ w.frozen? ⟨b, 1, none⟩ = false ∧ w.frozen? ⟨b, 2, none⟩ = false ∧ w.frozen? ⟨b, 3, none⟩ = false ∧ w.frozen? ⟨b, 4, none⟩ = false ∧ w.frozen? ⟨b, 5, none⟩ = false := by
  refine ⟨?_, ?_, ?_, ?_, ?_, ?_, ?_, ?_, ?_, ?_, ?_, ?_⟩ <;> simp [World.cell?, World.frozen?, h]
theorem SM.on {s pb M n b : Nat} {P : PF} {w : World} (h : SM s pb M n P w) (h1 : b ≠ pb) (h2 : b ≠ s) (o : Nat) (v : Value) : SM s pb M n P (w.setCell ⟨b, o, none⟩ v) := by
  obtain ⟨cur, hc, hx⟩ := h.hp
  exact ⟨by rw [Below.heap_setCell _ _ _ _ (fun e => h2 e.symm)]; exact h.hs, ⟨cur, by rw [Below.heap_setCell _ _ _ _ (fun e => h1 e.symm)]; exact hc, hx⟩, h.ne⟩
theorem On.setNew {pb : Nat} {w w' : World} (h : On pb w w') {b : Nat} (hb : w.heap.size ≤ b) (o : Nat) (v : Value) : On pb w (w'.setCell ⟨b, o, none⟩ v) :=
  ⟨h.os, h.tape, h.output, by simpa [World.setCell] using h.size, fun k hk hp => (Below.heap_setCell _ _ _ _ (by show k ≠ b; omega)).trans (h.block k hk hp)⟩
theorem on_set6 {pb : Nat} {w w' : World} (h : On pb w w') {b : Nat} (hb : w.heap.size ≤ b) (v0 v1 v2 v3 v4 v5 : Value) : On pb w ((((((w'.setCell ⟨b, 0, none⟩ v0).setCell ⟨b, 1, none⟩ v1).setCell ⟨b, 2, none⟩ v2).setCell ⟨b, 3, none⟩ v3).setCell ⟨b, 4, none⟩ v4).setCell ⟨b, 5, none⟩ v5) :=
  (((((h.setNew hb 0 v0).setNew hb 1 v1).setNew hb 2 v2).setNew hb 3 v3).setNew hb 4 v4).setNew hb 5 v5
theorem sm_set6 {s pb M n b : Nat} {P : PF} {w : World} (h : SM s pb M n P w) (h1 : b ≠ pb) (h2 : b ≠ s) (v0 v1 v2 v3 v4 v5 : Value) : SM s pb M n P ((((((w.setCell ⟨b, 0, none⟩ v0).setCell ⟨b, 1, none⟩ v1).setCell ⟨b, 2, none⟩ v2).setCell ⟨b, 3, none⟩ v3).setCell ⟨b, 4, none⟩ v4).setCell ⟨b, 5, none⟩ v5) :=
  (((((h.on h1 h2 0 v0).on h1 h2 1 v1).on h1 h2 2 v2).on h1 h2 3 v3).on h1 h2 4 v4).on h1 h2 5 v5
set_option maxRecDepth 100000 in
set_option maxHeartbeats 1000000 in
theorem told_none (s : Nat) (w : World) (a c i j : Int) (hij : j ≤ i) :
    Calls Try.prog 18 #[.pointer (some ⟨s, 0, none⟩), .int .i64 a, .int .i64 c, .int .i64 i, .int .i64 j] w fun e w' => e = .returned (.tuple #[.agg #[.int .i64 0, .int .i64 0, .int .i64 0, .bool false, .int .i64 0, .int .i64 0], .bool false]) ∧ Below w.heap.size w w' := by
  go_enter Try.func18, Try.ntmps18
  go_wp2_with fail
  exact bodyPost_ret (v := .tuple #[.agg #[.int .i64 0, .int .i64 0, .int .i64 0, .bool false, .int .i64 0, .int .i64 0], .bool false]) (by simp [results, Try.results18, go_sem]) rfl ⟨rfl, belowAlloc _ _⟩
/-- what told hands back where there is one number: its part, and the parts may lie otherwise -/
def RetT (s pb M n a : Nat) (P : PF) (vs : List Int) (x : Int) (w : World) (e : Ending) (w' : World) : Prop := ∃ q : Part, e = .returned (.tuple #[.agg #[.int .i64 q.sum, .int .i64 q.least, .int .i64 q.most, .bool q.put, .int .i64 q.what, .int .i64 q.more], .bool true]) ∧ q.sum = x ∧ (∃ P' : PF, SM s pb M n P' w' ∧ Rep P' a vs ∧ ∀ i, ¬ Dsc a i → P' i = P i) ∧ On pb w w'
set_option maxRecDepth 100000 in
set_option maxHeartbeats 1000000 in
theorem told_leaf (s pb M n a : Nat) (P : PF) (v : Int) (w : World) (hR : Rep P a [v]) (haM : a < M) (h : SM s pb M n P w) :
    Calls Try.prog 18 #[.pointer (some ⟨s, 0, none⟩), .int .i64 a, .int .i64 1, .int .i64 0, .int .i64 1] w (RetT s pb M n a P [v] v w) := by
  obtain ⟨h0, h1⟩ := h.head
  obtain ⟨c0, c1, c2, c3, c4, c5⟩ := h.cells haM
  have l1 : s < w.heap.size := (Array.getElem?_eq_some_iff.1 h.hs).1
  have l2 : pb < w.heap.size := by obtain ⟨cur, hc, _⟩ := h.hp; exact (Array.getElem?_eq_some_iff.1 hc).1
  have ha0 : (0 : Int) ≤ (a : Int) := by omega
  have ha1 : (a : Int) < (M : Int) := by omega
  have hv : v = (P a).sum := by have := hR.one rfl; simpa using this
  have H := Lib.hid (And.intro h (And.intro hR hv))
  clear h hR hv
  go_enter Try.func18, Try.ntmps18
  go_wp2_with fail
  refine bodyPost_ret (v := .tuple #[.agg #[.int .i64 (P a).sum, .int .i64 (P a).least, .int .i64 (P a).most, .bool (P a).put, .int .i64 (P a).what, .int .i64 (P a).more], .bool true]) (by simp [results, Try.results18, go_sem]) rfl ?_
  exact ⟨P a, rfl, H.out.2.2.symm, ⟨P, H.out.1.below (belowAlloc _ _), H.out.2.1, fun _ _ => rfl⟩, On.below (belowAlloc _ _)⟩
-- told of one number: both halves
theorem six_set {w : World} {b t : Nat} {v0 v1 v2 v3 v4 v5 u0 u1 u2 u3 u4 u5 : Value} (h : w.heap[b]? = some (.cells #[v0, v1, v2, v3, v4, v5] t (0, 0))) :
    ((((((w.setCell ⟨b, 0, none⟩ u0).setCell ⟨b, 1, none⟩ u1).setCell ⟨b, 2, none⟩ u2).setCell ⟨b, 3, none⟩ u3).setCell ⟨b, 4, none⟩ u4).setCell ⟨b, 5, none⟩ u5).heap[b]? = some (.cells #[u0, u1, u2, u3, u4, u5] t (0, 0)) := by
  have hb := (Array.getElem?_eq_some_iff.1 h).1
  simp [World.setCell, Array.getElem?_modify, h]
set_option maxRecDepth 100000 in
set_option maxHeartbeats 1000000 in
theorem told_step (s pb M n a a2 a3 c k d i : Nat) (P : PF) (vs : List Int) (w : World) (h2 : a2 = 2 * a) (h3 : a3 = 2 * a + 1) (hcl : c = vs.length) (hk : k = c / 2) (hd : d = c - k) (hM : M ≤ 20000) (hc : c ≤ 20000) (h1a : 1 ≤ a) (hc2 : 2 ≤ c) (hi : i < c) (hR : Rep P a vs) (ha : a3 < M) (h : SM s pb M n P w)
    (ih : ∀ (b e i : Nat) (P1 : PF) (us : List Int) (W : World), (b = a2 ∧ e = k ∨ b = a3 ∧ e = d) → e = us.length → Rep P1 b us → SM s pb M n P1 W → i < e →
      Calls Try.prog 18 #[.pointer (some ⟨s, 0, none⟩), .int .i64 b, .int .i64 e, .int .i64 i, .int .i64 ((i : Int) + 1)] W (RetT s pb M n b P1 us (us.getD i 0) W)) :
    Calls Try.prog 18 #[.pointer (some ⟨s, 0, none⟩), .int .i64 a, .int .i64 c, .int .i64 i, .int .i64 ((i : Int) + 1)] w (RetT s pb M n a P vs (vs.getD i 0) w) := by
  have l1 : s < w.heap.size := (Array.getElem?_eq_some_iff.1 h.hs).1
  have l2 : pb < w.heap.size := by obtain ⟨cur, hc, _⟩ := h.hp; exact (Array.getElem?_eq_some_iff.1 hc).1
  have nb : w.heap.size ≠ pb := by omega
  have ns : w.heap.size ≠ s := by omega
  have hb0 := belowAlloc w (.cells #[.int .i64 0, .int .i64 0, .int .i64 0, .bool false, .int .i64 0, .int .i64 0] 55)
  have HPu := Lib.hid (push_any s pb M n a c P _ (h.below hb0) (by omega) hM hc h1a hR.put)
  have HX := Lib.hid (heap_alloc_new w (.cells #[.int .i64 0, .int .i64 0, .int .i64 0, .bool false, .int .i64 0, .int .i64 0] 55))
  have HB0 := Lib.hid hb0
  have HR := Lib.hid hR
  have H := Lib.hid h
  have Hcl := Lib.hid hcl
  have IH := Lib.hid ih
  have E1 : ((a2 : Nat) : Int) = 2 * (a : Int) := by omega
  have E2 : ((k : Nat) : Int) = (c : Int) / 2 := by omega
  have E3 : ((a3 : Nat) : Int) = 2 * (a : Int) + 1 := by omega
  have E4 : ((d : Nat) : Int) = (c : Int) - (c : Int) / 2 := by omega
  have HE := Lib.hid (And.intro E1 (And.intro E2 (And.intro E3 E4)))
  have g0 : ¬ ((i : Int) + 1 ≤ (i : Int)) := by omega
  have hii : (i : Int) < (c : Int) := by omega
  clear E1 E2 E3 E4 h hR hcl ih hb0
  by_cases hi0 : i = 0
  · have g1 : ((i : Int) == 0) = true := by simp; omega
    have g3 : ((i : Int) + 1 == (c : Int)) = false := by simp; omega
    have hlt : i < k := by omega
    have g2 : (i : Int) < (c : Int) / 2 := by omega
    clear hi0
    · go_enter Try.func18, Try.ntmps18
      go_wp2_with fail
      refine HPu.out.mono ?_
      rintro e w2 ⟨rfl, s2, o2⟩
      obtain ⟨l, r, hl, hr, rl, rr, ev, ev'⟩ := pushP_rep HR.out h1a (by rw [← Hcl.out]; exact hc2)
      rw [← Hcl.out] at hl hr rl rr
      have k2 := o2.keep nb HX.out
      have hb2 : w.heap.size + 1 ≤ w2.heap.size := by have := o2.size; simpa using this
      have T1' := IH.out a2 k i (pushP P a c) l w2 (.inl ⟨rfl, rfl⟩) (by rw [hl, hk]) (by rw [h2]; exact rl) s2 (by omega)
      rw [HE.out.1, HE.out.2.1] at T1'
      have T1 := Lib.hid T1'
      have O2 := Lib.hid o2
      clear s2 o2 HPu T1'
      go_wp2_with fail
      refine T1.out.mono ?_
      rintro e w3 ⟨q, rfl, hq, ⟨P3, s3, r3, q3⟩, o3⟩
      have hbA := belowAlloc w3 (.cells #[.int .i64 q.sum, .int .i64 q.least, .int .i64 q.most, .bool q.put, .int .i64 q.what, .int .i64 q.more] 55)
      have T2 := Lib.hid (fun i j (hij : j ≤ i) => told_none s (w3.alloc (.cells #[.int .i64 q.sum, .int .i64 q.least, .int .i64 q.most, .bool q.put, .int .i64 q.what, .int .i64 q.more] 55)) (2 * (a : Int) + 1) ((c : Int) - (c : Int) / 2) i j hij)
      have k3 := upb hbA (o3.keep nb k2)
      have j3 := heap_alloc_new w3 (.cells #[.int .i64 q.sum, .int .i64 q.least, .int .i64 q.most, .bool q.put, .int .i64 q.what, .int .i64 q.more] 55)
      have hb3 := o3.size
      have O3 := Lib.hid (And.intro (s3.below hbA) (And.intro r3 (And.intro q3 (And.intro (o3.trans (On.below hbA)) hq))))
      have K3 := Lib.hid (And.intro k3 j3)
      clear s3 o3 r3 q3 T1 hbA k2 k3 j3 hq
      go_wp2_with fail
      all_goals
       refine (T2.out _ _ (by omega)).mono ?_
       rintro e w4 ⟨rfl, hb4⟩
       have hbB := belowAlloc w4 (.cells #[.int .i64 0, .int .i64 0, .int .i64 0, .bool false, .int .i64 0, .int .i64 0] 55)
       obtain ⟨x0, x1, x2, x3, x4, x5, f0, f1, f2, f3, f4, f5⟩ := six_all (upb (belowTrans hb4 hbB) K3.out.1)
       obtain ⟨y0, y1, y2, y3, y4, y5, _⟩ := six_all (upb (belowTrans hb4 hbB) K3.out.2)
       have HF := Lib.hid (upb (belowTrans hb4 hbB) K3.out.1)
       have O4 := Lib.hid (And.intro (O3.out.1.below (belowTrans hb4 hbB)) (belowTrans hb4 hbB))
       go_wp2_with fail
       have hF := six_set (u0 := .int .i64 q.sum) (u1 := .int .i64 q.least) (u2 := .int .i64 q.most) (u3 := .bool q.put) (u4 := .int .i64 q.what) (u5 := .int .i64 q.more) HF.out
       obtain ⟨r0, r1, r2, r3, r4, r5, _⟩ := six_all hF
       refine bodyPost_ret (v := .tuple #[.agg #[.int .i64 q.sum, .int .i64 q.least, .int .i64 q.most, .bool q.put, .int .i64 q.what, .int .i64 q.more], .bool true]) (by simp [results, Try.results18, go_sem, r0, r1, r2, r3, r4, r5]) rfl ?_
       clear hF r0 r1 r2 r3 r4 r5
       obtain ⟨z3, y3, q3, o3, hq⟩ := O3.out
       subst h2 h3
       have hlen : l.length + r.length = c := by rw [hl, hr]; omega
       have hj := join_rep h1a (pushP_at P a c).1 (pushP_at P a c).2 (by rw [hlen, hl]) (by omega) y3 q3 (rr.congr fun j hj => q3 j (fun h => not_both h1a h hj)) (fun _ _ => rfl) ev'
       refine ⟨q, rfl, ?_, ⟨P3, sm_set6 O4.out.1 nb ns _ _ _ _ _ _, hj.1, fun j hj => by rw [q3 j (fun h => hj h.left), pushP_off hj]⟩, on_set6 ((On.below HB0.out).trans (O2.out.trans (o3.trans (On.below O4.out.2)))) (Nat.le_refl _) _ _ _ _ _ _⟩
       rw [hq, ev, List.getD_eq_getElem?_getD, List.getD_eq_getElem?_getD, List.getElem?_append_left (by omega)]
  · have g1 : ((i : Int) == 0) = false := by simp; omega
    by_cases hlt : i < k
    · have g2 : (i : Int) < (c : Int) / 2 := by omega
      go_enter Try.func18, Try.ntmps18
      go_wp2_with fail
      refine HPu.out.mono ?_
      rintro e w2 ⟨rfl, s2, o2⟩
      obtain ⟨l, r, hl, hr, rl, rr, ev, ev'⟩ := pushP_rep HR.out h1a (by rw [← Hcl.out]; exact hc2)
      rw [← Hcl.out] at hl hr rl rr
      have k2 := o2.keep nb HX.out
      have hb2 : w.heap.size + 1 ≤ w2.heap.size := by have := o2.size; simpa using this
      have T1' := IH.out a2 k i (pushP P a c) l w2 (.inl ⟨rfl, rfl⟩) (by rw [hl, hk]) (by rw [h2]; exact rl) s2 (by omega)
      rw [HE.out.1, HE.out.2.1] at T1'
      have T1 := Lib.hid T1'
      have O2 := Lib.hid o2
      clear s2 o2 HPu T1'
      go_wp2_with fail
      refine T1.out.mono ?_
      rintro e w3 ⟨q, rfl, hq, ⟨P3, s3, r3, q3⟩, o3⟩
      have hbA := belowAlloc w3 (.cells #[.int .i64 q.sum, .int .i64 q.least, .int .i64 q.most, .bool q.put, .int .i64 q.what, .int .i64 q.more] 55)
      have T2 := Lib.hid (fun i j (hij : j ≤ i) => told_none s (w3.alloc (.cells #[.int .i64 q.sum, .int .i64 q.least, .int .i64 q.most, .bool q.put, .int .i64 q.what, .int .i64 q.more] 55)) (2 * (a : Int) + 1) ((c : Int) - (c : Int) / 2) i j hij)
      have k3 := upb hbA (o3.keep nb k2)
      have j3 := heap_alloc_new w3 (.cells #[.int .i64 q.sum, .int .i64 q.least, .int .i64 q.most, .bool q.put, .int .i64 q.what, .int .i64 q.more] 55)
      have hb3 := o3.size
      have O3 := Lib.hid (And.intro (s3.below hbA) (And.intro r3 (And.intro q3 (And.intro (o3.trans (On.below hbA)) hq))))
      have K3 := Lib.hid (And.intro k3 j3)
      clear s3 o3 r3 q3 T1 hbA k2 k3 j3 hq
      go_wp2_with fail
      all_goals
       refine (T2.out _ _ (by omega)).mono ?_
       rintro e w4 ⟨rfl, hb4⟩
       have hbB := belowAlloc w4 (.cells #[.int .i64 0, .int .i64 0, .int .i64 0, .bool false, .int .i64 0, .int .i64 0] 55)
       obtain ⟨x0, x1, x2, x3, x4, x5, f0, f1, f2, f3, f4, f5⟩ := six_all (upb (belowTrans hb4 hbB) K3.out.1)
       obtain ⟨y0, y1, y2, y3, y4, y5, _⟩ := six_all (upb (belowTrans hb4 hbB) K3.out.2)
       have HF := Lib.hid (upb (belowTrans hb4 hbB) K3.out.1)
       have O4 := Lib.hid (And.intro (O3.out.1.below (belowTrans hb4 hbB)) (belowTrans hb4 hbB))
       go_wp2_with fail
       have hF := six_set (u0 := .int .i64 q.sum) (u1 := .int .i64 q.least) (u2 := .int .i64 q.most) (u3 := .bool q.put) (u4 := .int .i64 q.what) (u5 := .int .i64 q.more) HF.out
       obtain ⟨r0, r1, r2, r3, r4, r5, _⟩ := six_all hF
       refine bodyPost_ret (v := .tuple #[.agg #[.int .i64 q.sum, .int .i64 q.least, .int .i64 q.most, .bool q.put, .int .i64 q.what, .int .i64 q.more], .bool true]) (by simp [results, Try.results18, go_sem, r0, r1, r2, r3, r4, r5]) rfl ?_
       clear hF r0 r1 r2 r3 r4 r5
       obtain ⟨z3, y3, q3, o3, hq⟩ := O3.out
       subst h2 h3
       have hlen : l.length + r.length = c := by rw [hl, hr]; omega
       have hj := join_rep h1a (pushP_at P a c).1 (pushP_at P a c).2 (by rw [hlen, hl]) (by omega) y3 q3 (rr.congr fun j hj => q3 j (fun h => not_both h1a h hj)) (fun _ _ => rfl) ev'
       refine ⟨q, rfl, ?_, ⟨P3, sm_set6 O4.out.1 nb ns _ _ _ _ _ _, hj.1, fun j hj => by rw [q3 j (fun h => hj h.left), pushP_off hj]⟩, on_set6 ((On.below HB0.out).trans (O2.out.trans (o3.trans (On.below O4.out.2)))) (Nat.le_refl _) _ _ _ _ _ _⟩
       rw [hq, ev, List.getD_eq_getElem?_getD, List.getD_eq_getElem?_getD, List.getElem?_append_left (by omega)]
    · have g2 : (c : Int) / 2 ≤ (i : Int) := by omega
      go_enter Try.func18, Try.ntmps18
      go_wp2_with fail
      refine HPu.out.mono ?_
      rintro e w2 ⟨rfl, s2, o2⟩
      obtain ⟨l, r, hl, hr, rl, rr, ev, ev'⟩ := pushP_rep HR.out h1a (by rw [← Hcl.out]; exact hc2)
      rw [← Hcl.out] at hl hr rl rr
      have k2 := o2.keep nb HX.out
      have hb2 : w.heap.size + 1 ≤ w2.heap.size := by have := o2.size; simpa using this
      have T1 := Lib.hid (fun i j (hij : j ≤ i) => told_none s w2 (2 * (a : Int)) ((c : Int) / 2) i j hij)
      have O2 := Lib.hid (And.intro s2 o2)
      have R2 := Lib.hid (And.intro rl (And.intro rr (And.intro hl (And.intro hr (And.intro ev ev')))))
      clear s2 o2 HPu rl rr
      go_wp2_with fail
      all_goals
       refine (T1.out _ _ (by omega)).mono ?_
       rintro e w3 ⟨rfl, hb3⟩
       have hbA := belowAlloc w3 (.cells #[.int .i64 0, .int .i64 0, .int .i64 0, .bool false, .int .i64 0, .int .i64 0] 55)
       have T2' := IH.out a3 d (i - k) (pushP P a c) r (w3.alloc (.cells #[.int .i64 0, .int .i64 0, .int .i64 0, .bool false, .int .i64 0, .int .i64 0] 55)) (.inr ⟨rfl, rfl⟩) (by rw [hr, hd, hk]) (by rw [h3]; exact R2.out.2.1) (O2.out.1.below (belowTrans hb3 hbA)) (by omega)
       rw [HE.out.2.2.1, HE.out.2.2.2, show ((i - k : Nat) : Int) + 1 = (i : Int) + 1 - (c : Int) / 2 by omega, show ((i - k : Nat) : Int) = (i : Int) - (c : Int) / 2 by omega] at T2'
       have T2 := Lib.hid T2'
       have k3 := upb (belowTrans hb3 hbA) k2
       have hs3 := (belowTrans hb3 hbA).size
       have O3 := Lib.hid (On.below (pb := pb) (belowTrans hb3 hbA))
       have K3 := Lib.hid k3
       have z3 := hb3.size
       have j3 : w3.heap.size ≠ pb := by omega
       clear T1 hbA k2 k3 T2' hb3
       go_wp2_with fail
       refine T2.out.mono ?_
       rintro e w4 ⟨q, rfl, hq, ⟨P4, s4, r4, q4⟩, o4⟩
       have hbB := belowAlloc w4 (.cells #[.int .i64 q.sum, .int .i64 q.least, .int .i64 q.most, .bool q.put, .int .i64 q.what, .int .i64 q.more] 55)
       obtain ⟨x0, x1, x2, x3, x4, x5, f0, f1, f2, f3, f4, f5⟩ := six_all (upb hbB (o4.keep nb K3.out))
       have HF := Lib.hid (upb hbB (o4.keep nb K3.out))
       have O4 := Lib.hid (And.intro (s4.below hbB) (And.intro r4 (And.intro q4 (And.intro (o4.trans (On.below hbB)) hq))))
       have hz4 := o4.size
       clear s4 o4 r4 q4 T2 hbB hq
       go_wp2_with fail
       have hF := six_set (u0 := .int .i64 q.sum) (u1 := .int .i64 q.least) (u2 := .int .i64 q.most) (u3 := .bool q.put) (u4 := .int .i64 q.what) (u5 := .int .i64 q.more) HF.out
       obtain ⟨r0, r1, r2, r3, r4, r5, _⟩ := six_all hF
       refine bodyPost_ret (v := .tuple #[.agg #[.int .i64 q.sum, .int .i64 q.least, .int .i64 q.most, .bool q.put, .int .i64 q.what, .int .i64 q.more], .bool true]) (by simp [results, Try.results18, go_sem, r0, r1, r2, r3, r4, r5]) rfl ?_
       clear hF r0 r1 r2 r3 r4 r5
       obtain ⟨z4, y4, q4, o4, hq⟩ := O4.out
       obtain ⟨rl, rr, hl, hr, ev, ev'⟩ := R2.out
       subst h2 h3
       have hlen : l.length + r.length = c := by rw [hl, hr]; omega
       have hj := join_rep h1a (pushP_at P a c).1 (pushP_at P a c).2 (by rw [hlen, hl]) (by omega) rl (fun _ _ => rfl) y4 q4 ev'
       refine ⟨q, rfl, ?_, ⟨P4, sm_set6 z4 nb ns _ _ _ _ _ _, hj.1, fun j hj => by rw [q4 j (fun h => hj h.right), pushP_off hj]⟩, on_set6 ((On.below HB0.out).trans (O2.out.2.trans (O3.out.trans o4))) (Nat.le_refl _) _ _ _ _ _ _⟩
       rw [hq, ev, List.getD_eq_getElem?_getD, List.getD_eq_getElem?_getD, List.getElem?_append_right (by omega), hl, hk]
theorem told_any (s pb M n : Nat) (hM : M ≤ 20000) : ∀ (N a c i : Nat) (P : PF) (vs : List Int) (w : World), vs.length ≤ N → c = vs.length → c ≤ 20000 → 1 ≤ a → Rep P a vs → Bnd a c M → SM s pb M n P w → i < c →
    Calls Try.prog 18 #[.pointer (some ⟨s, 0, none⟩), .int .i64 a, .int .i64 c, .int .i64 i, .int .i64 ((i : Int) + 1)] w (RetT s pb M n a P vs (vs.getD i 0) w) := by
  intro N
  induction N with
  | zero =>
    intro a c i P vs w hN hc _ _ _ _ _ hi
    omega
  | succ N ih =>
    intro a c i P vs w hN hc hcb h1 hR hB h hi
    by_cases h2 : 2 ≤ c
    · refine told_step s pb M n a (2 * a) (2 * a + 1) c (c / 2) (c - c / 2) i P vs w rfl rfl hc rfl rfl hM hcb h1 h2 hi hR (hB.two h2).2.lt h ?_
      intro b e i P1 us W hbe he hR1 hs hi
      rcases hbe with ⟨rfl, rfl⟩ | ⟨rfl, rfl⟩
      · exact ih (2 * a) (c / 2) i P1 us W (by omega) he (by omega) (by omega) hR1 (hB.two h2).1 hs hi
      · exact ih (2 * a + 1) (c - c / 2) i P1 us W (by omega) he (by omega) (by omega) hR1 (hB.two h2).2 hs hi
    · obtain rfl : c = 1 := by omega
      obtain rfl : i = 0 := by omega
      have hv := hR.one hc.symm
      rw [hv] at hR ⊢
      exact told_leaf s pb M n a P _ w hR hB.lt h
end Go.Proofs.Ytnnpeblpdkeffaa.seg
