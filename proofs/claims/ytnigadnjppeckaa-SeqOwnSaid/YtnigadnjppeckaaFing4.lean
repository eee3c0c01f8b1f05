/- finger: PushRight, Of, Measure. -/
import Derived.Test.YtnigadnjppeckaaFing3
import Derived.Test.YtnigadnjppeckaaRowI
import Derived.Test.YtnigadnjppeckaaCat
namespace Go.Proofs.Ytnigadnjppeckaa.finger
open Go.RowKit Go mono

def RetTr (w : World) (B : Nat) (v : LT) (e : Ending) (w' : World) : Prop := ∃ p, e = .returned (.agg #[.pointer p]) ∧ Lv w' B p v ∧ Below w.heap.size w w'
theorem free_one {w : World} {b t : Nat} {v : Value} (h : w.heap[b]? = some (.cells #[v] t (0, 0))) : w.frozen? ⟨b, 0, none⟩ = false := by simp [World.frozen?, h]
theorem fr_set {W : World} {B k : Nat} {v u : Value} (h : W.heap[k]? = some (.cells #[v] 26 (0, 0))) : Fr W (W.setCell ⟨k, 0, none⟩ u) B := by
  intro b cs ty _ hty hb
  by_cases e : b = k
  · subst e
    rw [h] at hb
    cases hb
    exact absurd rfl hty
  · rw [Below.heap_setCell _ _ _ _ e]
    exact hb
set_option maxHeartbeats 1000000 in
theorem PushRight_any (v : LT) (x : Int) (p : Option Addr) (B : Nat) (w : World) (hok : v.Ok) (hB : B ≤ w.heap.size) (hv : Lv w B p v) : Calls Try.prog 41 #[.agg #[.pointer p], .int .i64 x] w (RetTr w B (pushR v (.leaf x))) := by
  obtain ⟨W0, hW0⟩ : ∃ W0, W0 = (w.alloc (.cells #[.pointer p] 26)).alloc (.cells #[.pointer none] 26) := ⟨_, rfl⟩
  have hb0 : Below w.heap.size w W0 := by rw [hW0]; exact belowTrans (belowAlloc _ _) (belowAlloc _ _)
  have hx : W0.heap[w.heap.size]? = some (.cells #[.pointer p] 26 (0, 0)) := by rw [hW0]; exact heapNew1 _ _ _
  have hy : W0.heap[w.heap.size + 1]? = some (.cells #[.pointer none] 26 (0, 0)) := by rw [hW0]; exact heapNew2 _ _ _
  have kx := cell_of_one hx
  have ky := cell_of_one hy
  have fy := free_one hy
  have HX := Lib.hid hx
  have HY := Lib.hid hy
  have HB0 := Lib.hid hb0
  have HN := Lib.hid (fun W (h : Below w.heap.size w W) => number_any x B W (szle h hB))
  have HP := Lib.hid (fun W W' q (h : Below w.heap.size w W) (h' : Below W.heap.size W W') (ht : Th W' B q (.leaf x)) => push_any v (.leaf x) p q B W' hok (szle (belowTrans h h') hB) (hv.up (belowTrans h h')) ht)
  clear hx hy hb0 hv
  have HW := Lib.hid hW0
  clear hW0
  go_enter Try.func41, Try.ntmps41
  go_wp2_with fail
  rw [← HW.out]
  go_region_held3 (fun w' => w'.cell? ⟨w.heap.size, 0, none⟩ = some (.pointer p)) (go_keep)
    (first
      | (go_at_call 76; refine (HN.out W0 HB0.out).mono ?_; rintro e w1 ⟨q1, rfl, hq1, hb1⟩; have kx := cell_of_one (upb hb1 HX.out); have ky := cell_of_one (upb hb1 HY.out); have fy := free_one (upb hb1 HY.out))
      | (go_at_call 76; refine (HN.out (W0.drewN 1) (belowTrans HB0.out (belowDrewN _ _))).mono ?_; rintro e w1 ⟨q1, rfl, hq1, hb1⟩; replace hb1 := belowTrans (belowDrewN W0 1) hb1; have kx := cell_of_one (upb hb1 HX.out); have ky := cell_of_one (upb hb1 HY.out); have fy := free_one (upb hb1 HY.out))
      | (go_at_call 75; refine (HP.out W0 w1 q1 HB0.out hb1 hq1).mono ?_; rintro e w2 ⟨q2, rfl, hq2, hb2⟩; have kx := cell_of_one (upb (belowTrans hb1 hb2) HX.out); have ky := cell_of_one (upb (belowTrans hb1 hb2) HY.out); have fy := free_one (upb (belowTrans hb1 hb2) HY.out)))
  go_wp2_with fail
  have hb12 := belowTrans hb1 hb2
  have hr := cell_of_one (one_setCell (u := .pointer q2) (upb hb12 HY.out))
  refine bodyPost_ret (v := .agg #[.pointer q2]) (by simp [results, Try.results41, go_sem, hr]) rfl ⟨q2, rfl, ?_, ?_⟩
  · exact hq2.frame (fr_set (upb hb12 HY.out))
  · exact belowSet (belowTrans HB0.out hb12) (Nat.le_succ _) _
def bld (l : List Int) : LT := l.foldl (fun v x => pushR v (.leaf x)) .nil
theorem bld_snoc (l : List Int) (x : Int) : bld (l ++ [x]) = pushR (bld l) (.leaf x) := by simp [bld]
theorem bld_from : ∀ (l : List Int) (v : LT), v.Ok → (l.foldl (fun v x => pushR v (.leaf x)) v).ints = v.ints ++ l ∧ (l.foldl (fun v x => pushR v (.leaf x)) v).Ok
  | [], v, h => ⟨by simp, h⟩
  | x :: l, v, h => by
    have h1 := push_ints v (.leaf x) h
    have h2 := bld_from l _ h1.2
    exact ⟨by rw [List.foldl_cons, h2.1, h1.1, List.append_assoc]; rfl, h2.2⟩
theorem bld_ints (l : List Int) : (bld l).ints = l ∧ (bld l).Ok := bld_from l .nil trivial
theorem bld_five : bld [5] = .one (.leaf 5) := rfl
/-- while Of goes on -/
def OS (w : World) (l : List Int) (wr : World) : Prop := ∃ p, wr.heap[w.heap.size + 1]? = some (.cells #[.pointer p] 26 (0, 0)) ∧ wr.heap[w.heap.size]? = some (.cells #[.pointer none] 26 (0, 0)) ∧ Lv wr (w.heap.size + 2) p (bld l) ∧ Below w.heap.size w wr
set_option maxHeartbeats 1000000 in
theorem Of_any (w : World) (a : Option Addr) (c : Nat) (l : List Int) (hn : l.length ≤ 17592186044416) (hr : Reads w a l) : Calls Try.prog 10 #[.slice a l.length c] w (RetTr w (w.heap.size + 2) (bld l)) := by
  have h0 : OS w (l.take 0) ((w.alloc (.cells #[.pointer none] 26)).alloc (.cells #[.pointer none] 26)) := ⟨none, heapNew2 _ _ _, heapNew1 _ _ _, rfl, belowTrans (belowAlloc _ _) (belowAlloc _ _)⟩
  have H0 := Lib.hid h0
  have Hr := Lib.hid hr
  obtain ⟨n, hnl⟩ : ∃ n, n = l.length := ⟨_, rfl⟩
  rw [← hnl] at hn ⊢
  have Hn := Lib.hid hnl
  have hn0 : (0 : Int) ≤ (n : Int) := by omega
  clear h0 hr hnl
  go_enter Try.func10, Try.ntmps10
  go_wp2_with fail
  go_loopw [5, 8] (fun _ iv wr => ∃ k : Nat, k ≤ n ∧ iv = .int .i64 k ∧ Hid (OS w (l.take k) wr)) (fun _ iv _ => n - (intOf iv).toNat)
  case atStart => exact ⟨0, Nat.zero_le _, rfl, H0⟩
  case round =>
    obtain ⟨k, hk, rfl, HS⟩ := hrel
    obtain ⟨p, hc, hd, hv, hb⟩ := HS.out
    have kc := cell_of_one hc
    have kd := cell_of_one hd
    have fd := free_one hd
    by_cases hlt : k < n
    · obtain ⟨x, hx⟩ : ∃ x, l[k]? = some x := ⟨l[k]'(by rw [← Hn.out]; exact hlt), List.getElem?_eq_getElem _⟩
      have htk : l.take (k + 1) = l.take k ++ [x] := by
        have hk' : k < l.length := by rw [← Hn.out]; exact hlt
        rw [List.take_succ_eq_append_getElem hk']
        rw [List.getElem?_eq_getElem hk'] at hx
        cases hx
        rfl
      obtain ⟨rb, ro, rfl, hrc⟩ : ∃ rb ro, a = some ⟨rb, ro, none⟩ ∧ wr.cell? ⟨rb, ro + k, none⟩ = some (.int .i64 (l.getD k 0)) := by
        have hkl : k < l.length := by rw [← Hn.out]; exact hlt
        rcases Hr.out.up hb with e | ⟨rb, ro, e, h⟩
        · rw [e] at hkl
          simp at hkl
        · exact ⟨rb, ro, e, h k hkl⟩
      rw [List.getD_eq_getElem?_getD, hx] at hrc
      have hrc' : wr.cell? ⟨rb, ro + k, none⟩ = some (.int .i64 x) := hrc
      have HP := Lib.hid (PushRight_any (bld (l.take k)) x p (w.heap.size + 2) wr (bld_ints _).2 (by have := (Array.getElem?_eq_some_iff.1 hc).1; omega) hv)
      have Hc := Lib.hid hc
      have Hd := Lib.hid hd
      have Hb := Lib.hid hb
      have HK := Lib.hid htk
      have hk0 : (0 : Int) ≤ (k : Int) := by omega
      have hk1 : (k : Int) < (n : Int) := by omega
      clear hc hd hv hb htk hrc hx HS
      go_wp2_with fail
      refine HP.out.mono ?_
      rintro e w1 ⟨q, rfl, hq, hb1⟩
      have hc1 := upb hb1 Hc.out
      have hd1 := upb hb1 Hd.out
      have kc1 := cell_of_one hc1
      have fc1 := free_one hc1
      have HS' : Hid (OS w (l.take (k + 1)) (w1.setCell ⟨w.heap.size + 1, 0, none⟩ (.pointer q))) := Lib.hid ⟨q, one_setCell hc1, by rw [Below.heap_setCell _ _ _ _ (by simp)]; exact hd1, by rw [HK.out, bld_snoc]; exact hq.frame (fr_set hc1), belowSet (belowTrans Hb.out hb1) (Nat.le_succ _) _⟩
      clear hc1 hd1 hq hb1
      go_wp2_with fail
      exact ⟨⟨k + 1, hlt, by go_num, HS'⟩, by simp [intOf]; omega⟩
    · obtain rfl : n = k := by omega
      have htk : l.take n = l := List.take_of_length_le (by rw [Hn.out]; exact Nat.le_refl _)
      rw [htk] at hv
      have Hd := Lib.hid hd
      have Hb := Lib.hid hb
      have Hv := Lib.hid hv
      clear hc hd hb hv HS htk
      go_wp2_with fail
      have hres := cell_of_one (one_setCell (u := .pointer p) Hd.out)
      exact bodyPost_ret (v := .agg #[.pointer p]) (by simp [results, Try.results10, go_sem, hres]) rfl ⟨p, rfl, Hv.out.frame (fr_set Hd.out), belowSet Hb.out (Nat.le_refl _) _⟩
set_option maxHeartbeats 1000000 in
theorem Measure_any (v : LT) (p : Option Addr) (B : Nat) (w : World) (h : Lv w B p v) : Calls Try.prog 11 #[.agg #[.pointer p]] w (RetMe w v) := by
  have hb0 : Below w.heap.size w ((w.alloc (.cells #[.pointer p] 26)).alloc (.cells #[.int .i64 0, .int .i64 0, .int .i64 0, .int .i64 0, .int .i64 0] 29)) := belowTrans (belowAlloc _ _) (belowAlloc _ _)
  have HM := Lib.hid (measure_any v p B _ (h.up hb0))
  have hx := heapNew2 w (.cells #[.pointer p] 26) (.cells #[.int .i64 0, .int .i64 0, .int .i64 0, .int .i64 0, .int .i64 0] 29)
  have HX := Lib.hid hx
  have HB0 := Lib.hid hb0
  clear h hb0 hx
  go_enter Try.func11, Try.ntmps11
  go_wp2_with fail
  refine HM.out.mono ?_
  rintro e w1 ⟨n, s, l, m, z, rfl, hone, hb⟩
  obtain ⟨c0, c1, c2, c3, c4, f0, f1, f2, f3, f4⟩ := five_cells (upb hb HX.out)
  have Hone := Lib.hid hone
  have Hb := Lib.hid (belowTrans HB0.out hb)
  clear hone hb
  go_wp2_with fail
  refine bodyPost_ret (v := .agg #[.int .i64 n, .int .i64 s, .int .i64 l, .int .i64 m, .int .i64 z]) ?_ rfl ⟨_, _, _, _, _, rfl, Hone.out, belowSet5 Hb.out (Nat.le_succ _) _ _ _ _ _⟩
  simp [results, Try.results11, go_sem, c0, c1, c2, c3, c4]
end Go.Proofs.Ytnigadnjppeckaa.finger
