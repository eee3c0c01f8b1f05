/- Package finger: number, measured, group, measure, alone, deep. -/
import Derived.Test.YtnigadnjppeckaaFing
import Derived.Test.YtnigadnjppeckaaMono
namespace Go.Proofs.Ytnigadnjppeckaa.finger
open Go.RowKit Go mono

theorem seven_cells {w : World} {b t : Nat} {v0 v1 v2 v3 v4 v5 v6 : Value} (h : w.heap[b]? = some (.cells #[v0, v1, v2, v3, v4, v5, v6] t (0, 0))) :
    w.cell? ⟨b, 0, none⟩ = some v0 ∧ w.cell? ⟨b, 1, none⟩ = some v1 ∧ w.cell? ⟨b, 2, none⟩ = some v2 ∧ w.cell? ⟨b, 3, none⟩ = some v3 ∧ w.cell? ⟨b, 4, none⟩ = some v4 ∧ w.cell? ⟨b, 5, none⟩ = some v5 ∧ w.cell? ⟨b, 6, none⟩ = some v6 := by
  refine ⟨?_, ?_, ?_, ?_, ?_, ?_, ?_⟩ <;> simp [World.cell?, h]
theorem eight_cells {w : World} {b t : Nat} {v0 v1 v2 v3 v4 v5 v6 v7 : Value} (h : w.heap[b]? = some (.cells #[v0, v1, v2, v3, v4, v5, v6, v7] t (0, 0))) :
    w.cell? ⟨b, 0, none⟩ = some v0 ∧ w.cell? ⟨b, 1, none⟩ = some v1 ∧ w.cell? ⟨b, 2, none⟩ = some v2 ∧ w.cell? ⟨b, 3, none⟩ = some v3 ∧ w.cell? ⟨b, 4, none⟩ = some v4 ∧ w.cell? ⟨b, 5, none⟩ = some v5 ∧ w.cell? ⟨b, 6, none⟩ = some v6 ∧ w.cell? ⟨b, 7, none⟩ = some v7 := by
  refine ⟨?_, ?_, ?_, ?_, ?_, ?_, ?_, ?_⟩ <;> simp [World.cell?, h]
set_option maxHeartbeats 400000 in
theorem number_any (x : Int) (B : Nat) (w : World) (hB : B ≤ w.heap.size) : Calls Try.prog 76 #[.int .i64 x] w (RetTh w B (.leaf x)) := by
  go_enter Try.func76, Try.ntmps76
  go_wp2_with fail
  refine (one_any _ _).mono ?_
  rintro e w1 ⟨s, l, m, z, rfl, hb⟩
  go_wp2_with fail
  go_ret
  exact ⟨_, rfl, ⟨_, s, l, m, z, rfl, szle hb hB, heap_alloc_new _ _⟩, belowTrans hb (belowAlloc _ _)⟩
/-- a measure, whatever it is -/
def RetMM (w : World) (e : Ending) (w' : World) : Prop := ∃ n s l m h : Int, e = .returned (.agg #[.int .i64 n, .int .i64 s, .int .i64 l, .int .i64 m, .int .i64 h]) ∧ Below w.heap.size w w'
theorem belowSet5 {w w' : World} (h : Below w.heap.size w w') {k : Nat} (hk : w.heap.size ≤ k) (u0 u1 u2 u3 u4 : Value) : Below w.heap.size w (((((w'.setCell ⟨k, 0, none⟩ u0).setCell ⟨k, 1, none⟩ u1).setCell ⟨k, 2, none⟩ u2).setCell ⟨k, 3, none⟩ u3).setCell ⟨k, 4, none⟩ u4) :=
  belowSet (belowSet (belowSet (belowSet (belowSet h (by exact hk) _) (by exact hk) _) (by exact hk) _) (by exact hk) _) (by exact hk) _
theorem set_five {w : World} {b t : Nat} {v0 v1 v2 v3 v4 u0 u1 u2 u3 u4 : Value} (h : w.heap[b]? = some (.cells #[v0, v1, v2, v3, v4] t (0, 0))) :
    (((((w.setCell ⟨b, 0, none⟩ u0).setCell ⟨b, 1, none⟩ u1).setCell ⟨b, 2, none⟩ u2).setCell ⟨b, 3, none⟩ u3).setCell ⟨b, 4, none⟩ u4).heap[b]? = some (.cells #[u0, u1, u2, u3, u4] t (0, 0)) := by
  have hb := (Array.getElem?_eq_some_iff.1 h).1
  simp [World.setCell, Array.getElem?_modify, h]
theorem off_five {w : World} {b k : Nat} {u0 u1 u2 u3 u4 : Value} (h : b ≠ k) :
    (((((w.setCell ⟨k, 0, none⟩ u0).setCell ⟨k, 1, none⟩ u1).setCell ⟨k, 2, none⟩ u2).setCell ⟨k, 3, none⟩ u3).setCell ⟨k, 4, none⟩ u4).heap[b]? = w.heap[b]? := by
  rw [Below.heap_setCell _ _ _ _ h, Below.heap_setCell _ _ _ _ h, Below.heap_setCell _ _ _ _ h, Below.heap_setCell _ _ _ _ h, Below.heap_setCell _ _ _ _ h]
/-- while things are measured -/
def MI (w : World) (g : Nat) (wr : World) : Prop :=
  w.heap.size < g ∧ Below w.heap.size w wr ∧ wr.heap[w.heap.size]? = some (.cells #[.int .i64 0, .int .i64 0, .int .i64 0, .int .i64 0, .int .i64 0] 29 (0, 0)) ∧
    ∃ n s l m z : Int, wr.heap[g]? = some (.cells #[.int .i64 n, .int .i64 s, .int .i64 l, .int .i64 m, .int .i64 z] 29 (0, 0))
set_option maxHeartbeats 1000000 in
theorem measured_any (v : Value) (ts : List FT) (B : Nat) (w : World) (hd : Dig w B v ts) (hl : ts.length ≤ 4) : Calls Try.prog 132 #[v] w (RetMM w) := by
  obtain ⟨kb, cap, cur, rfl, _, hB, hk, ht⟩ := hd
  obtain ⟨n, hn⟩ : ∃ n, n = ts.length := ⟨_, rfl⟩
  rw [← hn] at hl ⊢
  have Hk := Lib.hid hk
  have Ht := Lib.hid ht
  have Hn := Lib.hid hn
  clear hk ht hn
  go_enter Try.func132, Try.ntmps132
  go_wp2_with fail
  refine (none_any _).mono ?_
  rintro e w1 ⟨s0, l0, m0, z0, rfl, hb1⟩
  have hm0 : w1.heap[w.heap.size]? = some (.cells #[.int .i64 0, .int .i64 0, .int .i64 0, .int .i64 0, .int .i64 0] 29 (0, 0)) := upb hb1 (heap_alloc_new _ _)
  go_wp2_with fail
  go_loopw [9] (fun s9 wr => ∃ k : Nat, k ≤ n ∧ s9 = .int .i64 k ∧ Hid (MI w w1.heap.size wr)) (fun s9 _ => n - (intOf s9).toNat)
  case atStart => exact ⟨0, Nat.zero_le _, rfl, Lib.hid ⟨by have := hb1.size; simp at this; omega, belowTrans (belowTrans (belowAlloc _ _) hb1) (belowAlloc _ _), upb (belowAlloc _ _) hm0, 0, s0, l0, m0, z0, heap_alloc_new _ _⟩⟩
  case round =>
    obtain ⟨k, hk, rfl, HM⟩ := hrel
    obtain ⟨hg, hb, hz, n1, s1, l1, m1, z1, hbx⟩ := HM.out
    have Hb := Lib.hid hb
    have Hz := Lib.hid hz
    by_cases hlt : k < n
    · obtain ⟨t, htk⟩ : ∃ t, ts[k]? = some t := ⟨ts[k]'(by rw [← Hn.out]; exact hlt), List.getElem?_eq_getElem _⟩
      obtain ⟨p, hpc, hth⟩ := Ht.out k t htk
      obtain ⟨tb, n2, s2, l2, m2, z2, x2, k2, rfl, _, htb, _⟩ := hth.cells
      have kp : wr.cell? ⟨kb, k, none⟩ = some (.pointer (some ⟨tb, 0, none⟩)) := by
        rw [cell_of_row wr kb k cur _ _ (upb hb Hk.out)]
        exact hpc
      obtain ⟨t0, t1, t2, t3, t4, _⟩ := seven_cells (upb hb htb)
      obtain ⟨b0, b1, b2, b3, b4, _⟩ := five_cells hbx
      have Hbx := Lib.hid hbx
      have hk0 : (0 : Int) ≤ (k : Int) := by omega
      have hk1 : (k : Int) < (n : Int) := by omega
      clear htk hpc hth htb hbx hb hz HM
      go_wp2_with fail
      go_region_with ((go_at_call 131; refine (join_any _ _ _ _ _ _ _ _ _ _ _).mono ?_; rintro e w2 ⟨s5, l5, m5, z5, rfl, hb5⟩; obtain ⟨c0, c1, c2, c3, c4, f0, f1, f2, f3, f4⟩ := five_cells (upb hb5 Hbx.out)))
      all_goals
        have hbw := belowTrans (belowDrew wr) hb5
        have HMM : Hid (MI w w1.heap.size (((((w2.setCell ⟨w1.heap.size, 0, none⟩ (.int .i64 (wrap64 (n1 + n2)))).setCell ⟨w1.heap.size, 1, none⟩ (.int .i64 s5)).setCell ⟨w1.heap.size, 2, none⟩ (.int .i64 l5)).setCell ⟨w1.heap.size, 3, none⟩ (.int .i64 m5)).setCell ⟨w1.heap.size, 4, none⟩ (.int .i64 z5))) :=
          Lib.hid ⟨hg, belowSet5 (belowTrans Hb.out hbw) (Nat.le_of_lt hg) _ _ _ _ _, by rw [off_five (by omega)]; exact upb hbw Hz.out, _, _, _, _, _, set_five (upb hbw Hbx.out)⟩
        clear hbw hb5
        go_wp2_with fail
        exact ⟨⟨k + 1, by omega, by go_num, HMM⟩, by simp [intOf]; omega⟩
    · have hlt' : decide ((k : Int) < (n : Int)) = false := by simp; omega
      obtain ⟨b0, b1, b2, b3, b4, _⟩ := five_cells hbx
      obtain ⟨c0, c1, c2, c3, c4, f0, f1, f2, f3, f4⟩ := five_cells hz
      clear hb hz hbx HM
      go_wp2_with fail
      exact bodyPost_ret (v := .agg #[.int .i64 n1, .int .i64 s1, .int .i64 l1, .int .i64 m1, .int .i64 z1]) (by simp [results, Try.results132, go_sem, c0, c1, c2, c3, c4]) rfl ⟨_, _, _, _, _, rfl, belowSet5 Hb.out (Nat.le_refl _) _ _ _ _ _⟩
set_option maxHeartbeats 1000000 in
theorem group_any (B kb cap : Nat) (cur : Array Value) (p1 p2 p3 : Option Addr) (t1 t2 t3 : FT) (w : World) (hB : B ≤ w.heap.size) (hk : B ≤ kb) (hcap : 3 ≤ cap) (hc : w.heap[kb]? = some (.cells cur 93 (0, 0))) (e1 : cur[0]? = some (Value.pointer p1)) (e2 : cur[1]? = some (Value.pointer p2)) (e3 : cur[2]? = some (Value.pointer p3)) (h1 : Th w B p1 t1) (h2 : Th w B p2 t2) (h3 : Th w B p3 t3) :
    Calls Try.prog 115 #[.slice (some ⟨kb, 0, none⟩) 3 cap] w (RetTh w B (.grp t1 t2 t3)) := by
  have hm := measured_any (.slice (some ⟨kb, 0, none⟩) 3 cap) [t1, t2, t3] B w ⟨kb, cap, cur, rfl, hcap, hk, hc, fun i t hi => by
    match i, hi with
    | 0, hi => cases hi; exact ⟨p1, e1, h1⟩
    | 1, hi => cases hi; exact ⟨p2, e2, h2⟩
    | 2, hi => cases hi; exact ⟨p3, e3, h3⟩⟩ (by simp)
  have Hm := Lib.hid hm
  have Hc := Lib.hid hc
  have H1 := Lib.hid h1
  have H2 := Lib.hid h2
  have H3 := Lib.hid h3
  have E1 := Lib.hid e1
  have E2 := Lib.hid e2
  have E3 := Lib.hid e3
  clear hm hc h1 h2 h3 e1 e2 e3
  go_enter Try.func115, Try.ntmps115
  go_wp2_with fail
  refine Hm.out.mono ?_
  rintro e w1 ⟨n, s, l, m, z, rfl, hb⟩
  go_wp2_with fail
  go_ret
  have hb' := belowTrans hb (belowAlloc w1 (.cells #[.int .i64 n, .int .i64 s, .int .i64 l, .int .i64 m, .int .i64 z, .int .i64 0, .slice (some ⟨kb, 0, none⟩) 3 cap] 95))
  exact ⟨_, rfl, ⟨_, n, s, l, m, z, 0, kb, cap, cur, p1, p2, p3, rfl, szle hb hB, heap_alloc_new _ _, hk, upb hb' Hc.out, E1.out, E2.out, E3.out, H1.out.up hb', H2.out.up hb', H3.out.up hb'⟩, hb'⟩
/-- what measure hands back -/
def RetMe (w : World) (v : LT) (e : Ending) (w' : World) : Prop := ∃ n s l m h : Int, e = .returned (.agg #[.int .i64 n, .int .i64 s, .int .i64 l, .int .i64 m, .int .i64 h]) ∧ (∀ x, v = .one (.leaf x) → n = 1) ∧ Below w.heap.size w w'
theorem Lv.cells {W : World} {B : Nat} : ∀ {l : LT} {p : Option Addr}, l ≠ .nil → Lv W B p l → ∃ b n s c m z v1 v2 v3, p = some ⟨b, 0, none⟩ ∧ B ≤ b ∧ W.heap[b]? = some (.cells #[.int .i64 n, .int .i64 s, .int .i64 c, .int .i64 m, .int .i64 z, v1, v2, v3] 98 (0, 0)) ∧ ∀ x, l = .one (.leaf x) → n = 1
  | .nil, _, h, _ => absurd rfl h
  | .one _, _, _, ⟨b, n, s, l, m, z, vl, hp, hB, hc, _, h1⟩ => ⟨b, n, s, l, m, z, vl, _, _, hp, hB, hc, fun x hx => h1 x (by cases hx; rfl)⟩
  | .deep _ _ _, _, _, ⟨b, n, s, l, m, z, vl, vr, pm, hp, hB, hc, _⟩ => ⟨b, n, s, l, m, z, vl, vr, _, hp, hB, hc, (fun x hx => by cases hx)⟩
set_option maxHeartbeats 1000000 in
theorem measure_any (v : LT) (p : Option Addr) (B : Nat) (w : World) (h : Lv w B p v) : Calls Try.prog 42 #[.pointer p] w (RetMe w v) := by
  by_cases hv : v = .nil
  · subst hv
    obtain rfl : p = none := h
    go_enter Try.func42, Try.ntmps42
    go_wp2_with fail
    refine (none_any _).mono ?_
    rintro e w1 ⟨s, l, m, z, rfl, hb⟩
    have hc := upb hb (heap_alloc_new w (.cells #[.int .i64 0, .int .i64 0, .int .i64 0, .int .i64 0, .int .i64 0] 29))
    obtain ⟨c0, c1, c2, c3, c4, f0, f1, f2, f3, f4⟩ := five_cells hc
    have Hb := Lib.hid (belowTrans (belowAlloc w (.cells #[.int .i64 0, .int .i64 0, .int .i64 0, .int .i64 0, .int .i64 0] 29)) hb)
    clear hc hb
    go_wp2_with fail
    exact bodyPost_ret (v := .agg #[.int .i64 0, .int .i64 s, .int .i64 l, .int .i64 m, .int .i64 z]) (by simp [results, Try.results42, go_sem, c0, c1, c2, c3, c4]) rfl ⟨_, _, _, _, _, rfl, (fun x hx => by cases hx), belowSet5 Hb.out (Nat.le_refl _) _ _ _ _ _⟩
  · obtain ⟨b, n, s, l, m, z, v1, v2, v3, rfl, _, hc, h1⟩ := h.cells hv
    obtain ⟨t0, t1, t2, t3, t4, _⟩ := eight_cells hc
    have hlt := (Array.getElem?_eq_some_iff.1 hc).1
    have Hone := Lib.hid h1
    clear hc h1 h hv
    go_enter Try.func42, Try.ntmps42
    go_wp2_with fail
    exact bodyPost_ret (v := .agg #[.int .i64 n, .int .i64 s, .int .i64 l, .int .i64 m, .int .i64 z]) (by simp [results, Try.results42, go_sem]) rfl ⟨_, _, _, _, _, rfl, Hone.out, belowAlloc _ _⟩
set_option maxHeartbeats 1000000 in
theorem alone_any (t : FT) (p : Option Addr) (B : Nat) (w : World) (hB : B ≤ w.heap.size) (h : Th w B p t) : Calls Try.prog 112 #[.pointer p] w (RetLv w B (.one t)) := by
  obtain ⟨b, n, s, l, m, z, x, k, rfl, hBb, hc, hl⟩ := h.cells
  obtain ⟨t0, t1, t2, t3, t4, _⟩ := seven_cells hc
  have H := Lib.hid h
  have Hl := Lib.hid hl
  clear h hl hc
  go_enter Try.func112, Try.ntmps112
  go_wp2_with fail
  go_ret
  have hb : Below w.heap.size w ((w.alloc (.cells #[.pointer (some ⟨b, 0, none⟩)] 93)).alloc (.cells #[.int .i64 n, .int .i64 s, .int .i64 l, .int .i64 m, .int .i64 z, .slice (some ⟨w.heap.size, 0, none⟩) 1 1, .slice none 0 0, .pointer none] 98)) := belowTrans (belowAlloc _ _) (belowAlloc _ _)
  refine ⟨_, rfl, ⟨_, n, s, l, m, z, _, rfl, by omega, heapNew2 _ _ _, ⟨_, _, _, rfl, Nat.le_refl _, hB, heapNew1 _ _ _, fun i u hi => ?_⟩, fun y hy => (Hl.out y hy).1⟩, hb⟩
  match i, hi with
  | 0, hi => cases hi; exact ⟨_, rfl, H.out.up hb⟩
set_option maxHeartbeats 1000000 in
theorem deep_any (ls rs : List FT) (mid : LT) (al ar : Option Addr) (cl cr nl nr : Nat) (pm : Option Addr) (B : Nat) (w : World) (hB : B ≤ w.heap.size) (hl : Dig w B (.slice al nl cl) ls) (hm : Lv w B pm mid) (hr : Dig w B (.slice ar nr cr) rs) (h1 : ls.length ≤ 4) (h2 : rs.length ≤ 4) :
    Calls Try.prog 113 #[.slice al nl cl, .pointer pm, .slice ar nr cr] w (RetLv w B (.deep ls mid rs)) := by
  have HL := Lib.hid hl
  have HM := Lib.hid hm
  have HR := Lib.hid hr
  clear hl hm hr
  go_enter Try.func113, Try.ntmps113
  go_wp2_with fail
  refine (measured_any _ ls B _ HL.out h1).mono ?_
  rintro e w1 ⟨n1, s1, l1, m1, z1, rfl, hb1⟩
  go_wp2_with fail
  refine (measure_any mid _ B _ (HM.out.up hb1)).mono ?_
  rintro e w2 ⟨n2, s2, l2, m2, z2, rfl, _, hb2⟩
  go_wp2_with fail
  refine (join_any _ _ _ _ _ _ _ _ _ _ _).mono ?_
  rintro e w3 ⟨s3, l3, m3, z3, rfl, hb3⟩
  have hb03 := belowTrans (belowTrans hb1 hb2) hb3
  go_wp2_with fail
  refine (measured_any _ rs B _ (HR.out.up hb03) h2).mono ?_
  rintro e w4 ⟨n4, s4, l4, m4, z4, rfl, hb4⟩
  go_wp2_with fail
  refine (join_any _ _ _ _ _ _ _ _ _ _ _).mono ?_
  rintro e w5 ⟨s5, l5, m5, z5, rfl, hb5⟩
  have hb05 := belowTrans (belowTrans hb03 hb4) hb5
  have Hb := Lib.hid hb05
  clear hb05 hb1 hb2 hb3 hb4 hb5 hb03
  go_wp2_with fail
  go_ret
  have hb := belowTrans Hb.out (belowAlloc w5 (.cells #[.int .i64 (wrap64 (wrap64 (n1 + n2) + n4)), .int .i64 s5, .int .i64 l5, .int .i64 m5, .int .i64 z5, .slice al nl cl, .slice ar nr cr, .pointer pm] 98))
  exact ⟨_, rfl, ⟨_, _, s5, l5, m5, z5, _, _, pm, rfl, szle Hb.out hB, heap_alloc_new _ _, HL.out.up hb, HR.out.up hb, HM.out.up hb⟩, hb⟩
end Go.Proofs.Ytnigadnjppeckaa.finger
