/- Package seq: Of, Len, Ints. -/
import Derived.Test.YtnigadnjppeckaaFing7
namespace Go.Proofs.Ytnigadnjppeckaa.seq
open Go.RowKit Go
open finger (TIn)

def RetA (w : World) (B : Nat) (t : List Int) (e : Ending) (w' : World) : Prop := ∃ p, e = .returned (.agg #[.pointer p]) ∧ TIn B w' p t ∧ Below w.heap.size w w'
theorem fr_one {W : World} {B k : Nat} {u : Value} (h : k < B) : finger.Fr W (W.setCell ⟨k, 0, none⟩ u) B := fun b cs ty hB _ hx => by
  rw [Below.heap_setCell _ _ _ _ (by show b ≠ k; omega)]
  exact hx
set_option maxHeartbeats 1000000 in
theorem Of_lv (w : World) (a : Option Addr) (c : Nat) (l : List Int) (hn : l.length ≤ 17592186044416) (hr : Reads w a l) :
    Calls Try.prog 14 #[.slice a l.length c] w fun e w' => ∃ p, e = .returned (.agg #[.pointer p]) ∧ finger.Lv w' (w.heap.size + 3) p (finger.bld l) ∧ Below w.heap.size w w' := by
  have hb0 := belowAlloc w (.cells #[.pointer none] 35)
  have HO := Lib.hid (finger.Of_any _ a c l hn (hr.up hb0))
  have Hx := Lib.hid (heap_alloc_new w (.cells #[.pointer none] 35))
  have Hb := Lib.hid hb0
  clear hb0 hr hn
  go_enter Try.func14, Try.ntmps14
  go_wp2_with fail
  refine HO.out.mono ?_
  rintro e w1 ⟨p, rfl, hv, hb⟩
  have hx := upb hb Hx.out
  have hc := cell_of_one hx
  have hf := free_of_one hx
  have HV := Lib.hid (And.intro hv hb)
  have hbox := one_setCell (u := .pointer p) hx
  have hres := cell_of_one hbox
  clear hv hb hx hbox
  go_wp2_with fail
  refine bodyPost_ret (v := .agg #[.pointer p]) (by simp [results, Try.results14, go_sem, hres]) rfl ⟨p, rfl, ?_, ?_⟩
  · have h := HV.out.1
    have e : (w.alloc (.cells #[.pointer none] 35)).heap.size = w.heap.size + 1 := by simp
    rw [e] at h
    exact h.frame (fr_one (by omega))
  · exact belowSet (belowTrans Hb.out HV.out.2) (Nat.le_refl _) _
theorem Of_all (w : World) (a : Option Addr) (c : Nat) (l : List Int) (hn : l.length ≤ 17592186044416) (hr : Reads w a l) : Calls Try.prog 14 #[.slice a l.length c] w (RetA w (w.heap.size + 3) l) :=
  (Of_lv w a c l hn hr).mono fun _ _ ⟨p, h1, h2, h3⟩ => ⟨p, h1, ⟨_, h2, (finger.bld_ints l).1⟩, h3⟩
theorem Of_five (w : World) (b : Nat) (h : w.heap[b]? = some (.cells #[.int .i64 5] 3 (0, 0))) :
    Calls Try.prog 14 #[.slice (some ⟨b, 0, none⟩) 1 1] w fun e w' => ∃ p, e = .returned (.agg #[.pointer p]) ∧ finger.Lv w' (w.heap.size + 3) p (.one (.leaf 5)) ∧ Below w.heap.size w w' := by
  refine Of_lv w (some ⟨b, 0, none⟩) 1 [5] (by simp) (.inr ⟨b, 0, rfl, ?_⟩)
  intro i hi
  obtain rfl : i = 0 := by simpa using hi
  simpa using cell_of_one h
set_option maxHeartbeats 1000000 in
theorem Len_one (w : World) (p : Option Addr) (B : Nat) (x : Int) (h : finger.Lv w B p (.one (.leaf x))) :
    Calls Try.prog 15 #[.agg #[.pointer p]] w fun e w' => e = .returned (.int .i64 1) ∧ Below w.heap.size w w' := by
  have hb0 := belowAlloc w (.cells #[.pointer p] 35)
  have HM := Lib.hid (finger.Measure_any _ p B _ (h.up' hb0))
  have Hb := Lib.hid hb0
  clear hb0 h
  go_enter Try.func15, Try.ntmps15
  go_wp2_with fail
  refine HM.out.mono ?_
  rintro e w1 ⟨n4, s4, l4, m4, z4, rfl, h41, hw4⟩
  obtain rfl : n4 = 1 := h41 x rfl
  have hfld := fun W => finger.nOf W 1 s4 l4 m4 z4
  have HB := Lib.hid (belowTrans Hb.out hw4)
  clear h41 hw4
  go_wp2_with fail
  go_ret
  exact ⟨rfl, HB.out⟩
set_option maxHeartbeats 1000000 in
theorem ints_all (B : Nat) (w : World) (p : Option Addr) (t : List Int) (h : TIn B w p t) (hn : t.length ≤ 17592186044416) :
    Calls Try.prog 16 #[.agg #[.pointer p]] w (RetI 3 w t) := by
  have hb0 := belowAlloc w (.cells #[.pointer p] 35)
  have HM := Lib.hid (finger.ints_all B _ p t (h.up hb0) hn)
  have Hb := Lib.hid hb0
  clear hb0 h
  go_enter Try.func16, Try.ntmps16
  go_wp2_with fail
  refine HM.out.mono ?_
  rintro e w1 ⟨a1, c1, rfl, ho, hw⟩
  have HB := Lib.hid (And.intro ho (belowTrans Hb.out hw))
  clear ho hw
  go_wp2_with fail
  go_ret
  exact ⟨a1, c1, rfl, ownsRow_lower HB.out.1 Hb.out.size, HB.out.2⟩
end Go.Proofs.Ytnigadnjppeckaa.seq
