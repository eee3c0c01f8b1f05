/- slices.AppendSeq and slices.Collect over list.All; Ints; Len. -/
import Derived.Test.YtcjhbpnmkahkeaaListAll
namespace Go.Proofs.Ytcjhbpnmkahkeaa.list
open Go.RowKit Go.Shelf

attribute [local go_sem] Oper.semAt_some

set_option maxRecDepth 100000 in
set_option maxHeartbeats 4000000 in
theorem appendSeq_any (w0 w : World) (hb0 : Below w0.heap.size w0 w) (Bn : Nat) (p0 : Option Addr) (nv : Int) (xs : List Int) (hn : xs.length ≤ 17592186044416)
    (hBn : w.heap[Bn]? = some (.cells #[.pointer p0, .int .i64 nv] 26 (0, 0))) (hL : In 0 w0 p0 xs) :
    Calls Try.prog 84 #[.slice none 0 0, .func (.func 85) #[] #[.pointer (some ⟨Bn, 0, none⟩)]] w fun e w' => ∃ v, e = .returned v ∧ OwnI 3 w' w0.heap.size v xs ∧ Below w0.heap.size w0 w' := by
  obtain ⟨i0, hi, hz0, hz1, hz2⟩ := info_parts infoInt
  have hsw := hb0.size
  refine (callsIn_wide (n := 5)).1 ?_
  refine callsIn_of_wp_marks Try.func84 rfl trivial ?_ rfl
  simp only [Try.ntmps84, List.size_toArray, List.length_cons, List.length_nil, Nat.reduceAdd, Nat.reduceSub, Array.replicate_succ, Array.replicate_zero, List.push_toArray, List.append_toArray, List.nil_append, List.cons_append]
  gi_wp2
  have hbW := hb0.alloc hsw (.cells #[.slice none 0 0] 22)
  have hv0 := Boxed.new w 22 (.slice none 0 0)
  have hBn1 := upb (belowAlloc w (.cells #[.slice none 0 0] 22)) hBn
  refine wpIn_rangeFunc_ownF rfl (by omega) (gf := 85) (lb := #[.pointer (some ⟨Bn, 0, none⟩)]) (by simp [go_sem]) trivial (enters_of Try.func85 (by kernel_rfl) rfl)
    (all_stops Fence.wide _ trivial rfl (by omega) Bn w0 _ p0 nv xs hbW hBn1 hL) belowK_t (belowK_b (by simp; omega)) (Below.refl _ _) (fun _ => rfl)
    (fun pre W => (∃ v, Boxed W w.heap.size 22 v ∧ W.ownsRow w0.heap.size 3 1 v pre.length (pre.map (Value.int .i64)) ∧ True) ∧ Below w0.heap.size w0 W) (fun _ _ _ => False)
    (OwnFrom.and (Own.from (holdsRow_own w0.heap.size w.heap.size 22 3 1 (fun pre : List Int => pre.length) (fun pre => pre.map (Value.int .i64)) (fun _ _ => True)) _) (ownFrom_below (Nat.le_refl _) (by simp; omega))) (fun _ _ _ _ _ hs _ _ => hs)
    ⟨⟨_, hv0, World.ownsRow_nil _ _ _ _, trivial⟩, hbW⟩
    (fun x => { tmps := #[.slice none 0 0, .func (.func 85) #[] #[.pointer (some ⟨Bn, 0, none⟩)], .pointer (some ⟨w.heap.size, 0, none⟩), undef, .slice none 0 0, .int .i64 x, .func (.func 85) #[] #[.pointer (some ⟨Bn, 0, none⟩)], .int .i64 x, undef, undef, undef, undef, undef], defers := [] }) ?assign ?body ?done ?stop
  case assign =>
    intro l x W K hK
    gi_wp2
    exact hK
  case body =>
    rintro l pre x W ⟨⟨v, hv, hrow, _⟩, hB⟩ hlen
    have hcell := hv.cell
    have hsz := hB.size
    gi_wp2_with (gi_at_builtin; refine wpListIn_append_own _ rfl _ _ 22 rfl w0.heap.size 3 i0 (.int .i64 0) 1 8 Try.underlying22 hi hz0 hz1 hz2 rfl (by decide) _ _ _ rfl (hrow.alloc _) ⟨W.heap.size, 0, none⟩ 1 1 [.int .i64 x] rfl rfl (cell_one_new _ _ _) (by simp [Value.oneCell']) (by unfold maxLen; omega) (by omega) (by simp; omega) ?_; intro v' w1 hown' hgrow _; obtain ⟨g', cap', rfl⟩ := ownsRow_succ hown'; obtain ⟨hv1, hv2, hr2, hk2, hb2⟩ := hv.appended (by decide) hrow hB.size hsw hown' hgrow; have hc1 := hv1.cell; have hf1 := hv1.frozen)
    exact ⟨hk2, hb2, ⟨_, hv2, by simpa using hr2, trivial⟩, hB.trans hb2⟩
  case done =>
    rintro D ys W hD rfl ⟨⟨v, hv, hrow, _⟩, hB⟩ hK
    have hc := hv.cell
    gi_wp2
    refine ⟨by simp, .inl ⟨_, _, rfl, run_takeDeferred hK, ?_⟩⟩
    exact ⟨_, results_tmp rfl _ _ _, v, rfl, ownsRow_putObj hrow _ hK rfl, hB.trans (belowK_b (w := w0) (Nat.le_refl _) W D _ _ (by simp at hD; omega) hK rfl rfl)⟩
  case stop =>
    rintro D c pre W _ _ h _
    exact h.elim

def RetI' (w : World) (xs : List Int) (e : Ending) (w' : World) : Prop := ∃ v, e = .returned v ∧ OwnI 3 w' w.heap.size v xs ∧ Below w.heap.size w w'

set_option maxHeartbeats 1000000 in
theorem collect_any (w W : World) (hbW : Below w.heap.size w W) (Bn : Nat) (p : Option Addr) (nv : Int) (xs : List Int) (hn : xs.length ≤ 17592186044416)
    (hbx : W.heap[Bn]? = some (.cells #[.pointer p, .int .i64 nv] 26 (0, 0))) (hL : In 0 w p xs) :
    Calls Try.prog 53 #[.func (.func 85) #[] #[.pointer (some ⟨Bn, 0, none⟩)]] W (RetI' w xs) := by
  have HA := Lib.hid (appendSeq_any w W hbW Bn p _ xs hn hbx hL)
  clear hbW hbx hL
  go_enter Try.func53, Try.ntmps53
  go_wp2_with fail
  refine HA.out.mono ?_
  rintro e w1 ⟨v, rfl, ho, hb⟩
  go_wp2_with fail
  go_ret
  exact ⟨v, rfl, ho, hb⟩

set_option maxHeartbeats 1000000 in
theorem Len_any (w : World) (p : Option Addr) (n : Int) :
    Calls Try.prog 17 #[.agg #[.pointer p, .int .i64 n]] w fun e w' => e = .returned (.int .i64 n) ∧ w' = w.alloc (.cells #[.pointer p, .int .i64 n] 26) := by
  go_enter Try.func17, Try.ntmps17
  go_wp2_with fail
  go_ret
  exact ⟨rfl, rfl⟩

set_option maxHeartbeats 1000000 in
theorem ints_any (B : Nat) (w : World) (p : Option Addr) (xs : List Int) (h : In B w p xs) (hn : xs.length ≤ 17592186044416) :
    Calls Try.prog 18 #[.agg #[.pointer p, .int .i64 (xs.length : Nat)]] w (RetI 3 w xs) := by
  have hL := h.lower (Nat.zero_le _)
  obtain ⟨W, hW⟩ : ∃ W, W = (w.alloc (.cells #[.pointer p, .int .i64 (xs.length : Nat)] 26)).alloc (.cells #[.pointer p, .int .i64 (xs.length : Nat)] 26) := ⟨_, rfl⟩
  have hbW : Below w.heap.size w W := by rw [hW]; exact belowTrans (belowAlloc _ _) (belowAlloc _ _)
  have hbx : W.heap[w.heap.size + 1]? = some (.cells #[.pointer p, .int .i64 (xs.length : Nat)] 26 (0, 0)) := by rw [hW]; exact heapNew2 _ _ _
  have hC := collect_any w W hbW (w.heap.size + 1) p _ xs hn hbx hL
  have HC := Lib.hid hC
  have HW := Lib.hid hW
  clear hC hW hbx hbW hL h
  go_enter Try.func18, Try.ntmps18
  go_wp2_with fail
  refine (all_any _ _ _).mono ?_
  rintro e w1 ⟨rfl, hw1⟩
  rw [← HW.out] at hw1
  subst hw1
  go_wp2_with fail
  refine HC.out.mono ?_
  rintro e w2 ⟨v, rfl, ho, hb⟩
  go_wp2_with fail
  go_ret
  exact RetI.mk ho hb
end Go.Proofs.Ytcjhbpnmkahkeaa.list
