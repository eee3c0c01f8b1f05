/- Of of a set that is a tree and a number: package pair. -/
import Derived.Test.YtcjhbpnmkahkeaaPair3
import Derived.Test.YtcjhbpnmkahkeaaMore
import Derived.Test.YtcjhbpnmkahkeaaCat
namespace Go.Proofs.Ytcjhbpnmkahkeaa.pair
open Go.RowKit

set_option maxHeartbeats 1000000 in
theorem Of_some (w : World) (b o c : Nat) (xs : List Int) (hn : xs.length ≤ 17592186044416)
    (hc : ∀ i, i < xs.length → w.cell? ⟨b, o + i, none⟩ = some (.int .i64 (xs.getD i 0))) :
    Calls Try.prog 23 #[.slice (some ⟨b, o, none⟩) xs.length c] w (RetS w.heap.size w (OfQ xs)) := by
  obtain ⟨n, hnx⟩ : ∃ n, n = xs.length := ⟨_, rfl⟩
  rw [← hnx] at hn hc ⊢
  have Hc := Lib.hid hc
  have Hx := Lib.hid hnx
  clear hc hnx
  go_enter Try.func23, Try.ntmps23
  go_wp2_with fail
  go_loopw [5, 8] (fun _ i wr => ∃ (k : Nat) (p : Option Addr) (nn : Int) (t : BT A), k ≤ n ∧ i = .int .i64 k ∧ Hid (OfQ (xs.take k) nn t) ∧ Hid (In w.heap.size wr p t) ∧ Hid (Below w.heap.size w wr) ∧ w.heap.size + 1 < wr.heap.size ∧ Hid (wr.heap[w.heap.size]? = some (.cells #[.pointer none, .int .i64 0] 38 (0, 0))) ∧ Hid (wr.heap[w.heap.size + 1]? = some (.cells #[.pointer p, .int .i64 nn] 38 (0, 0)))) (fun _ i _ => n - (intOf i).toNat)
  case atStart => 
    refine ⟨0, none, 0, .nil, Nat.zero_le _, rfl, Lib.hid OfQ_nil, Lib.hid rfl, Lib.hid (belowTrans (belowAlloc w _) (belowAlloc _ _)), by simp, Lib.hid (heapNew1 _ _ _), Lib.hid (heapNew2 _ _ _)⟩
  case round =>
    obtain ⟨k, p, nn, t, hk, rfl, Ht, Hin, Hb, hsz, Hr, Hs⟩ := hrel
    by_cases hlt : k < n
    · have c1 := upc Hb.out (Hc.out k hlt)
      have kc := two_c0 Hs.out
      have kd := two_c1 Hs.out
      have hnn := Ht.out.2
      rw [List.length_take, ← Hx.out] at hnn
      have hP := Put_any w.heap.size wr p nn t (xs.getD k 0) (by omega) Hin.out (by omega) (by omega)
      have HP := Lib.hid hP
      clear hP hnn
      go_wp2_with fail
      refine HP.out.mono ?_
      rintro e w1 ⟨p1, n1, t1, rfl, hq1, hp1, hb1⟩
      have Hq1 : Hid (OfQ (xs.take (k + 1)) n1 t1) := Lib.hid (by
        have h := OfQ_snoc Ht.out hq1
        have e : xs.take (k + 1) = xs.take k ++ [xs.getD k 0] := by
          rw [List.take_succ_eq_append_getElem (by rw [← Hx.out]; exact hlt)]
          simp [List.getD_eq_getElem?_getD, show k < xs.length by rw [← Hx.out]; exact hlt]
        rw [e]
        exact h)
      clear hq1
      have hk1 := upb hb1 Hs.out
      have hr1 := upb hb1 Hr.out
      have kc1 := two_c0 hk1
      have kd1 := two_c1 hk1
      have fc1 := two_f (o := 0) hk1
      have fd1 := two_f (o := 1) hk1
      have hbb := belowTrans Hb.out hb1
      have hz := hb1.size
      have Hin1 := Lib.hid (hp1.store2 (u := .pointer p1) (v := .int .i64 n1) hk1 (by decide))
      have Hb1 := Lib.hid (belowSet2 (k := w.heap.size + 1) hbb (by simp) (.pointer p1) (.int .i64 n1))
      have Hk1 := Lib.hid (two_set (u' := .pointer p1) (v' := .int .i64 n1) hk1)
      have Hr1 := Lib.hid ((heapSet2 (k := w.heap.size + 1) (u' := .pointer p1) (v' := .int .i64 n1) (by omega)).trans hr1)
      clear hk1 hr1 hbb hb1 hp1 kc kd
      go_wp2_with fail
      exact ⟨⟨k + 1, p1, n1, t1, by omega, by go_num, Hq1, Hin1, Hb1, by simp [World.setCell]; omega, Hr1, Hk1⟩, by simp [intOf]; omega⟩
    · have Hkn : Hid (OfQ xs nn t) := Lib.hid (by
        have h := Ht.out
        rw [List.take_of_length_le (by rw [← Hx.out]; omega)] at h
        exact h)
      have kc := two_c0 Hs.out
      have kd := two_c1 Hs.out
      have kr := two_c0 Hr.out
      have kri := two_c1 Hr.out
      have fr := two_f (o := 0) Hr.out
      have fr1 := two_f (o := 1) Hr.out
      have Hin1 := Lib.hid (Hin.out.store2 (u := .pointer p) (v := .int .i64 nn) Hr.out (by decide))
      have Hb1 := Lib.hid (belowSet2 (k := w.heap.size) Hb.out (Nat.le_refl _) (.pointer p) (.int .i64 nn))
      go_wp2_with fail
      have HR := two_set (u' := .pointer p) (v' := .int .i64 nn) Hr.out
      have kr0 := two_c0 HR
      have kr1 := two_c1 HR
      exact bodyPost_ret (v := .agg #[.pointer p, .int .i64 nn]) (by simp only [results, Try.results23]; simp [go_sem, kr0, kr1]) rfl ⟨p, nn, t, rfl, Hkn.out, Hin1.out, Hb1.out⟩

set_option maxHeartbeats 400000 in
theorem Of_none (w : World) : Calls Try.prog 23 #[.slice none 0 0] w (RetS w.heap.size w (OfQ [])) := by
  go_enter Try.func23, Try.ntmps23
  go_wp2_with fail
  go_loopw [5, 8] (fun _ i wr => i = .int .i64 0 ∧ wr = (w.alloc (.cells #[.pointer none, .int .i64 0] 38)).alloc (.cells #[.pointer none, .int .i64 0] 38)) (fun _ _ _ => 0)
  case atStart => exact ⟨rfl, rfl⟩
  case round =>
    obtain ⟨rfl, rfl⟩ := hrel
    go_wp2_with fail
    exact bodyPost_ret (v := .agg #[.pointer none, .int .i64 0]) (by simp [results, Try.results23, go_sem]) rfl ⟨none, 0, .nil, rfl, OfQ_nil, rfl, (belowTrans (belowAlloc w _) (belowAlloc _ _))⟩

set_option maxHeartbeats 400000 in
theorem Of_zero (x : Addr) (c : Nat) (w : World) : Calls Try.prog 23 #[.slice (some x) 0 c] w (RetS w.heap.size w (OfQ [])) := by
  go_enter Try.func23, Try.ntmps23
  go_wp2_with fail
  go_loopw [5, 8] (fun _ i wr => i = .int .i64 0 ∧ wr = (w.alloc (.cells #[.pointer none, .int .i64 0] 38)).alloc (.cells #[.pointer none, .int .i64 0] 38)) (fun _ _ _ => 0)
  case atStart => exact ⟨rfl, rfl⟩
  case round =>
    obtain ⟨rfl, rfl⟩ := hrel
    go_wp2_with fail
    exact bodyPost_ret (v := .agg #[.pointer none, .int .i64 0]) (by simp [results, Try.results23, go_sem]) rfl ⟨none, 0, .nil, rfl, OfQ_nil, rfl, (belowTrans (belowAlloc w _) (belowAlloc _ _))⟩

theorem Of_any (w : World) (a : Option Addr) (c : Nat) (xs : List Int) (hn : xs.length ≤ 17592186044416) (hr : Reads w a xs) (ha : a = none → c = 0) :
    Calls Try.prog 23 #[.slice a xs.length c] w (RetS w.heap.size w (OfQ xs)) := by
  cases a with
  | none =>
    rcases hr with rfl | ⟨b', o', h, _⟩
    · obtain rfl := ha rfl
      exact Of_none w
    · cases h
  | some x =>
    rcases hr with rfl | ⟨b', o', h, hc⟩
    · exact Of_zero x c w
    · cases h
      exact Of_some w b' o' c xs hn hc
end Go.Proofs.Ytcjhbpnmkahkeaa.pair
