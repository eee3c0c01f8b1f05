/- Tries: Put, Get, Len. -/
import Derived.Test.YteglhcpochcopaaTrieU
namespace Go.Proofs.Yteglhcpochcopaa.trie
open Go.RowKit

/-- what a call that hands back a trie leaves -/
def RetM (w : World) (t : TT) (e : Ending) (w' : World) : Prop := ∃ p, e = .returned (.agg #[.pointer p]) ∧ In w' t p ∧ Below w.heap.size w w'
theorem In.store {w : World} {k off : Nat} {c : Array Value} {ty' : Nat} {fz : Nat × Nat} {u : Value} (hk : w.heap[k]? = some (.cells c ty' fz)) (hne : ty' ≠ 50) {t : TT} {p : Option Addr} (h : In w t p) : In (w.setCell ⟨k, off, none⟩ u) t p := by
  refine h.stays ⟨fun b c' z hb => ?_, fun b es cl hb => ?_⟩
  · exact (Below.heap_setCell w _ u b (by rintro rfl; rw [hk] at hb; cases hb; exact hne rfl)).trans hb
  · exact (Below.heap_setCell w _ u b (by rintro rfl; rw [hk] at hb; cases hb)).trans hb
set_option maxHeartbeats 4000000 in
theorem Put_any (w : World) (p : Option Addr) (t : TT) (s : Wd) (x : Int) (h : In w t p) (hc : cnt t < 9223372036854775807) :
    Calls Try.prog 9 #[.agg #[.pointer p], sv s, .int .i64 x] w (RetM w (put t s x)) := by
  have h1 := belowTrans (belowAlloc w (.cells #[.pointer p] 26)) (belowAlloc _ (.cells #[.pointer none] 26))
  have hz := heapNew2 w (.cells #[.pointer p] 26) (.cells #[.pointer none] 26)
  have hz0 := heapNew1 w (.cells #[.pointer p] 26) (.cells #[.pointer none] 26)
  obtain ⟨W, hW⟩ : ∃ W, W = (w.alloc (.cells #[.pointer p] 26)).alloc (.cells #[.pointer none] 26) := ⟨_, rfl⟩
  rw [← hW] at h1 hz hz0
  have kz := cell_of_one hz0
  have HC := Lib.hid (put_any s x t p W (h.up h1) hc)
  obtain ⟨xs, hxs⟩ : ∃ xs, xs = sv s := ⟨_, rfl⟩
  rw [← hxs] at HC ⊢
  have HZ := Lib.hid (And.intro hz h1)
  have HW := Lib.hid hW
  clear hW hz hz0 h1 h hc hxs
  go_enter Try.func9, Try.ntmps9
  go_wp2_with fail
  rw [← HW.out]
  go_wp2_with fail
  refine HC.out.mono ?_
  rintro e w1 ⟨p1, rfl, hp1, hb1⟩
  have hz1 := upb hb1 HZ.out.1
  have c1 := cell_of_one hz1
  have f1 := free_of_one hz1
  have hst := one_setCell (u := .pointer p1) hz1
  have HF : Hid (In (w1.setCell ⟨w.heap.size + 1, 0, none⟩ (.pointer p1)) (put t s x) p1 ∧ Below w.heap.size w (w1.setCell ⟨w.heap.size + 1, 0, none⟩ (.pointer p1))) :=
    Lib.hid ⟨In.store (k := w.heap.size + 1) (off := 0) hz1 (by decide) hp1, belowSet (a := ⟨w.heap.size + 1, 0, none⟩) (belowTrans HZ.out.2 hb1) (Nat.le_succ _) _⟩
  have kr := cell_of_one hst
  clear hp1 hb1 hz1 HC hst
  go_wp2_with fail
  refine bodyPost_ret (v := .agg #[.pointer p1]) (by simp only [results, Try.results9]; simp [go_sem, kr]) rfl ?_
  exact ⟨_, rfl, HF.out.1, HF.out.2⟩
/-- what Get leaves -/
def RetV (w : World) (r : Option Int) (e : Ending) (w' : World) : Prop := e = .returned (.tuple #[.int .i64 (r.getD 0), .bool r.isSome]) ∧ Below w.heap.size w w'
set_option maxHeartbeats 4000000 in
theorem Get_any (w : World) (p : Option Addr) (t : TT) (s : Wd) (h : In w t p) (r : Option Int) (hr : get t s = r) :
    Calls Try.prog 12 #[.agg #[.pointer p], sv s] w (RetV w r) := by
  have h1 := belowAlloc w (.cells #[.pointer p] 26)
  have hz := heap_alloc_new w (.cells #[.pointer p] 26)
  obtain ⟨W, hW⟩ : ∃ W, W = w.alloc (.cells #[.pointer p] 26) := ⟨_, rfl⟩
  rw [← hW] at h1 hz
  have kz := cell_of_one hz
  have HC := Lib.hid (under_any W t p s (h.up h1))
  obtain ⟨xs, hxs⟩ : ∃ xs, xs = sv s := ⟨_, rfl⟩
  rw [← hxs] at HC ⊢
  have HB := Lib.hid (And.intro h1 hr)
  have HW := Lib.hid hW
  clear hW hz h1 h hxs hr
  go_enter Try.func12, Try.ntmps12
  go_wp2_with fail
  rw [← HW.out]
  go_wp2_with fail
  refine HC.out.mono ?_
  rintro e w1 ⟨p1, rfl, hp1, hb1⟩
  obtain ⟨u, hu⟩ : ∃ u, u = under t s := ⟨_, rfl⟩
  rw [← hu] at hp1
  have hru : u.val = r := by rw [hu]; exact HB.out.2
  have HF := Lib.hid (belowTrans HB.out.1 hb1)
  clear hb1 HC HB hu
  cases u with
  | nil =>
    obtain rfl : p1 = none := hp1
    obtain rfl : none = r := hru
    go_wp2_with fail
    go_ret2
    exact ⟨rfl, HF.out⟩
  | node v k =>
    obtain rfl : v = r := hru
    obtain ⟨b, mo, f, rfl, hb, _⟩ := hp1
    cases v with
    | none =>
      have c2 := nodeC2 hb
      rw [show (none : Option Int).isSome = false from rfl] at c2
      clear hb
      go_wp2_with fail
      go_ret2
      exact ⟨rfl, HF.out⟩
    | some x =>
      have c2 := nodeC2 hb
      have c0 := nodeC0 hb
      rw [show (some x).isSome = true from rfl] at c2
      rw [show (some x).getD 0 = x from rfl] at c0
      clear hb
      go_wp2_with fail
      go_ret2
      exact ⟨rfl, HF.out⟩
set_option maxHeartbeats 4000000 in
theorem Len_any (w : World) (p : Option Addr) (t : TT) (h : In w t p) :
    Calls Try.prog 13 #[.agg #[.pointer p]] w fun e w' => e = .returned (.int .i64 (cnt t : Nat)) ∧ Below w.heap.size w w' := by
  have h1 := belowAlloc w (.cells #[.pointer p] 26)
  have hz := heap_alloc_new w (.cells #[.pointer p] 26)
  obtain ⟨W, hW⟩ : ∃ W, W = w.alloc (.cells #[.pointer p] 26) := ⟨_, rfl⟩
  rw [← hW] at h1 hz
  have kz := cell_of_one hz
  have HC := Lib.hid (size_any W t p (h.up h1))
  have HB := Lib.hid h1
  have HW := Lib.hid hW
  clear hW hz h1 h
  go_enter Try.func13, Try.ntmps13
  go_wp2_with fail
  rw [← HW.out]
  go_wp2_with fail
  refine HC.out.mono ?_
  rintro e w1 ⟨rfl, rfl⟩
  go_wp2_with fail
  go_ret
  exact ⟨rfl, HB.out⟩
end Go.Proofs.Yteglhcpochcopaa.trie
