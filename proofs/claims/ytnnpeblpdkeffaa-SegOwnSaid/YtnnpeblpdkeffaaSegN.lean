/- Package seg: New. -/
import Derived.Test.YtnnpeblpdkeffaaSegE
import Derived.Laws.MakeOwn
namespace Go.Proofs.Ytnnpeblpdkeffaa.seg
open Go.RowKit Go

set_option maxRecDepth 100000 in
set_option maxHeartbeats 1000000 in
theorem New_full (w : World) (a : Option Addr) (c n : Nat) (hn : 5000 < n) :
    Calls Try.prog 10 #[.slice a n c] w fun e w' => e = .returned (.tuple #[.pointer none, .iface 48 (.int .i64 4)]) ∧ Below w.heap.size w w' := by
  have h0 : (5000 : Int) < (n : Int) := by omega
  go_enter Try.func10, Try.ntmps10
  go_wp2_with fail
  exact bodyPost_ret (v := .tuple #[.pointer none, .iface 48 (.int .i64 4)]) (by simp [results, Try.results10, go_sem]) rfl ⟨rfl, Below.refl _ _⟩
theorem infoPart : (Try.prog.info? 55).map (fun i => (i.zero, i.size, i.bytes)) = some (some (.agg #[.int .i64 0, .int .i64 0, .int .i64 0, .bool false, .int .i64 0, .int .i64 0]), 6, 48) := by kernel_rfl
def zs : Array Value := #[.int .i64 0, .int .i64 0, .int .i64 0, .bool false, .int .i64 0, .int .i64 0]
theorem made_at (M i j : Nat) (hi : i < M) (hj : j < 6) : (madeCells zs (M * 6))[i * 6 + j]? = (pc Part.zero)[j]? := by
  have h : i * 6 + j < M * 6 := by omega
  have e : (i * 6 + j) % 6 = j := by omega
  have hz : (pc Part.zero)[j]? = some zs[j]! := by
    rcases j with _ | _ | _ | _ | _ | _ | j <;> first | rfl | omega
  rw [hz]
  simp [madeCells, h, zs, e]
theorem make_run (n M : Nat) (hM : M = 4 * n) (hn : n ≤ 5000) (W : World) : (Instr.makeSlice 50 (.int .i64 (4 * (n : Int))) (.int .i64 (4 * (n : Int)))).run Try.prog W = .ok (.slice (some ⟨W.heap.size, 0, none⟩) M M) (W.alloc (.cells (madeCells zs (M * 6)) 55)) := by
  obtain ⟨i0, hi, hz0, hz1, hz2⟩ := info_parts infoPart
  have h := run_make (P := Try.prog) W 50 55 i0 _ Try.underlying50 hi hz0 .i64 .i64 (4 * (n : Int)) (4 * (n : Int)) (by omega) (Int.le_refl _) (by rw [hz2]; omega) (by omega)
  rw [h, hz1, show (4 * (n : Int)).toNat = M by omega]
  rfl
/-- what New hands back for n numbers -/
def RetN (l : List Int) (w : World) (e : Ending) (w' : World) : Prop := ∃ s pb M P, e = .returned (.tuple #[.pointer (some ⟨s, 0, none⟩), .nilIface]) ∧ SM s pb M l.length P w' ∧ w.heap.size ≤ s ∧ w.heap.size ≤ pb ∧ M ≤ 20000 ∧ Below w.heap.size w w' ∧ (l.length = 0 ∨ (Bnd 1 l.length M ∧ ∃ vs, Rep P 1 vs ∧ vs.length = l.length ∧ vs.map wrap64 = l.map wrap64))
set_option maxRecDepth 100000 in
set_option maxHeartbeats 1000000 in
theorem New_some (w : World) (b o cap : Nat) (l : List Int) (n M : Nat) (hl : n = l.length) (hM : M = 4 * n) (hn : n ≤ 5000) (h1 : 1 ≤ n) (hc : l.length ≤ cap) (hb : b < w.heap.size) (hr : ∀ i, i < l.length → w.cell? ⟨b, o + i, none⟩ = some (.int .i64 (l.getD i 0))) :
    Calls Try.prog 10 #[.slice (some ⟨b, o, none⟩) n cap] w (RetN l w) := by
  have h0 : ¬ ((5000 : Int) < (n : Int)) := by omega
  have h2 : (1 : Int) < 4 * (n : Int) := by omega
  have h3 : (0 : Int) < (n : Int) := by omega
  have hmk := make_run n M hM hn
  obtain ⟨W0, hW⟩ : ∃ W0, W0 = (w.alloc (.cells (madeCells zs (M * 6)) 55)).alloc (.cells #[.int .i64 n, .slice (some ⟨w.heap.size, 0, none⟩) M M] 52) := ⟨_, rfl⟩
  have hb0 : Below w.heap.size w W0 := by rw [hW]; exact belowTrans (belowAlloc _ _) (belowAlloc _ _)
  have hS : SM (w.heap.size + 1) w.heap.size M n (fun _ => Part.zero) W0 := by
    rw [hW]
    exact ⟨heapNew2 _ _ _, ⟨_, heapNew1 _ _ _, fun i j hi hj => made_at M i j hi hj⟩, by omega⟩
  have hB := build_any (w.heap.size + 1) w.heap.size M n (by omega) l.length 1 b o cap l (fun _ => Part.zero) W0 (Nat.le_refl _) (by omega) hc (by omega) (Nat.le_refl _) (by omega) (fun _ _ => rfl) (fun i hi => upc hb0 (hr i hi)) (by rw [hM, hl]; exact Bnd.root (by omega)) hS
  rw [← hl, show ((1 : Nat) : Int) = 1 from rfl] at hB
  obtain ⟨g0, g1⟩ := hS.head
  have HB := Lib.hid hB
  have Hb0 := Lib.hid hb0
  have HW := Lib.hid hW
  have HL := Lib.hid (And.intro hl hM)
  clear hB hS hr hW hl hM hb0
  go_enter Try.func10, Try.ntmps10
  go_wp2_with fail
  rw [← HW.out]
  refine HB.out.mono ?_
  rintro e w1 ⟨rfl, ⟨P1, vs, s1, r1, l1, m1, _⟩, o1⟩
  have H1 := Lib.hid (And.intro s1 (And.intro r1 (And.intro l1 (And.intro m1 o1))))
  clear s1 r1 l1 m1 o1
  go_wp2_with fail
  refine bodyPost_ret (v := .tuple #[.pointer (some ⟨w.heap.size + 1, 0, none⟩), .nilIface]) (by simp [results, Try.results10, go_sem]) rfl ?_
  obtain ⟨s1, r1, l1, m1, o1⟩ := H1.out
  obtain ⟨hl, hM⟩ := HL.out
  rw [hl] at s1
  exact ⟨_, _, M, P1, rfl, s1, Nat.le_succ _, Nat.le_refl _, by omega, o1.to Hb0.out (Nat.le_refl _), .inr ⟨by rw [hM, hl]; exact Bnd.root (by omega), vs, r1, l1, m1⟩⟩
theorem make_run1 (W : World) : (Instr.makeSlice 50 (.int .i64 1) (.int .i64 1)).run Try.prog W = .ok (.slice (some ⟨W.heap.size, 0, none⟩) 1 1) (W.alloc (.cells (madeCells zs (1 * 6)) 55)) := by
  obtain ⟨i0, hi, hz0, hz1, hz2⟩ := info_parts infoPart
  have h := run_make (P := Try.prog) W 50 55 i0 _ Try.underlying50 hi hz0 .i64 .i64 1 1 (by omega) (Int.le_refl _) (by rw [hz2]; omega) (by omega)
  rw [h, hz1]
  rfl
set_option maxRecDepth 100000 in
set_option maxHeartbeats 1000000 in
theorem New_none (w : World) (a : Option Addr) (cap : Nat) :
    Calls Try.prog 10 #[.slice a 0 cap] w (RetN [] w) := by
  have hmk := make_run1
  obtain ⟨W0, hW⟩ : ∃ W0, W0 = (w.alloc (.cells (madeCells zs (1 * 6)) 55)).alloc (.cells #[.int .i64 0, .slice (some ⟨w.heap.size, 0, none⟩) 1 1] 52) := ⟨_, rfl⟩
  have hb0 : Below w.heap.size w W0 := by rw [hW]; exact belowTrans (belowAlloc _ _) (belowAlloc _ _)
  have hS : SM (w.heap.size + 1) w.heap.size 1 0 (fun _ => Part.zero) W0 := by
    rw [hW]
    exact ⟨heapNew2 _ _ _, ⟨_, heapNew1 _ _ _, fun i j hi hj => made_at 1 i j hi hj⟩, by omega⟩
  obtain ⟨g0, g1⟩ := hS.head
  have H := Lib.hid (And.intro hb0 (And.intro hS hW))
  clear hS hW hb0
  go_enter Try.func10, Try.ntmps10
  go_wp2_with fail
  refine bodyPost_ret (v := .tuple #[.pointer (some ⟨w.heap.size + 1, 0, none⟩), .nilIface]) (by simp [results, Try.results10, go_sem]) rfl ?_
  obtain ⟨hb0, hS, hW⟩ := H.out
  have e : W0 = (w.alloc (.cells (madeCells zs 6) 55)).alloc (.cells #[.int .i64 0, .slice (some ⟨w.heap.size, 0, none⟩) 1 1] 52) := hW
  rw [← e]
  exact ⟨_, _, 1, _, rfl, hS, Nat.le_succ _, Nat.le_refl _, by omega, hb0, .inl rfl⟩
set_option maxRecDepth 100000 in
set_option maxHeartbeats 1000000 in
theorem change_none (s : Nat) (w : World) (a c x : Int) :
    Calls Try.prog 20 #[.pointer (some ⟨s, 0, none⟩), .int .i64 a, .int .i64 c, .int .i64 0, .int .i64 0, .bool false, .int .i64 x] w fun e w' => e = .returned (.tuple #[]) ∧ w' = w := by
  go_enter Try.func20, Try.ntmps20
  go_wp2_with fail
  exact bodyPost_ret (v := .tuple #[]) (by simp [results, Try.results20]) rfl ⟨rfl, rfl⟩
set_option maxRecDepth 100000 in
set_option maxHeartbeats 1000000 in
theorem within_any (s pb M n : Nat) (P : PF) (w : World) (h : SM s pb M n P w) :
    Calls Try.prog 19 #[.pointer (some ⟨s, 0, none⟩), .int .i64 0, .int .i64 n] w fun e w' => e = .returned .nilIface ∧ w' = w := by
  obtain ⟨g0, g1⟩ := h.head
  have h1 : ¬ ((n : Int) < 0) := by omega
  clear h
  go_enter Try.func19, Try.ntmps19
  go_wp2_with fail
  go_ret
  exact ⟨rfl, rfl⟩
/-- what Add of all numbers leaves behind -/
def RetAd (s pb M n : Nat) (vs : List Int) (x : Int) (w : World) (e : Ending) (w' : World) : Prop := e = .returned .nilIface ∧ (∃ P', SM s pb M n P' w' ∧ (n = 0 ∨ Rep P' 1 (vs.map fun v => wrap64 (v + x)))) ∧ On pb w w'
set_option maxRecDepth 100000 in
set_option maxHeartbeats 1000000 in
theorem Add_any (s pb M n : Nat) (P : PF) (vs : List Int) (x : Int) (w : World) (hM : M ≤ 20000) (hn : n ≤ 5000) (hl : vs.length = n) (h : SM s pb M n P w) (hR : n = 0 ∨ (Bnd 1 n M ∧ Rep P 1 vs)) :
    Calls Try.prog 12 #[.pointer (some ⟨s, 0, none⟩), .int .i64 0, .int .i64 n, .int .i64 x] w (RetAd s pb M n vs x w) := by
  obtain ⟨g0, g1⟩ := h.head
  have HW := Lib.hid (within_any s pb M n P w h)
  have HC : Calls Try.prog 20 #[.pointer (some ⟨s, 0, none⟩), .int .i64 1, .int .i64 n, .int .i64 0, .int .i64 n, .bool false, .int .i64 x] w fun e w' => e = .returned (.tuple #[]) ∧ (∃ P', SM s pb M n P' w' ∧ (n = 0 ∨ Rep P' 1 (vs.map fun v => wrap64 (v + x)))) ∧ On pb w w' := by
    rcases hR with rfl | ⟨hB, hR⟩
    · exact (change_none s w 1 0 x).mono fun _ _ ⟨h1, h2⟩ => ⟨h1, ⟨P, by rw [h2]; exact h, .inl rfl⟩, by rw [h2]; exact On.refl _ _⟩
    · exact (change_any s pb M n x hM vs.length 1 n P vs w (Nat.le_refl _) hl.symm (by omega) (Nat.le_refl _) hR hB h).mono fun _ _ ⟨h1, ⟨P', h2, h3, _⟩, h4⟩ => ⟨h1, ⟨P', h2, .inr h3⟩, h4⟩
  have HC' := Lib.hid HC
  clear h HC hR hl
  go_enter Try.func12, Try.ntmps12
  go_wp2_with fail
  refine HW.out.mono ?_
  rintro e w1 ⟨rfl, rfl⟩
  go_wp2_with fail
  refine HC'.out.mono ?_
  rintro e w2 ⟨rfl, h1, h2⟩
  have H2 := Lib.hid (And.intro h1 h2)
  clear h1 h2
  go_wp2_with fail
  go_ret
  exact ⟨rfl, H2.out.1, H2.out.2⟩
end Go.Proofs.Ytnnpeblpdkeffaa.seg
