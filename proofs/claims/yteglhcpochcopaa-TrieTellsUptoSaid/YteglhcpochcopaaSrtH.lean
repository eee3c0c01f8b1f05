/- slices.heapSortOrdered, reverseRangeOrdered over bytes. -/
import Derived.Test.YteglhcpochcopaaSrtD
namespace Go.Proofs.Yteglhcpochcopaa.srt
open Go.RowKit
open Go.Sort (heapSort heapBuild heapPop siftDown PermIn)

theorem sift_size (hi F root : Nat) (d : Array Nat) : (siftDown lt hi F root d).size = d.size := by
  fun_induction siftDown lt hi F root d <;> simp_all [Go.Sort.swp_size]

set_option maxRecDepth 100000 in
set_option maxHeartbeats 8000000 in
theorem heap_any (w : World) (b n c a e : Nat) (d : Array Nat) (h : Rw w b d) (hn : d.size = n) (hb : n ≤ 1099511627776) (hae : a < e) (he : e ≤ n) :
    Calls Try.prog 39 #[.slice (some ⟨b, 0, none⟩) n c, .int .i64 (a : Nat), .int .i64 (e : Nat)] w (Srt w b (heapSort lt d a e)) := by
  obtain ⟨D, hD⟩ : ∃ D, D = heapSort lt d a e := ⟨_, rfl⟩
  rw [← hD]
  obtain ⟨hi, hhi⟩ : ∃ hi, hi = e - a := ⟨_, rfl⟩
  obtain ⟨h1, hh1⟩ : ∃ h1, h1 = hi - 1 := ⟨_, rfl⟩
  have H0 : Hid (Ing w b n d D (fun d => heapPop lt a hi (heapBuild lt hi a (h1 / 2 + 1) d)) w) := Lib.hid ⟨.refl _ _, h, hn, by rw [hD, hh1, hhi]; rfl⟩
  have w1 : IntKind.i64.wrap ((e : Int) - (a : Int)) = (hi : Int) := by rw [IntWalk.i64_in _ (by omega)]; omega
  have w2 : IntKind.i64.wrap ((hi : Int) - 1) = (h1 : Int) := by rw [IntWalk.i64_in _ (by omega)]; omega
  have HX := Lib.hid (And.intro hhi hh1)
  have hF : a + hi ≤ n := by omega
  clear h hn hD hhi hh1
  go_enter Try.func39, Try.ntmps39
  go_wp2_with fail
  go_loopw [9] (fun iv wr => ∃ (k : Nat) (z : Int) (d' : Array Nat), iv = .int .i64 z ∧ z = (k : Int) - 1 ∧ k ≤ hi ∧ Hid (Ing w b n d' D (fun d => heapPop lt a hi (heapBuild lt hi a k d)) wr)) (fun iv _ => (intOf iv + 1).toNat)
  case atStart => exact ⟨h1 / 2 + 1, _, d, rfl, by have := HX.out; unfold wrap64; omega, by have := HX.out; omega, H0⟩
  case round =>
    obtain ⟨k, z, d', rfl, hz, hk, HS⟩ := hrel
    clear H0
    cases k with
    | zero =>
      obtain rfl : z = -1 := by omega
      have H1 : Hid (Ing w b n d' D (fun d => heapPop lt a hi d) wr) := Lib.hid (HS.out.to rfl)
      clear HS hz
      go_wp2_with fail
      go_loopw [10] (fun iv wr => ∃ (k : Nat) (z : Int) (d' : Array Nat), iv = .int .i64 z ∧ z = (k : Int) - 1 ∧ k ≤ hi ∧ Hid (Ing w b n d' D (fun d => heapPop lt a k d) wr)) (fun iv _ => (intOf iv + 1).toNat)
      case atStart => exact ⟨hi, _, d', rfl, by have := HX.out; omega, Nat.le_refl _, H1⟩
      case round =>
        obtain ⟨k, z, d', rfl, hz, hk, HS⟩ := hrel
        clear H1
        cases k with
        | zero =>
          obtain rfl : z = -1 := by omega
          have HE : Hid (Srt w b D (.returned (.tuple #[])) wr) := Lib.hid ⟨rfl, HS.out.on, by have h := HS.out.eq; rw [← h]; exact HS.out.rw'⟩
          clear HS hz
          go_wp2_with fail
          go_end0
          exact HE.out
        | succ k =>
          obtain rfl : z = (k : Nat) := by omega
          have z0 : (0 : Int) ≤ (k : Int) := by omega
          obtain ⟨f1, hf1⟩ : ∃ c, c = a + k := ⟨_, rfl⟩
          have wf1 : IntKind.i64.wrap ((a : Int) + (k : Int)) = (f1 : Int) := by rw [IntWalk.i64_in _ (by omega)]; omega
          have wk1 : IntKind.i64.wrap ((k : Int) - 1) = (k : Int) - 1 := IntWalk.i64_in _ (by omega)
          have a0 : (0 : Int) ≤ (a : Int) := by omega
          have a1 : (a : Int) < (n : Int) := by omega
          have g0 : (0 : Int) ≤ (f1 : Int) := by omega
          have g1 : (f1 : Int) < (n : Int) := by omega
          have g1n : f1 < n := by omega
          obtain ⟨x, hx⟩ : ∃ x, x = d'[a]! := ⟨_, rfl⟩
          obtain ⟨y, hy⟩ : ∃ x, x = d'[f1]! := ⟨_, rfl⟩
          have k1 := HS.out.rw'.c a (by rw [HS.out.n]; omega)
          have k2 := HS.out.rw'.c f1 (by rw [HS.out.n]; omega)
          rw [← hx] at k1
          rw [← hy] at k2
          have fj := HS.out.rw'.f a
          have fk := HS.out.rw'.f f1
          have fk' := (frozenSet wr b a f1 (nv y)).trans fk
          obtain ⟨zz, kz⟩ := HS.out.rw'.mid (i := a) (j := f1) (by rw [HS.out.n]; omega) (nv y)
          obtain ⟨V, hV⟩ : ∃ V, V = ((wr.setCell ⟨b, a, none⟩ (nv y)).setCell ⟨b, f1, none⟩ (nv x)).drew := ⟨_, rfl⟩
          have hI : Ing w b n (Go.Sort.swp d' a f1) D (fun d => heapPop lt a k (siftDown lt k a 0 d)) V := by
            rw [hV, hx, hy]
            exact HS.out.swp (by omega) (by omega) (by rw [hf1]; rfl)
          have HC := Lib.hid (sift_any V b n c 0 k a (Go.Sort.swp d' a f1) hI.rw' hI.n hb (by omega) (Nat.zero_le _))
          have HI := Lib.hid hI
          have HV := Lib.hid hV
          clear HS hz hx hy hV hI hf1 g1n
          go_wp2_with fail
          go_region
          go_wp2_with fail
          rw [← HV.out]
          refine HC.out.mono ?_
          rintro e2 w2 ⟨rfl, on2, rw2⟩
          have HN : Hid (Ing w b n (siftDown lt k a 0 (Go.Sort.swp d' a f1)) D (fun d => heapPop lt a k d) w2) := Lib.hid ⟨HI.out.on.trans on2, rw2, by rw [sift_size]; exact HI.out.n, HI.out.eq⟩
          clear on2 rw2 HC
          go_wp2_with fail
          go_roundw
          case rel => exact ⟨k, _, _, rfl, rfl, by omega, HN⟩
          case measure => simp [intOf]
    | succ k =>
      obtain rfl : z = (k : Nat) := by omega
      have z0 : (0 : Int) ≤ (k : Int) := by omega
      have wk1 : IntKind.i64.wrap ((k : Int) - 1) = (k : Int) - 1 := IntWalk.i64_in _ (by omega)
      have HC := Lib.hid (sift_any wr b n c k hi a d' HS.out.rw' HS.out.n hb hF (by omega))
      clear hz
      go_wp2_with fail
      refine HC.out.mono ?_
      rintro e2 w2 ⟨rfl, on2, rw2⟩
      have HN : Hid (Ing w b n (siftDown lt hi a k d') D (fun d => heapPop lt a hi (heapBuild lt hi a k d)) w2) := Lib.hid ⟨HS.out.on.trans on2, rw2, by rw [sift_size]; exact HS.out.n, HS.out.eq⟩
      clear on2 rw2 HC HS
      go_wp2_with fail
      go_roundw
      case rel => exact ⟨k, _, _, rfl, rfl, by omega, HN⟩
      case measure => simp [intOf]
/-- what a call that turns the row about within [a, e) leaves -/
def Per (w : World) (b a e : Nat) (d : Array Nat) (en : Ending) (w' : World) : Prop := ∃ d', en = .returned (.tuple #[]) ∧ PermIn a e d d' ∧ On b w w' ∧ Rw w' b d'
set_option maxRecDepth 100000 in
set_option maxHeartbeats 8000000 in
theorem reverse_any (w : World) (b n c a e : Nat) (d : Array Nat) (h : Rw w b d) (hn : d.size = n) (hb : n ≤ 1099511627776) (hae : a < e) (he : e ≤ n) :
    Calls Try.prog 42 #[.slice (some ⟨b, 0, none⟩) n c, .int .i64 (a : Nat), .int .i64 (e : Nat)] w (Per w b a e d) := by
  obtain ⟨e1, he1⟩ : ∃ e1, e1 = e - 1 := ⟨_, rfl⟩
  have w1 : IntKind.i64.wrap ((e : Int) - 1) = (e1 : Int) := by rw [IntWalk.i64_in _ (by omega)]; omega
  have H0 : Hid (Rw w b d ∧ d.size = n ∧ PermIn a e d d ∧ On b w w) := Lib.hid ⟨h, hn, Go.Sort.permIn_refl d a e, .refl _ _⟩
  have HX := Lib.hid he1
  clear h hn he1
  go_enter Try.func42, Try.ntmps42
  go_wp2_with fail
  go_loopw [6, 7] (fun iv jv wr => ∃ (i j : Nat) (d' : Array Nat), iv = .int .i64 (i : Nat) ∧ jv = .int .i64 (j : Nat) ∧ a ≤ i ∧ j < e ∧ i ≤ e ∧ Hid (Rw wr b d' ∧ d'.size = n ∧ PermIn a e d d' ∧ On b w wr)) (fun iv _ _ => e - (intOf iv).toNat)
  case atStart => exact ⟨a, e1, d, rfl, rfl, Nat.le_refl _, by have := HX.out; omega, by omega, H0⟩
  case round =>
    obtain ⟨i, j, d', rfl, rfl, hi, hj, hie, HS⟩ := hrel
    clear H0
    by_cases hij : i < j
    · have hlt : (i : Int) < (j : Int) := by omega
      obtain ⟨j1, hj1⟩ : ∃ j1, j1 = j - 1 := ⟨_, rfl⟩
      have w1 : IntKind.i64.wrap ((j : Int) - 1) = (j1 : Int) := by rw [IntWalk.i64_in _ (by omega)]; omega
      have w2 : IntKind.i64.wrap ((i : Int) + 1) = (i : Int) + 1 := IntWalk.i64_in _ (by omega)
      have HJ := Lib.hid hj1
      have i0 : (0 : Int) ≤ (i : Int) := by omega
      have i1 : (i : Int) < (n : Int) := by omega
      have j0 : (0 : Int) ≤ (j : Int) := by omega
      have j2 : (j : Int) < (n : Int) := by omega
      have k1 := HS.out.1.c i (by rw [HS.out.2.1]; omega)
      have k2 := HS.out.1.c j (by rw [HS.out.2.1]; omega)
      obtain ⟨x, hx⟩ : ∃ x, x = d'[i]! := ⟨_, rfl⟩
      obtain ⟨y, hy⟩ : ∃ x, x = d'[j]! := ⟨_, rfl⟩
      rw [← hx] at k1
      rw [← hy] at k2
      have fj := HS.out.1.f i
      have fk := HS.out.1.f j
      have fk' := (frozenSet wr b i j (nv y)).trans fk
      obtain ⟨zz, kz⟩ := HS.out.1.mid (i := i) (j := j) (by rw [HS.out.2.1]; omega) (nv y)
      have HN : Hid (Rw ((wr.setCell ⟨b, i, none⟩ (nv y)).setCell ⟨b, j, none⟩ (nv x)).drew b (Go.Sort.swp d' i j) ∧ (Go.Sort.swp d' i j).size = n ∧ PermIn a e d (Go.Sort.swp d' i j) ∧ On b w ((wr.setCell ⟨b, i, none⟩ (nv y)).setCell ⟨b, j, none⟩ (nv x)).drew) := Lib.hid (by
        refine ⟨?_, by rw [Go.Sort.swp_size]; exact HS.out.2.1, Go.Sort.permIn_trans _ _ _ a e HS.out.2.2.1 (Go.Sort.swp_permIn _ a e i j (by omega) (by omega) (by omega) (by omega) (by rw [HS.out.2.1]; exact he)), HS.out.2.2.2.trans (On.swp ..)⟩
        rw [hx, hy]
        exact HS.out.1.swp (by rw [HS.out.2.1]; omega) (by rw [HS.out.2.1]; omega))
      clear HS hx hy hj1
      go_wp2_with fail
      go_region
      go_wp2_with fail
      go_roundw
      case rel => exact ⟨i + 1, j1, _, by go_num, rfl, by omega, by have := HJ.out; omega, by omega, HN⟩
      case measure => simp [intOf]; omega
    · have hlt : ¬ ((i : Int) < (j : Int)) := by omega
      go_wp2_with fail
      go_end0
      exact ⟨d', rfl, HS.out.2.2.1, HS.out.2.2.2, HS.out.1⟩
end Go.Proofs.Yteglhcpochcopaa.srt
