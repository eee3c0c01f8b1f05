/- slices.SortFunc's contract, at this dump: what the kit's shelf has, laid in plain words by its own tool (numbers of the seat of group d). Pairs are sorted by their keys. -/
import Derived.Test.YtenaddjnaeebbaaHamtCmp
import Derived.Shelf.SlSortCmp.WholeK
namespace Go.Proofs.Ytenaddjnaeebbaa.hamt
open Go.Shelf
def sortP_ren : Go.Shelf.Ren := ⟨fun | 6 => 33 | 15 => 51 | 14 => 50 | 28 => 73 | 29 => 74 | 20 => 65 | 21 => 66 | 22 => 67 | 23 => 68 | 24 => 69 | 25 => 70 | 26 => 71 | 27 => 72 | 46 => 77 | 47 => 78 | 48 => 79 | 49 => 80 | 50 => 81 | 57 => 83 | n => n, fun | 22 => 28 | 24 => 31 | 25 => 56 | 3 => 3 | 39 => 77 | 0 => 0 | 53 => 58 | 55 => 66 | 4 => 4 | 46 => 90 | 45 => 89 | 50 => 38 | 5 => 5 | 9 => 9 | 66 => 97 | 70 => 101 | 76 => 104 | 77 => 105 | n => n, fun | n => n⟩
theorem sortP : Go.Proofs.SlLaysF0.n6 Try.prog sortP_ren := {
  mixed := by kernel_rfl
  f6 := ⟨Try.f33.name, by decide, Try.func33.trans (congrArg some (by kernel_rfl))⟩
  f14 := ⟨Try.f50.name, by decide, Try.func50.trans (congrArg some (by kernel_rfl))⟩
  f15 := Try.func51.trans (congrArg some (by kernel_rfl))
  f20 := ⟨Try.f65.name, by decide, Try.func65.trans (congrArg some (by kernel_rfl))⟩
  f21 := ⟨Try.f66.name, by decide, Try.func66.trans (congrArg some (by kernel_rfl))⟩
  f22 := ⟨Try.f67.name, by decide, Try.func67.trans (congrArg some (by kernel_rfl))⟩
  f23 := ⟨Try.f68.name, by decide, Try.func68.trans (congrArg some (by kernel_rfl))⟩
  f24 := ⟨Try.f69.name, by decide, Try.func69.trans (congrArg some (by kernel_rfl))⟩
  f25 := ⟨Try.f70.name, by decide, Try.func70.trans (congrArg some (by kernel_rfl))⟩
  f26 := ⟨Try.f71.name, by decide, Try.func71.trans (congrArg some (by kernel_rfl))⟩
  f27 := ⟨Try.f72.name, by decide, Try.func72.trans (congrArg some (by kernel_rfl))⟩
  f28 := Try.func73.trans (congrArg some (by kernel_rfl))
  f29 := Try.func74.trans (congrArg some (by kernel_rfl))
  f46 := ⟨Try.f77.name, by decide, Try.func77.trans (congrArg some (by kernel_rfl))⟩
  f47 := Try.func78.trans (congrArg some (by kernel_rfl))
  f48 := Try.func79.trans (congrArg some (by kernel_rfl))
  f49 := ⟨Try.f80.name, by decide, Try.func80.trans (congrArg some (by kernel_rfl))⟩
  f50 := ⟨Try.f81.name, by decide, Try.func81.trans (congrArg some (by kernel_rfl))⟩
  f57 := ⟨Try.f83.name, by decide, Try.func83.trans (congrArg some (by kernel_rfl))⟩
  t0 := Try.underlying0
  a0 := Try.isAgg0
  z0 := Try.sizeOf0
  v0 := Try.zeroValue0
  t3 := Try.underlying3
  a3 := Try.isAgg3
  z3 := Try.sizeOf3
  v3 := Try.zeroValue3
  t4 := Try.underlying4
  a4 := Try.isAgg4
  z4 := Try.sizeOf4
  v4 := Try.zeroValue4
  t5 := Try.underlying5
  a5 := Try.isAgg5
  z5 := Try.sizeOf5
  v5 := Try.zeroValue5
  t9 := Try.underlying9
  a9 := Try.isAgg9
  z9 := Try.sizeOf9
  v9 := Try.zeroValue9
  t22 := Try.underlying28
  a22 := Try.isAgg28
  z22 := Try.sizeOf28
  v22 := Try.zeroValue28
  t25 := Try.underlying56
  a25 := Try.isAgg56
  z25 := Try.sizeOf56
  v25 := Try.zeroValue56
  t39 := Try.underlying77
  a39 := Try.isAgg77
  z39 := Try.sizeOf77
  v39 := Try.zeroValue77
  t45 := Try.underlying89
  a45 := Try.isAgg89
  z45 := Try.sizeOf89
  v45 := Try.zeroValue89
  t46 := Try.underlying90
  a46 := Try.isAgg90
  z46 := Try.sizeOf90
  v46 := Try.zeroValue90
  t50 := Try.underlying38
  a50 := Try.isAgg38
  z50 := Try.sizeOf38
  v50 := Try.zeroValue38
  t53 := Try.underlying58
  a53 := Try.isAgg58
  z53 := Try.sizeOf58
  v53 := Try.zeroValue58
  t55 := Try.underlying66
  a55 := Try.isAgg66
  z55 := Try.sizeOf66
  v55 := Try.zeroValue66
  t66 := Try.underlying97
  a66 := Try.isAgg97
  z66 := Try.sizeOf97
  v66 := Try.zeroValue97
  t70 := Try.underlying101
  a70 := Try.isAgg101
  z70 := Try.sizeOf101
  v70 := Try.zeroValue101
  t76 := Try.underlying104
  a76 := Try.isAgg104
  z76 := Try.sizeOf104
  v76 := Try.zeroValue104
  t77 := Try.underlying105
  a77 := Try.isAgg105
  z77 := Try.sizeOf105
  v77 := Try.zeroValue105 }
open Go.RowKit Go.Sort
theorem ltP (x y : Int × Int) : ltOf cfP x y = decide (x.1 < y.1) := by
  unfold ltOf cfP cfI
  by_cases h1 : x.1 < y.1
  · simp [h1]
  · by_cases h2 : y.1 < x.1 <;> simp [h1, h2]
theorem swoP : SWO (ltOf cfP) where
  irrefl x := by rw [ltP]; simp
  trans x y z h1 h2 := by rw [ltP] at *; simp at *; omega
  ntrans x y z h1 h2 := by rw [ltP] at *; simp at *; omega
theorem cmpP (blk off size : Nat) (w : World) : CmpLays Try.prog 34 #[] encP 2 cfP blk off size w :=
  fun _ _ _ _ x y => less_walk x y _
/-- pairs of the call's own are sorted by their keys -/
theorem sort_pairs (base g cap n : Nat) (L : PL) (w : World) (ho : w.ownsRow base 31 2 (.slice (some ⟨g, 0, none⟩) n cap) n (cellsP L)) (hl : L.length = n) (hn : n ≤ 8796093022208) :
    Calls Try.prog 33 #[.slice (some ⟨g, 0, none⟩) n cap, .func (.func 34) #[] #[]] w fun e w' => e = .returned (.tuple #[]) ∧
      ∃ M : PL, M.Perm L ∧ (M.Pairwise fun p q => p.1 ≤ q.1) ∧ w'.ownsRow base 31 2 (.slice (some ⟨g, 0, none⟩) n cap) n (cellsP M) ∧ w.grownBy w' (some g) := by
  have eg : ∀ args w, (callFunc 34 args).run Try.prog w = .ok (.enter 34 args) w := enters_of Try.func34 (by kernel_rfl) rfl
  have hg : ∃ cur, w.heap[g]? = some (.cells cur 31 (0, 0)) ∧ cur.toList.take (n * 2) = cellsP L := by
    rcases ho.2 with ⟨h0, _⟩ | ⟨g', cap', cur, hv, _, hg, _, _, _, ht⟩
    · cases h0
    · cases hv; exact ⟨cur, hg, ht⟩
  obtain ⟨cur, hg, ht⟩ := hg
  have hH : HoldsK encP 2 w g 0 L.toArray := holds_row hg (by rw [hl]; exact ht)
  have hblk : g < w.heap.size := (Array.getElem?_eq_some_iff.1 hg).1
  have hsz : L.toArray.size = n := by simpa using hl
  have hcon := AnyQ.slices_SortFunc sortP 2 Try.isAgg31 Try.sizeOf31 encP (fun _ => rfl) (fun x v hv => by simp [encP] at hv; rcases hv with rfl | rfl <;> rfl) cfP swoP 34 #[] g 0 cap L.toArray w eg (cmpP g 0 _ w) hH hblk (by rw [hsz]; omega)
  rw [hsz] at hcon
  change Calls Try.prog 33 _ _ _ at hcon
  refine hcon.mono ?_
  rintro e w' ⟨rfl, d', m, os, hp, hs, rfl⟩
  obtain ⟨hps, _, hpp⟩ := hp
  have hd : d'.size = n := by rw [hps, hsz]
  refine ⟨rfl, d'.toList, ?_, ?_, row_sorted (M := d'.toList) ho (by simpa using hd), grownBy_sortedP _⟩
  · rw [← hd, Array.extract_size] at hpp
    rw [hps, Array.extract_size] at hpp
    exact hpp
  · rw [List.pairwise_iff_getElem]
    intro i j hi hj hij
    have h := hs i j (Nat.zero_le _) hij (by rw [← hd]; simpa using hj)
    rw [ltP] at h
    have h1 : d'[i]! = d'.toList[i] := by rw [getElem!_pos d' i (by simpa using hi)]; simp
    have h2 : d'[j]! = d'.toList[j] := by rw [getElem!_pos d' j (by simpa using hj)]; simp
    rw [h1, h2] at h
    simp at h
    simpa using h
end Go.Proofs.Ytenaddjnaeebbaa.hamt
