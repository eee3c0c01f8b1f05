/- One element is cut out of a slice of the call's own: of pairs, of kids. -/
import Derived.Test.YtenaddjnaeebbaaHamtC
import Derived.Test.YtenaddjnaeebbaaSetC
import Derived.Deep.RegionLaw
namespace Go.Proofs.Ytenaddjnaeebbaa.hamt
open Go.RowKit

/-- the operation 'clear', one element of some cells -/
theorem run_clear_one {P : Program} (w : World) (t e ty : TypeId) (z : Value) (ht : P.underlying t = some (.slice e)) (hv : ∀ w, (zeroValue e).run P w = .ok z w) (zs : List Value) (hz : (Builtin.zeroCells z.cells 1).toList = zs) (h1 : ∀ u ∈ zs, u.oneCell' = true) (b o c : Nat)
    (hc : ∀ j, j < zs.length → (w.cell? ⟨b, o + j, none⟩).isSome = true) (hf : ∀ j, j < zs.length → w.frozen? ⟨b, o + j, none⟩ = false) :
    (Builtin.clear_ #[t] ty #[.slice (some ⟨b, o, none⟩) 1 c]).run P w = .ok (.tuple #[]) (w.setCells b o zs) := by
  have hst := run_storeCells_cells (P := P) b o zs 0 w (by simpa using hc) (by simpa using hf) h1
  simp only [Nat.add_zero] at hst
  have hz' : Builtin.zeroCells z.cells 1 = zs.toArray := by rw [← hz]
  simp [Builtin.clear_, run_underlying ht, hv, hz', hst]
theorem cellIn {w : World} {g : Nat} {cur : Array Value} {t : Nat} (h : w.heap[g]? = some (.cells cur t (0, 0))) {j : Nat} (hj : j < cur.size) : (w.cell? ⟨g, j, none⟩).isSome = true := by
  simp [World.cell?, h, hj]
theorem cellAtIn {w : World} {g : Nat} {cur : Array Value} {t : Nat} (h : w.heap[g]? = some (.cells cur t (0, 0))) (j : Nat) : w.cell? ⟨g, j, none⟩ = cur[j]? := by
  simp [World.cell?, h]
theorem addr_add (g o z : Nat) : (⟨g, o, none⟩ : Addr).add z = ⟨g, o + z, none⟩ := by unfold Addr.add; split <;> simp_all
theorem take_mid (X Z Y : List Value) (m : Nat) (h : m ≤ X.length) : (X.take m ++ Z ++ Y).take m = X.take m := by
  rw [List.append_assoc]
  exact List.take_left' (by rw [List.length_take]; omega)
/-- what a row is behind a cut -/
theorem cut_row {i n s : Nat} {l cur R : List Value} (hl : l.length = n * s) (hi : i < n) (hc : cur.take (n * s) = l) :
    (cur.take (i * s) ++ l.drop ((i + 1) * s) ++ R).take ((n - 1) * s) = l.take (i * s) ++ l.drop ((i + 1) * s) := by
  have e1 : cur.take (i * s) = l.take (i * s) := by
    rw [← hc, List.take_take, Nat.min_eq_left (Nat.mul_le_mul_right s (by omega))]
  have hlen : (l.take (i * s) ++ l.drop ((i + 1) * s)).length = (n - 1) * s := by
    rw [List.length_append, List.length_take, List.length_drop, hl, Nat.min_eq_left (Nat.mul_le_mul_right s (by omega)), ← Nat.sub_mul, ← Nat.add_mul]
    congr 1
    omega
  rw [e1, ← hlen, List.take_left]
set_option maxRecDepth 100000 in
set_option maxHeartbeats 2000000 in
theorem DeleteP (B n i j g cap : Nat) (xs : List Value) (w : World) (ho : w.ownsRow B 31 2 (.slice (some ⟨g, 0, none⟩) n cap) n xs) (h1 : ∀ u ∈ xs, u.oneCell' = true) (hn : n ≤ 8796093022208) (hi : i < n) (hj : j = i + 1) :
    Calls Try.prog 57 #[.slice (some ⟨g, 0, none⟩) n cap, .int .i64 (i : Nat), .int .i64 (j : Nat)] w fun e w' =>
      e = .returned (.slice (some ⟨g, 0, none⟩) (n - 1) cap) ∧ w'.ownsRow B 31 2 (.slice (some ⟨g, 0, none⟩) (n - 1) cap) (n - 1) (xs.take (i * 2) ++ xs.drop (j * 2)) ∧ w.grownBy w' (some g) := by
  have hx : xs.length = n * 2 := ho.1
  rcases ho.2 with ⟨h0, _⟩ | ⟨g', cap', cur, hv, hB, hg, hnc, hcm, hcs, ht⟩
  · cases h0
  · cases hv
    obtain ⟨news, hnews⟩ : ∃ l, l = xs.drop (j * 2) := ⟨_, rfl⟩
    have hnl : news.length = (n - j) * 2 := by rw [hnews, List.length_drop, hx, ← Nat.sub_mul]
    obtain ⟨A, hA, hsrc⟩ : ∃ A : Addr, (if cap = j then some (⟨g, 0, none⟩ : Addr) else some ⟨g, j * 2, none⟩) = some A ∧ Hid (∀ t u, news[t]? = some u → w.drew.cell? (A.add t) = some u) := by
      have hget : ∀ t u, news[t]? = some u → w.cell? ⟨g, j * 2 + t, none⟩ = some u := by
        intro t u hu
        rw [hnews, List.getElem?_drop] at hu
        have h := World.ownsRow.cells (h := ho) (g := g) rfl _ _ hu
        rw [addr_add, Nat.zero_add] at h
        exact h
      by_cases h : cap = j
      · refine ⟨⟨g, 0, none⟩, by simp [h], fun t u hu => ?_⟩
        have h0 : news.length = 0 := by rw [hnl]; omega
        rw [List.length_eq_zero_iff.1 h0] at hu
        simp at hu
      · refine ⟨⟨g, j * 2, none⟩, by simp [h], fun t u hu => ?_⟩
        have h2 := hget t u hu
        rw [addr_add]
        exact h2
    have s2 : Hid (∀ u ∈ news, u.oneCell' = true) := Lib.hid fun u hu => h1 u (by rw [hnews] at hu; exact List.mem_of_mem_drop hu)
    have hcl : n * 2 ≤ cur.size := by rw [hcs]; omega
    have s3 : Hid (∀ t, t < news.length → (w.drew.cell? ⟨g, 0 + i * 2 + t, none⟩).isSome = true ∧ w.drew.frozen? ⟨g, 0 + i * 2 + t, none⟩ = false) := by
      refine Lib.hid fun t h => ⟨?_, node_f (w := w.drew) hg⟩
      rw [hnl] at h
      exact cellIn (w := w.drew) hg (by omega)
    obtain ⟨W1, hW1⟩ : ∃ W1, W1 = w.drew.setCells g (0 + i * 2) news := ⟨_, rfl⟩
    have hb1 := setCells_block (t := 31) news (0 + i * 2) w.drew cur hg (by rw [hnl]; omega)
    rw [← hW1, Nat.zero_add] at hb1
    have hsz1 : (cur.toList.take (i * 2) ++ news ++ cur.toList.drop (i * 2 + news.length)).length = cur.size := by
      simp only [List.length_append, List.length_take, List.length_drop, Array.length_toList, hnl]; omega
    have hz : ∀ W, (zeroValue 31).run Try.prog W = .ok (.agg #[.int .i64 0, .int .i64 0]) W := Try.zeroValue31
    have hlt1 : n - 1 < cap := by omega
    have hcle : ∀ ty, (Builtin.clear_ #[28] ty #[.slice (some ⟨g, (n - 1) * 2, none⟩) 1 (cap - (n - 1))]).run Try.prog W1 = .ok (.tuple #[]) (W1.setCells g ((n - 1) * 2) [.int .i64 0, .int .i64 0]) := fun ty =>
      run_clear_one W1 _ _ ty _ Try.underlying28 hz [.int .i64 0, .int .i64 0] (by kernel_rfl) (by simp [Value.oneCell']) g ((n - 1) * 2) _ (fun j hj => cellIn hb1 (by rw [List.size_toArray, hsz1]; simp at hj; omega)) (fun j _ => node_f hb1)
    have hfin : Hid ((W1.setCells g ((n - 1) * 2) [.int .i64 0, .int .i64 0]).ownsRow B 31 2 (.slice (some ⟨g, 0, none⟩) (n - 1) cap) (n - 1) (xs.take (i * 2) ++ xs.drop (j * 2)) ∧ w.grownBy (W1.setCells g ((n - 1) * 2) [.int .i64 0, .int .i64 0]) (some g)) := by
      have hb2 := setCells_block (t := 31) [.int .i64 0, .int .i64 0] ((n - 1) * 2) W1 _ hb1 (by rw [List.size_toArray, hsz1]; simp; omega)
      refine Lib.hid ⟨⟨?_, .inr ⟨g, cap, _, rfl, hB, hb2, by omega, hcm, ?_, ?_⟩⟩, ?_⟩
      · rw [List.length_append, List.length_take, List.length_drop, hx]; omega
      · simp only [List.size_toArray, List.length_append, List.length_take, List.length_drop, hsz1]; simp; omega
      · rw [take_mid _ _ _ _ (by rw [hsz1]; omega), hnews]
        subst hj
        exact cut_row hx hi ht
      · refine grownBy.trans (w1 := W1) ?_ (setCells_grown _ _ _ _)
        rw [hW1]
        exact grownBy.trans (w1 := w.drew) (grownBy.of _ (belowDrew w)) (setCells_grown _ _ _ _)
    have hWn := Lib.hid hW1
    have i0 : (0 : Int) ≤ (i : Int) := by omega
    have j0 : (0 : Int) ≤ (j : Int) := by omega
    have i1 : (j : Int) ≤ (n : Int) := by omega
    have hne : ¬ ((i : Int) = (j : Int)) := by omega
    have hij : (i : Int) ≤ (j : Int) := by omega
    have i2 : j ≤ cap := by omega
    have ic2 : (j : Int) ≤ (cap : Int) := by omega
    have ic3 : (i : Int) ≤ (cap : Int) := by omega
    have hsum : i + (n - j) = n - 1 := by omega
    have hsum2 : n - (n - 1) = 1 := by omega
    have hle2 : i + (n - j) ≤ cap := by omega
    clear hj
    have i3 : i ≤ cap := by omega
    have hq : n - 1 + 1 = n := by omega
    obtain ⟨t0, hti, _, htz, _⟩ := info_parts infoP
    have hsA : news.length = (n - j) * 2 := hnl
    have HA := Lib.hid (And.intro hti (And.intro htz hsA))
    skip
    clear ho hb1 hsz1 hg hcs ht hcl hnews hnl hx h1 hz hti htz hsA hW1 hB hcm
    go_enter Try.func57, Try.ntmps57
    go_wp2_with fail
    go_region_law (refine step_append_room rfl (.tmp 22) (.tmp 25) 28 rfl 31 t0 2 Try.underlying28 HA.out.1 HA.out.2.1 g 0 i cap (by simp [Act.eval, Act.put]) A (n - j) (cap - j) news (by first | (simp [Act.eval, Act.put]; done) | (simp [Act.eval, Act.put]; exact hA)) HA.out.2.2 hsrc.out s2.out hle2 s3.out ?_; rw [← hWn.out, hsum])
    all_goals
      go_wp2_with fail
      go_ret
      skip
      exact ⟨rfl, hfin.out.1, hfin.out.2⟩
set_option maxRecDepth 100000 in
set_option maxHeartbeats 2000000 in
theorem DeleteK (B n i j g cap : Nat) (xs : List Value) (w : World) (ho : w.ownsRow B 23 1 (.slice (some ⟨g, 0, none⟩) n cap) n xs) (h1 : ∀ u ∈ xs, u.oneCell' = true) (hn : n ≤ 8796093022208) (hi : i < n) (hj : j = i + 1) :
    Calls Try.prog 58 #[.slice (some ⟨g, 0, none⟩) n cap, .int .i64 (i : Nat), .int .i64 (j : Nat)] w fun e w' =>
      e = .returned (.slice (some ⟨g, 0, none⟩) (n - 1) cap) ∧ w'.ownsRow B 23 1 (.slice (some ⟨g, 0, none⟩) (n - 1) cap) (n - 1) (xs.take (i * 1) ++ xs.drop (j * 1)) ∧ w.grownBy w' (some g) := by
  have hx : xs.length = n * 1 := ho.1
  rcases ho.2 with ⟨h0, _⟩ | ⟨g', cap', cur, hv, hB, hg, hnc, hcm, hcs, ht⟩
  · cases h0
  · cases hv
    obtain ⟨news, hnews⟩ : ∃ l, l = xs.drop (j * 1) := ⟨_, rfl⟩
    have hnl : news.length = (n - j) * 1 := by rw [hnews, List.length_drop, hx, ← Nat.sub_mul]
    obtain ⟨A, hA, hsrc⟩ : ∃ A : Addr, (if cap = j then some (⟨g, 0, none⟩ : Addr) else some ⟨g, j * 1, none⟩) = some A ∧ Hid (∀ t u, news[t]? = some u → w.drew.cell? (A.add t) = some u) := by
      have hget : ∀ t u, news[t]? = some u → w.cell? ⟨g, j * 1 + t, none⟩ = some u := by
        intro t u hu
        rw [hnews, List.getElem?_drop] at hu
        have h := World.ownsRow.cells (h := ho) (g := g) rfl _ _ hu
        rw [addr_add, Nat.zero_add] at h
        exact h
      by_cases h : cap = j
      · refine ⟨⟨g, 0, none⟩, by simp [h], fun t u hu => ?_⟩
        have h0 : news.length = 0 := by rw [hnl]; omega
        rw [List.length_eq_zero_iff.1 h0] at hu
        simp at hu
      · refine ⟨⟨g, j * 1, none⟩, by simp [h], fun t u hu => ?_⟩
        have h2 := hget t u hu
        rw [addr_add]
        exact h2
    have s2 : Hid (∀ u ∈ news, u.oneCell' = true) := Lib.hid fun u hu => h1 u (by rw [hnews] at hu; exact List.mem_of_mem_drop hu)
    have hcl : n * 1 ≤ cur.size := by rw [hcs]; omega
    have s3 : Hid (∀ t, t < news.length → (w.drew.cell? ⟨g, 0 + i * 1 + t, none⟩).isSome = true ∧ w.drew.frozen? ⟨g, 0 + i * 1 + t, none⟩ = false) := by
      refine Lib.hid fun t h => ⟨?_, node_f (w := w.drew) hg⟩
      rw [hnl] at h
      exact cellIn (w := w.drew) hg (by omega)
    obtain ⟨W1, hW1⟩ : ∃ W1, W1 = w.drew.setCells g (0 + i * 1) news := ⟨_, rfl⟩
    have hb1 := setCells_block (t := 23) news (0 + i * 1) w.drew cur hg (by rw [hnl]; omega)
    rw [← hW1, Nat.zero_add] at hb1
    have hsz1 : (cur.toList.take (i * 1) ++ news ++ cur.toList.drop (i * 1 + news.length)).length = cur.size := by
      simp only [List.length_append, List.length_take, List.length_drop, Array.length_toList, hnl]; omega
    have hz : ∀ W, (zeroValue 23).run Try.prog W = .ok (.pointer none) W := Try.zeroValue23
    have hlt1 : n - 1 < cap := by omega
    have hcle : ∀ ty, (Builtin.clear_ #[60] ty #[.slice (some ⟨g, (n - 1) * 1, none⟩) 1 (cap - (n - 1))]).run Try.prog W1 = .ok (.tuple #[]) (W1.setCells g ((n - 1) * 1) [.pointer none]) := fun ty =>
      run_clear_one W1 _ _ ty _ Try.underlying60 hz [.pointer none] (by kernel_rfl) (by simp [Value.oneCell']) g ((n - 1) * 1) _ (fun j hj => cellIn hb1 (by rw [List.size_toArray, hsz1]; simp at hj; omega)) (fun j _ => node_f hb1)
    have hfin : Hid ((W1.setCells g ((n - 1) * 1) [.pointer none]).ownsRow B 23 1 (.slice (some ⟨g, 0, none⟩) (n - 1) cap) (n - 1) (xs.take (i * 1) ++ xs.drop (j * 1)) ∧ w.grownBy (W1.setCells g ((n - 1) * 1) [.pointer none]) (some g)) := by
      have hb2 := setCells_block (t := 23) [.pointer none] ((n - 1) * 1) W1 _ hb1 (by rw [List.size_toArray, hsz1]; simp; omega)
      refine Lib.hid ⟨⟨?_, .inr ⟨g, cap, _, rfl, hB, hb2, by omega, hcm, ?_, ?_⟩⟩, ?_⟩
      · rw [List.length_append, List.length_take, List.length_drop, hx]; omega
      · simp only [List.size_toArray, List.length_append, List.length_take, List.length_drop, hsz1]; simp; omega
      · rw [take_mid _ _ _ _ (by rw [hsz1]; omega), hnews]
        subst hj
        exact cut_row hx hi ht
      · refine grownBy.trans (w1 := W1) ?_ (setCells_grown _ _ _ _)
        rw [hW1]
        exact grownBy.trans (w1 := w.drew) (grownBy.of _ (belowDrew w)) (setCells_grown _ _ _ _)
    have hWn := Lib.hid hW1
    have i0 : (0 : Int) ≤ (i : Int) := by omega
    have j0 : (0 : Int) ≤ (j : Int) := by omega
    have i1 : (j : Int) ≤ (n : Int) := by omega
    have hne : ¬ ((i : Int) = (j : Int)) := by omega
    have hij : (i : Int) ≤ (j : Int) := by omega
    have i2 : j ≤ cap := by omega
    have ic2 : (j : Int) ≤ (cap : Int) := by omega
    have ic3 : (i : Int) ≤ (cap : Int) := by omega
    have hsum : i + (n - j) = n - 1 := by omega
    have hsum2 : n - (n - 1) = 1 := by omega
    have hle2 : i + (n - j) ≤ cap := by omega
    clear hj
    have i3 : i ≤ cap := by omega
    have hq : n - 1 + 1 = n := by omega
    obtain ⟨t0, hti, _, htz, _⟩ := info_parts infoK
    have hsA : news.length = (n - j) * 1 := hnl
    have HA := Lib.hid (And.intro hti (And.intro htz hsA))
    simp only [Nat.mul_one] at hA hcle hfin
    clear ho hb1 hsz1 hg hcs ht hcl hnews hnl hx h1 hz hti htz hsA hW1 hB hcm
    go_enter Try.func58, Try.ntmps58
    go_wp2_with fail
    go_region_law (refine step_append_room rfl (.tmp 22) (.tmp 25) 60 rfl 23 t0 1 Try.underlying60 HA.out.1 HA.out.2.1 g 0 i cap (by simp [Act.eval, Act.put]) A (n - j) (cap - j) news (by first | (simp [Act.eval, Act.put]; done) | (simp [Act.eval, Act.put]; exact hA)) HA.out.2.2 hsrc.out s2.out hle2 s3.out ?_; rw [← hWn.out, hsum])
    all_goals
      go_wp2_with fail
      go_ret
      simp only [Nat.mul_one]
      exact ⟨rfl, hfin.out.1, hfin.out.2⟩
end Go.Proofs.Ytenaddjnaeebbaa.hamt
