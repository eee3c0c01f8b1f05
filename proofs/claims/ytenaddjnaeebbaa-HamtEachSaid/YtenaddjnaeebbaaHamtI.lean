/- One kid is put into a slice of the call's own. -/
import Derived.Test.YtenaddjnaeebbaaHamtD
import Derived.Lib.Overlaps
import Derived.Shelf.Spec.SlicesInsert
import Derived.Shelf.Spec.SlicesInsertGrow
namespace Go.Proofs.Ytenaddjnaeebbaa.hamt
open Go.RowKit Go.Lib Go.Shelf

theorem infoK1 : (Try.prog.info? 23).map (·.size) = some 1 := by
  obtain ⟨i0, hi, _, hz, _⟩ := info_parts infoK
  rw [hi]; simp [hz]
def RetIns (B n : Nat) (v : Value) (xs : List Value) (w : World) (e : Ending) (w' : World) : Prop :=
  ∃ a c, e = .returned (.slice a (n + 1) c) ∧ w'.ownsRow B 23 1 (.slice a (n + 1) c) (n + 1) xs ∧ w.grownBy w' v.ownBlock
set_option maxRecDepth 100000 in
set_option maxHeartbeats 2000000 in
/-- at the end -/
theorem Insert_end (B n G : Nat) (v x : Value) (xs : List Value) (w : World) (ho : w.ownsRow B 23 1 v n xs) (hB : B ≤ w.heap.size) (hG : w.heap[G]? = some (.cells #[x] 23 (0, 0))) (h1 : x.oneCell' = true) (hn : n ≤ 8796093022208) :
    Calls Try.prog 49 #[v, .int .i64 (n : Nat), .slice (some ⟨G, 0, none⟩) 1 1] w (RetIns B n v (xs ++ [x]) w) := by
  obtain ⟨a, c, rfl⟩ := rowVal ho
  have hca : (a = none → n = 0 ∧ c = 0) ∧ n ≤ c := by
    rcases ho.2 with ⟨h, h0⟩ | ⟨g, cap, cur, h, _, _, hnc, _⟩
    · cases h; exact ⟨fun _ => ⟨rfl, rfl⟩, Nat.le_refl _⟩
    · cases h; exact ⟨fun e => (by cases e), hnc⟩
  obtain ⟨i0, hi, hz0, hz1, hz2⟩ := info_parts infoK
  have HO := Lib.hid (And.intro ho (And.intro hG h1))
  have Hi := Lib.hid (And.intro hi (And.intro hz0 (And.intro hz1 hz2)))
  have n0 : (0 : Int) ≤ (n : Int) := by omega
  clear ho hG h1 hi hz0 hz1 hz2
  cases a with
  | none =>
    obtain ⟨rfl, rfl⟩ := hca.1 rfl
    clear hca
    go_enter Try.func49, Try.ntmps49
    go_wp2_with (at_builtin; obtain ⟨hi, hz0, hz1, hz2⟩ := Hi.out; refine wpList_append_own _ rfl _ _ 60 rfl B 23 i0 (.pointer none) 1 8 Try.underlying60 hi hz0 hz1 hz2 rfl (by decide) _ _ _ rfl HO.out.1 ⟨G, 0, none⟩ 1 1 [x] rfl rfl ?c1 ?c2 ?c3 ?c4 ?c5 ?_)
    case c1 => exact World.news_of_block (cs := #[x]) (t := 23) (fr := (0, 0)) HO.out.2.1
    case c2 => intro u hu; obtain rfl := List.mem_singleton.1 hu; exact HO.out.2.2
    case c3 => unfold maxLen; omega
    case c4 => omega
    case c5 => exact hB
    intro v' w1 hown hgrow _
    have HZ := Lib.hid (And.intro hown hgrow)
    clear hown hgrow
    obtain ⟨a, c, rfl⟩ := rowVal HZ.out.1
    go_wp2_with fail
    go_ret
    exact ⟨a, c, rfl, HZ.out.1, HZ.out.2⟩
  | some ad =>
    obtain ⟨g, hg⟩ : ∃ g, ad = ⟨g, 0, none⟩ := by
      rcases HO.out.1.2 with ⟨h, _⟩ | ⟨g, cap, cur, h, _⟩
      · cases h
      · cases h; exact ⟨g, rfl⟩
    subst hg
    have hnc := hca.2
    clear hca
    by_cases hcn : c = n
    · clear hnc
      subst hcn
      go_enter Try.func49, Try.ntmps49
      go_wp2_with (at_builtin; obtain ⟨hi, hz0, hz1, hz2⟩ := Hi.out; refine wpList_append_own _ rfl _ _ 60 rfl B 23 i0 (.pointer none) 1 8 Try.underlying60 hi hz0 hz1 hz2 rfl (by decide) _ _ _ rfl HO.out.1 ⟨G, 0, none⟩ 1 1 [x] rfl rfl ?c1 ?c2 ?c3 ?c4 ?c5 ?_)
      case c1 => exact World.news_of_block (cs := #[x]) (t := 23) (fr := (0, 0)) HO.out.2.1
      case c2 => intro u hu; obtain rfl := List.mem_singleton.1 hu; exact HO.out.2.2
      case c3 => unfold maxLen; omega
      case c4 => omega
      case c5 => exact hB
      intro v' w1 hown hgrow _
      have HZ := Lib.hid (And.intro hown hgrow)
      clear hown hgrow
      obtain ⟨a, c, rfl⟩ := rowVal HZ.out.1
      go_wp2_with fail
      go_ret
      exact ⟨a, c, rfl, HZ.out.1, HZ.out.2⟩
    · skip
      go_enter Try.func49, Try.ntmps49
      go_wp2_with (at_builtin; obtain ⟨hi, hz0, hz1, hz2⟩ := Hi.out; refine wpList_append_own _ rfl _ _ 60 rfl B 23 i0 (.pointer none) 1 8 Try.underlying60 hi hz0 hz1 hz2 rfl (by decide) _ _ _ rfl HO.out.1 ⟨G, 0, none⟩ 1 1 [x] rfl rfl ?c1 ?c2 ?c3 ?c4 ?c5 ?_)
      case c1 => exact World.news_of_block (cs := #[x]) (t := 23) (fr := (0, 0)) HO.out.2.1
      case c2 => intro u hu; obtain rfl := List.mem_singleton.1 hu; exact HO.out.2.2
      case c3 => unfold maxLen; omega
      case c4 => omega
      case c5 => exact hB
      intro v' w1 hown hgrow _
      have HZ := Lib.hid (And.intro hown hgrow)
      clear hown hgrow
      obtain ⟨a, c, rfl⟩ := rowVal HZ.out.1
      go_wp2_with fail
      go_ret
      exact ⟨a, c, rfl, HZ.out.1, HZ.out.2⟩

theorem ins_seg (l : List Value) (n i : Nat) (x : Value) (xs : List Value) (hx : xs.length = n) (hi : i < n) (ht : l.take n = xs) (hl : n + 1 ≤ l.length) :
    ((((l.take (i + 1) ++ xs.drop i ++ l.drop (i + 1 + (xs.drop i).length)).take i) ++ [x] ++ ((l.take (i + 1) ++ xs.drop i ++ l.drop (i + 1 + (xs.drop i).length)).drop (i + [x].length))).take (n + 1)) = xs.take i ++ x :: xs.drop i := by
  have h0 : (l.take (i + 1) ++ xs.drop i ++ l.drop (i + 1 + (xs.drop i).length)).take i = xs.take i := by
    rw [List.append_assoc, List.take_append, List.take_take, Nat.min_eq_left (Nat.le_succ i)]
    have : (l.take (i + 1)).length = i + 1 := by rw [List.length_take]; omega
    rw [this, show i - (i + 1) = 0 by omega, List.take_zero, List.append_nil, ← ht, List.take_take, Nat.min_eq_left (by omega)]
  have h1 : (l.take (i + 1) ++ xs.drop i ++ l.drop (i + 1 + (xs.drop i).length)).drop (i + [x].length) = xs.drop i ++ l.drop (i + 1 + (xs.drop i).length) := by
    rw [List.append_assoc]
    exact List.drop_left' (by rw [List.length_take]; simp; omega)
  rw [h0, h1, ← List.append_assoc]
  rw [List.take_left' (by simp only [List.length_append, List.length_take, List.length_drop, List.length_singleton, hx]; omega)]
  simp
set_option maxRecDepth 100000 in
set_option maxHeartbeats 2000000 in
/-- in the middle, where there is room -/
theorem Insert_room (B n i g cap G : Nat) (x : Value) (xs : List Value) (w : World) (ho : w.ownsRow B 23 1 (.slice (some ⟨g, 0, none⟩) n cap) n xs) (hi : i < n) (hroom : n + 1 ≤ cap) (hG : w.heap[G]? = some (.cells #[x] 23 (0, 0))) (hne : G ≠ g) (h1 : x.oneCell' = true) (hxs : ∀ u ∈ xs, u.oneCell' = true) (hn : n ≤ 8796093022208) :
    Calls Try.prog 49 #[.slice (some ⟨g, 0, none⟩) n cap, .int .i64 (i : Nat), .slice (some ⟨G, 0, none⟩) 1 1] w (RetIns B n (.slice (some ⟨g, 0, none⟩) n cap) (xs.take i ++ x :: xs.drop i) w) := by
  have hx : xs.length = n := by rw [ho.1, Nat.mul_one]
  rcases ho.2 with ⟨h0, _⟩ | ⟨g', cap', cur, hv, hB, hg, hnc, hcm, hcs, ht⟩
  · cases h0
  · cases hv
    rw [Nat.mul_one] at hcs ht
    have hdl : (xs.drop i).length = n - i := by rw [List.length_drop, hx]
    have hcell : ∀ j v, xs[j]? = some v → w.cell? ⟨g, j, none⟩ = some v := fun j v hj => by
      have h := World.ownsRow.cells (h := ho) (g := g) rfl j v hj
      rwa [addr_add, Nat.zero_add] at h
    have hcp1 : ∀ ty dc sc, (Builtin.copy_ #[60, 60] ty #[.slice (some ⟨g, i + 1, none⟩) (n - i) dc, .slice (some ⟨g, i, none⟩) (n + 1 - i) sc]).run Try.prog w.drew = .ok (goInt (xs.drop i).length) (w.drew.setCells g (i + 1) (xs.drop i)) := fun ty dc sc =>
      run_copy_cells w.drew _ _ ty 23 g (i + 1) (n - i) dc ⟨g, i, none⟩ (n + 1 - i) sc (xs.drop i) Try.underlying60 infoK1 (by rw [hdl]; simp only [Nat.min_def]; split <;> omega)
        (fun j v hj => by rw [addr_add]; exact hcell (i + j) v (by rwa [List.getElem?_drop] at hj))
        (fun j hj => cellIn (w := w.drew) hg (by omega)) (fun j _ => node_f (w := w.drew) hg) (fun v hv => hxs v (List.mem_of_mem_drop hv))
    obtain ⟨W1, hW1⟩ : ∃ W1, W1 = w.drew.setCells g (i + 1) (xs.drop i) := ⟨_, rfl⟩
    have hb1 := setCells_block (t := 23) (xs.drop i) (i + 1) w.drew cur hg (by omega)
    rw [← hW1] at hb1 hcp1
    have hsz1 : (cur.toList.take (i + 1) ++ xs.drop i ++ cur.toList.drop (i + 1 + (xs.drop i).length)).length = cur.size := by
      simp only [List.length_append, List.length_take, List.length_drop, Array.length_toList, hx]; omega
    obtain ⟨X, hX⟩ : ∃ X, X = cur.toList.take (i + 1) ++ xs.drop i ++ cur.toList.drop (i + 1 + (xs.drop i).length) := ⟨_, rfl⟩
    rw [← hX] at hb1 hsz1
    have hGW : W1.heap[G]? = some (.cells #[x] 23 (0, 0)) := by rw [hW1, (setCells_frame g (xs.drop i) (i + 1) w.drew).2.2.2.2 G hne]; exact hG
    have hcp2 : ∀ ty dc, (Builtin.copy_ #[60, 60] ty #[.slice (some ⟨g, i, none⟩) (n + 1 - i) dc, .slice (some ⟨G, 0, none⟩) 1 1]).run Try.prog W1 = .ok (goInt [x].length) (W1.setCells g i [x]) := fun ty dc =>
      run_copy_cells W1 _ _ ty 23 g i (n + 1 - i) dc ⟨G, 0, none⟩ 1 1 [x] Try.underlying60 infoK1 (by simp only [Nat.min_def, List.length_singleton]; split <;> omega)
        (World.news_of_block (cs := #[x]) hGW)
        (fun j hj => cellIn hb1 (by rw [List.size_toArray, hsz1]; simp at hj; omega)) (fun j _ => node_f hb1) (fun v hv => by obtain rfl := List.mem_singleton.1 hv; exact h1)
    have hov : ∀ lb cb, (callFunc 63 #[.slice (some ⟨G, 0, none⟩) 1 1, .slice (some ⟨g, i + 1, none⟩) lb cb]).run Try.prog w = .ok (.value (.bool false)) w := fun lb cb => by
      rw [run_callFunc_extern Try.func63 (by kernel_rfl) (by kernel_rfl) (by kernel_rfl) (e := Extern.SlicesOverlaps.overlaps #[60, 60] #[4]) (by kernel_rfl),
        Lib.run_overlaps_apart w 60 4 23 Try.underlying60 1 Try.sizeOf23 ⟨G, 0, none⟩ ⟨g, i + 1, none⟩ 1 1 lb cb hne 23 23 1 cur.size (by simp [World.shape?, hG]) (by simp [World.shape?, hg]) (by omega) (node_f hG) (node_f hG)]
      rfl
    have hfin : Hid (RetIns B n (.slice (some ⟨g, 0, none⟩) n cap) (xs.take i ++ x :: xs.drop i) w (.returned (.slice (some ⟨g, 0, none⟩) (n + 1) cap)) (W1.setCells g i [x])) := by
      have hb2 := setCells_block (t := 23) [x] i W1 _ hb1 (by rw [List.size_toArray, hsz1]; simp; omega)
      refine Lib.hid ⟨_, _, rfl, ⟨?_, .inr ⟨g, cap, _, rfl, hB, hb2, hroom, hcm, ?_, ?_⟩⟩, ?_⟩
      · simp only [List.length_append, List.length_take, List.length_cons, List.length_drop, hx]; omega
      · simp only [List.size_toArray, List.length_append, List.length_take, List.length_drop, hsz1, List.length_singleton]; omega
      · rw [Nat.mul_one, hX]
        exact ins_seg cur.toList n i x xs hx hi ht (by simp; omega)
      · refine grownBy.trans (w1 := W1) ?_ (setCells_grown _ _ _ _)
        rw [hW1]
        exact grownBy.trans (w1 := w.drew) (grownBy.of _ (belowDrew w)) (setCells_grown _ _ _ _)
    have i0 : (0 : Int) ≤ (i : Int) := by omega
    have i1 : (i : Int) ≤ (n : Int) := by omega
    have hz2 : ¬ ((i : Int) = (n : Int)) := by omega
    have hz3 : ¬ ((cap : Int) < (n : Int) + 1) := by omega
    have hz4 : (n : Int) + 1 ≤ (cap : Int) := by omega
    have hw1 : IntKind.i64.wrap ((i : Int) + 1) = ((i + 1 : Nat) : Int) := by rw [IntKind.wrap_i64]; omega
    have hw2 : IntKind.i64.wrap ((n : Int) + 1) = ((n + 1 : Nat) : Int) := by rw [IntKind.wrap_i64]; omega
    have hb5 : (0 : Int) ≤ (i : Int) + 1 := by omega
    have hb3 : (i : Int) ≤ (n : Int) + 1 := by omega
    have hb2 : ¬ (cap = i + 1) := by omega
    have hb4 : ¬ (cap = i) := by omega
    have hWn := Lib.hid hW1
    clear ho hg hcs ht hcell hdl hb1 hsz1 hGW hG h1 hxs hB hcm hx hW1 hX
    go_enter Try.func49, Try.ntmps49
    go_wp2_with (simp only [hov])
    go_region_law (refine step_copy_runI rfl _ _ 60 60 rfl _ _ (by simp [Act.eval, Act.put]) (by simp [Act.eval, Act.put]) (hcp1 _ _ _) ?_)
    go_wp2_with (at_builtin; refine wpList_copy_runI _ rfl _ _ 60 60 rfl _ _ rfl rfl (hcp2 _ _) ?_)
    go_ret
    exact hfin.out

theorem ins_seg2 (L : List Value) (n i : Nat) (x : Value) (xs : List Value) (hx : xs.length = n) (hi : i < n) (ht : L.take i = xs.take i) (hl : n + 1 ≤ L.length) :
    ((((L.take i ++ [x] ++ L.drop (i + [x].length)).take (i + 1)) ++ xs.drop i ++ ((L.take i ++ [x] ++ L.drop (i + [x].length)).drop (i + 1 + (xs.drop i).length))).take (n + 1)) = xs.take i ++ x :: xs.drop i := by
  have h0 : (L.take i ++ [x] ++ L.drop (i + [x].length)).take (i + 1) = xs.take i ++ [x] := by
    rw [List.take_left' (by simp only [List.length_append, List.length_take, List.length_singleton]; omega), ht]
  rw [h0]
  rw [List.take_left' (by simp only [List.length_append, List.length_take, List.length_drop, List.length_singleton, hx]; omega)]
  simp
set_option maxRecDepth 100000 in
set_option maxHeartbeats 4000000 in
/-- in the middle, where there is no room -/
theorem Insert_grow (B n i g cap G : Nat) (x : Value) (xs : List Value) (w : World) (ho : w.ownsRow B 23 1 (.slice (some ⟨g, 0, none⟩) n cap) n xs) (hBw : B ≤ w.heap.size) (hi : i < n) (hroom : cap < n + 1) (hG : w.heap[G]? = some (.cells #[x] 23 (0, 0))) (h1 : x.oneCell' = true) (hxs : ∀ u ∈ xs, u.oneCell' = true) (hn : n ≤ 8796093022208) :
    Calls Try.prog 49 #[.slice (some ⟨g, 0, none⟩) n cap, .int .i64 (i : Nat), .slice (some ⟨G, 0, none⟩) 1 1] w (RetIns B n (.slice (some ⟨g, 0, none⟩) n cap) (xs.take i ++ x :: xs.drop i) w) := by
  have hx : xs.length = n := by rw [ho.1, Nat.mul_one]
  rcases ho.2 with ⟨h0, _⟩ | ⟨g', cap', cur, hv, hB, hg, hnc, hcm, hcs, ht⟩
  · cases h0
  · cases hv
    rw [Nat.mul_one] at hcs ht
    have hcell : ∀ j v, xs[j]? = some v → w.cell? ⟨g, j, none⟩ = some v := fun j v hj => by
      have h := World.ownsRow.cells (h := ho) (g := g) rfl j v hj
      rwa [addr_add, Nat.zero_add] at h
    have hgw : g < w.heap.size := (Array.getElem?_eq_some_iff.1 hg).1
    have hGw : G < w.heap.size := (Array.getElem?_eq_some_iff.1 hG).1
    obtain ⟨t0, hi0, hz0, hzs, hzb⟩ := info_parts infoK
    have hdl : (xs.drop i).length = n - i := by rw [List.length_drop, hx]
    have hik : i + (n + 1 - i) = n + 1 := by omega
    have hold : (Builtin.firstCells t0.size i (.slice (some ⟨g, 0, none⟩) i cap)).run Try.prog w.drew = .ok (xs.take i).toArray w.drew := by
      rw [hzs]
      exact run_firstCells_some w.drew 1 i ⟨g, 0, none⟩ i cap (xs.take i) (by rw [List.length_take, hx]; omega) (fun j v hj => by
        rw [addr_add, Nat.zero_add]
        rw [List.getElem?_take] at hj
        split at hj
        · exact hcell j v hj
        · cases hj)
    have hrz : ∀ ty, (Builtin.append_ #[60, 3] ty #[.slice (some ⟨g, 0, none⟩) i cap, .int .i64 ((n + 1 - i : Nat) : Int)]).run Try.prog w =
        .ok (.slice (some ⟨w.heap.size, 0, none⟩) (n + 1) (grownCap w (n + 1) cap 23)) (w.drew.alloc (.cells ((xs.take i).toArray ++ Builtin.zeroCells (Value.pointer none).cells (n + 1 - i) ++ Builtin.zeroCells (Value.pointer none).cells (grownCap w (n + 1) cap 23 - (n + 1))) 23)) := fun ty => by
      have h := Lib.run_append_grow_zeros w 60 3 ty 23 t0 _ .i64 .i64 Try.underlying60 Try.underlying3 hi0 hz0 (some ⟨g, 0, none⟩) i cap (xs.take i) hold (n + 1 - i) (by omega) (by omega) (by omega) (by omega) (by rw [hzb]; omega) (by rw [hzb, hik]; exact growslice_fits hroom (by omega))
      rw [hik] at h
      exact h
    have hGn : n + 1 ≤ grownCap w (n + 1) cap 23 := grownCap_ge w _ _ _
    have hG63 : grownCap w (n + 1) cap 23 ≤ maxLen := grownCap_le_maxLen w (n + 1) cap 23 (by unfold maxLen; omega)
    obtain ⟨Gc, hGc⟩ : ∃ G, G = grownCap w (n + 1) cap 23 := ⟨_, rfl⟩
    rw [← hGc] at hrz hGn hG63
    obtain ⟨ROW, hROW⟩ : ∃ ROW : Array Value, ROW = (xs.take i).toArray ++ Builtin.zeroCells (Value.pointer none).cells (n + 1 - i) ++ Builtin.zeroCells (Value.pointer none).cells (Gc - (n + 1)) := ⟨_, rfl⟩
    rw [← hROW] at hrz
    have hRs : ROW.size = Gc := by
      rw [hROW]
      simp [Builtin.zeroCells, Value.cells, hx]
      omega
    have hRt : ROW.toList.take i = xs.take i := by
      rw [hROW]
      simp only [Array.toList_append, List.append_assoc]
      exact List.take_left' (by simp [hx]; omega)
    obtain ⟨W1, hW1⟩ : ∃ W1, W1 = w.drew.alloc (.cells ROW 23) := ⟨_, rfl⟩
    rw [← hW1] at hrz
    have hH : W1.heap[w.heap.size]? = some (.cells ROW 23 (0, 0)) := by rw [hW1]; exact heap_alloc_new w.drew _
    have hbw1 : Below w.heap.size w W1 := by rw [hW1]; exact belowTrans (belowDrew w) (belowAlloc w.drew _)
    have hcpA : ∀ ty dc, (Builtin.copy_ #[60, 60] ty #[.slice (some ⟨w.heap.size, i, none⟩) (n + 1 - i) dc, .slice (some ⟨G, 0, none⟩) 1 1]).run Try.prog W1 = .ok (goInt [x].length) (W1.setCells w.heap.size i [x]) := fun ty dc =>
      run_copy_cells W1 _ _ ty 23 w.heap.size i (n + 1 - i) dc ⟨G, 0, none⟩ 1 1 [x] Try.underlying60 infoK1 (by simp only [Nat.min_def, List.length_singleton]; split <;> omega)
        (World.news_of_block (cs := #[x]) (upb hbw1 hG)) (fun j hj => cellIn hH (by rw [hRs]; simp at hj; omega)) (fun j _ => node_f hH) (fun v hv => by obtain rfl := List.mem_singleton.1 hv; exact h1)
    have hb2 := setCells_block (t := 23) [x] i W1 ROW hH (by rw [hRs]; simp; omega)
    have hsz2 : (ROW.toList.take i ++ [x] ++ ROW.toList.drop (i + [x].length)).length = Gc := by
      simp only [List.length_append, List.length_take, List.length_drop, Array.length_toList, hRs, List.length_singleton]; omega
    obtain ⟨X, hX⟩ : ∃ X, X = ROW.toList.take i ++ [x] ++ ROW.toList.drop (i + [x].length) := ⟨_, rfl⟩
    rw [← hX] at hb2 hsz2
    obtain ⟨W2, hW2⟩ : ∃ W2, W2 = W1.setCells w.heap.size i [x] := ⟨_, rfl⟩
    rw [← hW2] at hb2 hcpA
    have hcpB : ∀ ty dc sc, (Builtin.copy_ #[60, 60] ty #[.slice (some ⟨w.heap.size, i + 1, none⟩) (n - i) dc, .slice (some ⟨g, i, none⟩) (n - i) sc]).run Try.prog W2.drew = .ok (goInt (xs.drop i).length) (W2.drew.setCells w.heap.size (i + 1) (xs.drop i)) := fun ty dc sc =>
      run_copy_cells W2.drew _ _ ty 23 w.heap.size (i + 1) (n - i) dc ⟨g, i, none⟩ (n - i) sc (xs.drop i) Try.underlying60 infoK1 (by rw [hdl]; simp only [Nat.min_def]; split <;> omega)
        (fun j v hj => by
          rw [addr_add]
          have hc := upc hbw1 (hcell (i + j) v (by rwa [List.getElem?_drop] at hj))
          have he : W2.heap[g]? = W1.heap[g]? := by rw [hW2]; exact (setCells_frame w.heap.size [x] i W1).2.2.2.2 g (by omega)
          show W2.cell? _ = _
          simp only [World.cell?, he] at hc ⊢
          exact hc)
        (fun j hj => cellIn (w := W2.drew) hb2 (by rw [List.size_toArray, hsz2]; omega)) (fun j _ => node_f (w := W2.drew) hb2) (fun v hv => hxs v (List.mem_of_mem_drop hv))
    have hfin : Hid (RetIns B n (.slice (some ⟨g, 0, none⟩) n cap) (xs.take i ++ x :: xs.drop i) w (.returned (.slice (some ⟨w.heap.size, 0, none⟩) (n + 1) Gc)) (W2.drew.setCells w.heap.size (i + 1) (xs.drop i))) := by
      have hb3 := setCells_block (t := 23) (xs.drop i) (i + 1) W2.drew X.toArray hb2 (by rw [List.size_toArray, hsz2]; omega)
      refine Lib.hid ⟨_, _, rfl, ⟨?_, .inr ⟨w.heap.size, Gc, _, rfl, hBw, hb3, hGn, hG63, ?_, ?_⟩⟩, ?_⟩
      · simp only [List.length_append, List.length_take, List.length_cons, List.length_drop, hx]; omega
      · simp only [List.size_toArray, List.length_append, List.length_take, List.length_drop, hsz2, hdl]; omega
      · rw [Nat.mul_one, hX]
        exact ins_seg2 ROW.toList n i x xs hx hi hRt (by rw [Array.length_toList, hRs]; omega)
      · have h2 : Below w.heap.size w W2 := by rw [hW2]; exact ⟨(setCells_frame _ _ _ _).1.trans hbw1.os, (setCells_frame _ _ _ _).2.1.trans hbw1.tape, (setCells_frame _ _ _ _).2.2.1.trans hbw1.output, by rw [(setCells_frame _ _ _ _).2.2.2.1]; exact hbw1.size, fun k hk => ((setCells_frame _ _ _ _).2.2.2.2 k (by omega)).trans (hbw1.block k hk)⟩
        have h3 : Below w.heap.size w (W2.drew.setCells w.heap.size (i + 1) (xs.drop i)) := ⟨(setCells_frame _ _ _ _).1.trans h2.os, (setCells_frame _ _ _ _).2.1.trans h2.tape, (setCells_frame _ _ _ _).2.2.1.trans h2.output, by rw [(setCells_frame _ _ _ _).2.2.2.1]; exact h2.size, fun k hk => ((setCells_frame _ _ _ _).2.2.2.2 k (by omega)).trans (h2.block k hk)⟩
        exact grownBy.of _ h3
    have i0 : (0 : Int) ≤ (i : Int) := by omega
    have i1 : (i : Int) ≤ (n : Int) := by omega
    have i2 : (i : Int) ≤ (cap : Int) := by omega
    have hz2 : ¬ ((i : Int) = (n : Int)) := by omega
    have hz3 : (cap : Int) < (n : Int) + 1 := by omega
    have hw1 : IntKind.i64.wrap ((i : Int) + 1) = ((i + 1 : Nat) : Int) := by rw [IntKind.wrap_i64]; omega
    have hw2 : IntKind.i64.wrap ((n : Int) + 1) = ((n + 1 : Nat) : Int) := by rw [IntKind.wrap_i64]; omega
    have hw3 : (n : Int) + 1 - (i : Int) = ((n + 1 - i : Nat) : Int) := by omega
    have hb5 : (0 : Int) ≤ (i : Int) + 1 := by omega
    have hb3 : (i : Int) ≤ (n : Int) + 1 := by omega
    have hGi : ¬ (Gc = i) := by omega
    have hGim : ¬ (Gc = i + 1) := by omega
    have hci : ¬ (cap = i) := by omega
    have HW := Lib.hid (And.intro hW1 hW2)
    clear ho hg hcs ht hcell hdl hH hb2 hsz2 hG h1 hxs hB hcm hx hW1 hW2 hX hRs hRt hROW hGc hold hi0 hz0 hzs hzb hbw1 hgw hGw hik hG63 hBw
    go_enter Try.func49, Try.ntmps49
    go_wp2_with (first
      | (at_builtin; refine Lib.wpList_append_run _ rfl _ _ _ _ rfl _ _ rfl rfl _ _ (hrz _) ?_)
      | (at_builtin; refine wpList_copy_runI _ rfl _ _ 60 60 rfl _ _ rfl rfl (hcpA _ _) ?_))
    go_region_law (refine step_copy_runI rfl _ _ 60 60 rfl _ _ (by simp [Act.eval, Act.put]) (by simp [Act.eval, Act.put]) (hcpB _ _ _) ?_)
    go_wp2_with fail
    go_ret
    exact hfin.out
theorem Insert_any (B n i G : Nat) (v x : Value) (xs : List Value) (w : World) (ho : w.ownsRow B 23 1 v n xs) (hB : B ≤ w.heap.size) (hi : i ≤ n) (hG : w.heap[G]? = some (.cells #[x] 23 (0, 0))) (hne : v.ownBlock ≠ some G) (h1 : x.oneCell' = true) (hxs : ∀ u ∈ xs, u.oneCell' = true) (hn : n ≤ 8796093022208) :
    Calls Try.prog 49 #[v, .int .i64 (i : Nat), .slice (some ⟨G, 0, none⟩) 1 1] w (RetIns B n v (xs.take i ++ x :: xs.drop i) w) := by
  have hx : xs.length = n := by rw [ho.1, Nat.mul_one]
  by_cases e : i = n
  · subst e
    have h := Insert_end B i G v x xs w ho hB hG h1 hn
    rw [List.take_of_length_le (by omega), List.drop_of_length_le (by omega)]
    exact h
  · rcases ho.2 with ⟨_, h0⟩ | ⟨g, cap, cur, hv, _⟩
    · omega
    · subst hv
      have hne' : G ≠ g := fun e2 => hne (by rw [e2]; rfl)
      by_cases hr : n + 1 ≤ cap
      · exact Insert_room B n i g cap G x xs w ho (by omega) hr hG hne' h1 hxs hn
      · exact Insert_grow B n i g cap G x xs w ho hB (by omega) (by omega) hG h1 hxs hn
end Go.Proofs.Ytenaddjnaeebbaa.hamt
