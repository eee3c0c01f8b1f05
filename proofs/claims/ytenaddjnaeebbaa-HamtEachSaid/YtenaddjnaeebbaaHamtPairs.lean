/- All pairs of a map, by rising keys. -/
import Derived.Test.YtenaddjnaeebbaaHamtSort
import Derived.Shelf.SlSortCmp.NoneTotal
namespace Go.Proofs.Ytenaddjnaeebbaa.hamt
open Go.RowKit
open pat (PT OOk ocnt olist oput odrop oget tk I64 tk_lt tk_inj lk told)

theorem sort_none (p : Option Addr) (cap : Nat) (w : World) : Calls Try.prog 33 #[.slice p 0 cap, .func (.func 34) #[] #[]] w fun e w' => e = .returned (.tuple #[]) ∧ w' = w := by
  have h := AnyF.slices_SortFunc_none sortP p cap (.func (.func 34) #[] #[]) w
  change Calls Try.prog 33 _ _ _ at h
  exact h
theorem sort_any (base n : Nat) (v : Value) (L : PL) (w : World) (ho : w.ownsRow base 31 2 v n (cellsP L)) (hl : L.length = n) (hn : n ≤ 8796093022208) :
    Calls Try.prog 33 #[v, .func (.func 34) #[] #[]] w fun e w' => e = .returned (.tuple #[]) ∧
      ∃ M : PL, M.Perm L ∧ (M.Pairwise fun p q => p.1 ≤ q.1) ∧ w'.ownsRow base 31 2 v n (cellsP M) ∧ w.grownBy w' v.ownBlock := by
  have ho' := ho
  rcases ho.2 with ⟨rfl, h0⟩ | ⟨g, cap, cur, rfl, _⟩
  · subst h0
    refine (sort_none none 0 w).mono ?_
    rintro e w' ⟨rfl, rfl⟩
    have hL : L = [] := List.eq_nil_of_length_eq_zero hl
    subst hL
    exact ⟨rfl, [], List.Perm.refl _, List.Pairwise.nil, ho', grownBy.of _ (Below.refl _ _)⟩
  · exact sort_pairs base g cap n L w ho' hl hn
theorem rising_le {l : pat.KL} (h : pat.Rising l) : (l.map pat.back).Pairwise fun p q => p.1 ≤ q.1 := by
  induction l with
  | nil => exact List.Pairwise.nil
  | cons p l ih =>
    rw [List.map_cons, List.pairwise_cons]
    refine ⟨fun q hq => ?_, ih h.2⟩
    obtain ⟨x, hx, rfl⟩ := List.mem_map.1 hq
    have := h.1 x hx
    rw [back_key, back_key]
    omega
theorem sorted_told {L M : PL} {o : Option PT} (hs : Std L o) (ho : OOk o) (hp : M.Perm L) (hM : M.Pairwise fun p q => p.1 ≤ q.1) : M = told o := by
  have hpt := hp.trans (hs.perm ho)
  refine List.Perm.eq_of_pairwise (le := fun p q => p.1 ≤ q.1) (fun a b ha hb h1 h2 => ?_) hM (rising_le (pat.orising ho)) hpt
  have e : a.1 = b.1 := by omega
  have h3 := (told_dis ho).lk (k := a.1) (v := a.2) (hpt.subset ha)
  have h4 := (told_dis ho).lk (k := b.1) (v := b.2) hb
  rw [e, h4] at h3
  exact Prod.ext e (Option.some.inj h3.symm)
set_option maxRecDepth 100000 in
set_option maxHeartbeats 4000000 in
theorem Pairs_num (B : Nat) (w : World) (p : Option Addr) (o : Option PT) (m : Nat) (h : HO B w p o) (ho : OOk o) (hm : ocnt o = m) (hn : m ≤ 8796093022208) (xs : List (Int × Int)) (hx : told o = xs) :
    Calls Try.prog 12 #[.agg #[.pointer p]] w fun e w' => ∃ a c, e = .returned (.slice a m c) ∧ OwnP w' w.heap.size (.slice a m c) xs ∧ Below w.heap.size w w' := by
  obtain ⟨L, hq, hs, _, hll⟩ := h
  have hlen : L.length = m := by rw [hs.len ho, hm]
  have h1 := belowTrans (belowAlloc w (.cells #[.pointer p] 25)) (belowAlloc _ (.cells #[.slice none 0 0] 28))
  have hz0 := heapNew1 w (.cells #[.pointer p] 25) (.cells #[.slice none 0 0] 28)
  have hz := heapNew2 w (.cells #[.pointer p] 25) (.cells #[.slice none 0 0] 28)
  have hszz : ((w.alloc (.cells #[.pointer p] 25)).alloc (.cells #[.slice none 0 0] 28)).heap.size = w.heap.size + 2 := by simp
  have hG0 : GP (w.heap.size + 1) (w.heap.size + 2) w [] ((w.alloc (.cells #[.pointer p] 25)).alloc (.cells #[.slice none 0 0] 28)) := ⟨h1, Nat.le_succ _, Nat.lt_succ_self _, by rw [hszz]; exact Nat.le_refl _, _, hz, World.ownsRow_nil _ _ _ _⟩
  have HW : Hid (Calls Try.prog 31 #[.pointer p, .func (.func 32) #[] #[.pointer (some ⟨w.heap.size + 1, 0, none⟩)]] ((w.alloc (.cells #[.pointer p] 25)).alloc (.cells #[.slice none 0 0] 28)) fun e w' => e = .returned (.tuple #[]) ∧ GP (w.heap.size + 1) (w.heap.size + 2) w L w') := by
    rcases hq with ⟨rfl, rfl⟩ | ⟨b, rfl, hN⟩
    · refine Lib.hid ((walk_noneP _ _).mono ?_)
      rintro e w' ⟨rfl, rfl⟩
      exact ⟨rfl, hG0⟩
    · refine Lib.hid ?_
      have h := walk_anyP (w.heap.size + 1) 0 (fun x => B ≤ x) w 8796093022208 (GP (w.heap.size + 1) (w.heap.size + 2) w) (gp_vis _ _ B w) (Nat.le_refl _) 7 b L [] _ hN hG0 (by simp; omega)
      simpa using h
  have kz := cell_of_one hz0
  have HS := Lib.hid (And.intro hs (And.intro ho (And.intro hlen hx)))
  clear h1 hz0 hz hszz hG0 hq hs hlen hx hll
  go_enter Try.func12, Try.ntmps12
  go_wp2_with fail
  refine HW.out.mono ?_
  rintro e w1 ⟨rfl, hG⟩
  obtain ⟨v, hv, hown⟩ := hG.cO
  rw [HS.out.2.2.1] at hown
  obtain ⟨a, c, rfl⟩ := rowVal hown
  have k1 := cell_of_one hv
  have HG := Lib.hid (And.intro hG (And.intro hv hown))
  have HT := Lib.hid (sort_any (w.heap.size + 2) m (.slice a m c) L w1 hown HS.out.2.2.1 hn)
  clear hG hv hown HW kz
  go_wp2_with fail
  refine HT.out.mono ?_
  rintro e w2 ⟨rfl, M, hp, hM, ho2, hg2⟩
  have hv2 : w2.heap[w.heap.size + 1]? = some (.cells #[.slice a m c] 28 (0, 0)) := by
    refine (hg2.block _ (Array.getElem?_eq_some_iff.1 HG.out.2.1).1 (fun e => ?_)).trans HG.out.2.1
    have := (World.ownsRow.lt HG.out.2.2 _ e.symm).1
    omega
  have k2 := cell_of_one hv2
  have HF : Hid (OwnP w2 w.heap.size (.slice a m c) xs ∧ Below w.heap.size w w2) := by
    refine Lib.hid ⟨?_, HG.out.1.bel.grown hg2 HG.out.1.bel.size fun k e => by have := (World.ownsRow.lt HG.out.2.2 k e).1; omega⟩
    have e := sorted_told HS.out.1 HS.out.2.1 hp hM
    have hml : M.length = m := by rw [hp.length_eq]; exact HS.out.2.2.1
    rw [e, HS.out.2.2.2] at ho2 hml
    unfold OwnP
    rw [hml]
    exact ownsRow_lower ho2 (by omega)
  clear ho2 hg2 hp hM hv2 k1
  go_wp2_with fail
  go_ret
  exact ⟨a, c, rfl, HF.out.1, HF.out.2⟩
end Go.Proofs.Ytenaddjnaeebbaa.hamt
