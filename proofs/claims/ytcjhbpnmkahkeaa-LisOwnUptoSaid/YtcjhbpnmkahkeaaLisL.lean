/- lis.Piles, lis.Longest of 1, 2. -/
import Derived.Test.YtcjhbpnmkahkeaaLisW
import Derived.Test.YtcjhbpnmkahkeaaRevI
namespace Go.Proofs.Ytcjhbpnmkahkeaa.lis
open Go.RowKit Go Go.Shelf

def vals (xs : List Int) (P : List (List Nat)) : List (List Int) := P.map fun p => p.map fun i => xs.getD i 0
theorem vals_len (xs : List Int) (P : List (List Nat)) : (vals xs P).length = P.length := by simp [vals]
theorem vals_at (xs : List Int) (P : List (List Nat)) (k : Nat) : (vals xs P).getD k [] = (P.getD k []).map fun i => xs.getD i 0 := by
  unfold vals
  rw [List.getD_eq_getElem?_getD, List.getD_eq_getElem?_getD, List.getElem?_map]
  cases P[k]? <;> rfl
theorem map_getD {p : List Nat} {f : Nat → Int} {s : Nat} (h : s < p.length) : (p.map f).getD s 0 = f (p.getD s 0) := by
  rw [List.getD_eq_getElem?_getD, List.getD_eq_getElem?_getD, List.getElem?_map, List.getElem?_eq_getElem h]
  rfl
/-- the rows ahead of j are turned, and of row j the first k -/
structure Mid (xs : List Int) (P : List (List Nat)) (j k : Nat) (L : List (List Int)) : Prop where
  len : L.length = P.length
  lens : ∀ t, t < P.length → (L.getD t []).length = (P.getD t []).length
  done : ∀ t s, t < P.length → s < (P.getD t []).length → (t < j ∨ t = j ∧ s < k) → (L.getD t []).getD s 0 = xs.getD ((P.getD t []).getD s 0) 0
  left : ∀ t s, t < P.length → s < (P.getD t []).length → ¬ (t < j ∨ t = j ∧ s < k) → (L.getD t []).getD s 0 = ((P.getD t []).getD s 0 : Nat)
theorem Mid.start (xs : List Int) (P : List (List Nat)) : Mid xs P 0 0 (ints P) := by
  refine ⟨ints_len P, fun t _ => by rw [ints_at, List.length_map], fun t s _ _ h => absurd h (by omega), fun t s _ hs _ => ?_⟩
  rw [ints_at, map_getD hs]
  rfl
theorem Mid.step {xs : List Int} {P : List (List Nat)} {j k : Nat} {L : List (List Int)} (h : Mid xs P j k L) (hj : j < P.length) (hk : k < (P.getD j []).length) :
    Mid xs P j (k + 1) (L.set j ((L.getD j []).set k (xs.getD ((P.getD j []).getD k 0) 0))) := by
  have hjl : j < L.length := by rw [h.len]; exact hj
  have hkl : k < (L.getD j []).length := by rw [h.lens j hj]; exact hk
  refine ⟨by simp [h.len], fun t ht => ?_, fun t s ht hs hd => ?_, fun t s ht hs hd => ?_⟩
  · by_cases e : j = t
    · subst e; rw [getD_set_eq hjl, List.length_set]; exact h.lens j hj
    · rw [getD_set_ne e]; exact h.lens t ht
  · by_cases e : j = t
    · subst e
      rw [getD_set_eq hjl]
      by_cases e2 : k = s
      · subst e2
        rw [getD_set_eq hkl]
      · rw [getD_set_ne e2]
        exact h.done j s ht hs (by omega)
    · rw [getD_set_ne e]
      exact h.done t s ht hs (by omega)
  · by_cases e : j = t
    · subst e
      rw [getD_set_eq hjl, getD_set_ne (by omega)]
      exact h.left j s ht hs (by omega)
    · rw [getD_set_ne e]
      exact h.left t s ht hs (by omega)
theorem getD_mem_nat {l : List Nat} {k : Nat} (h : k < l.length) : l.getD k 0 ∈ l := by rw [List.getD_eq_getElem?_getD, List.getElem?_eq_getElem h]; exact List.getElem_mem h
theorem aux1 {P : List (List Nat)} {t s j k : Nat} (hk : (P.getD j []).length ≤ k) (hs : s < (P.getD t []).length) (hd : t < j + 1 ∨ t = j + 1 ∧ s < 0) : t < j ∨ t = j ∧ s < k := by
  by_cases e : t = j
  · subst e; omega
  · omega
theorem aux2 {t s j k : Nat} (h : t < j ∨ t = j ∧ s < k) : t < j + 1 ∨ t = j + 1 ∧ s < 0 := by omega
theorem getElem_getD (l : List Int) (s : Nat) (h : s < l.length) : l[s] = l.getD s 0 := by rw [List.getD_eq_getElem?_getD, List.getElem?_eq_getElem h]; rfl
theorem Mid.row {xs : List Int} {P : List (List Nat)} {j k : Nat} {L : List (List Int)} (h : Mid xs P j k L) (hk : (P.getD j []).length ≤ k) : Mid xs P (j + 1) 0 L :=
  ⟨h.len, h.lens, fun t s ht hs hd => h.done t s ht hs (aux1 hk hs hd), fun t s ht hs hd => h.left t s ht hs (fun h => hd (aux2 h))⟩
theorem Mid.end {xs : List Int} {P : List (List Nat)} {k : Nat} {L : List (List Int)} (h : Mid xs P P.length k L) : L = vals xs P := by
  apply List.ext_getElem (by rw [h.len, vals_len])
  intro t h1 h2
  have ht : t < P.length := by rw [← h.len]; exact h1
  have e1 : L[t] = L.getD t [] := by rw [List.getD_eq_getElem?_getD, List.getElem?_eq_getElem h1]; rfl
  have e2 : (vals xs P)[t] = (vals xs P).getD t [] := by rw [List.getD_eq_getElem?_getD, List.getElem?_eq_getElem h2]; rfl
  rw [e1, e2, vals_at]
  apply List.ext_getElem (by rw [h.lens t ht, List.length_map])
  intro s h3 h4
  have hs : s < (P.getD t []).length := by rw [← h.lens t ht]; exact h3
  rw [getElem_getD, h.done t s ht hs (.inl ht)]
  rw [List.getElem_map]
  congr 1
  rw [List.getD_eq_getElem?_getD, List.getElem?_eq_getElem hs]
  rfl
theorem Apart.tail {W : World} {B : Nat} {vb : Value} {bk : List Int} {vs : List Value} {L : List (List Int)} (h : Apart W B (vb :: vs) (bk :: L)) : Apart W B vs L := by
  refine ⟨by have := h.len; simpa using this, fun j hj => h.own (j + 1) (by simpa using hj), fun i j b hi hj hij he => ?_⟩
  have := h.ne (i + 1) (j + 1) b (by simpa using hi) (by simpa using hj) (by omega) (by simpa using he)
  simpa using this
theorem grownSet (W : World) (b o : Nat) (u : Value) : W.grownBy (W.setCell ⟨b, o, none⟩ u) (some b) :=
  ⟨rfl, rfl, rfl, by simp [World.setCell], fun k _ hne => Below.heap_setCell _ _ _ _ (fun e => hne (by rw [e]))⟩

/-- what a call that hands back rows of numbers leaves -/
def RetL (w : World) (L : List (List Int)) (e : Ending) (w' : World) : Prop :=
  ∃ v cs, e = .returned v ∧ w'.ownsRow w.heap.size 22 1 v L.length cs ∧ Apart w' w.heap.size cs L ∧ Below w.heap.size w w'
/-- while the rows are turned -/
structure PI (w : World) (xs : List Int) (P : List (List Nat)) (v : Value) (cs : List Value) (j k : Nat) (L : List (List Int)) (wr : World) : Prop where
  bel : Below w.heap.size w wr
  row : wr.ownsRow w.heap.size 22 1 v P.length cs
  ap : Apart wr w.heap.size cs L
  mid : Mid xs P j k L
theorem PI.at {w : World} {xs : List Int} {P : List (List Nat)} {gp capp : Nat} {cs : List Value} {j k : Nat} {L : List (List Int)} {wr : World} (h : PI w xs P (.slice (some ⟨gp, 0, none⟩) P.length capp) cs j k L wr) {t : Nat} (ht : t < P.length) :
    ∃ a c, cs.getD t nilS = .slice a (P.getD t []).length c ∧ wr.cell? ⟨gp, t, none⟩ = some (.slice a (P.getD t []).length c) ∧ (0 < (P.getD t []).length → ∃ g, a = some ⟨g, 0, none⟩ ∧ w.heap.size ≤ g ∧ ∀ s, s < (P.getD t []).length → wr.cell? ⟨g, s, none⟩ = some (.int .i64 ((L.getD t []).getD s 0)) ∧ wr.frozen? ⟨g, s, none⟩ = false) := by
  have hL : t < L.length := by rw [h.mid.len]; exact ht
  have ho := h.ap.own t hL
  obtain ⟨a, c, e, _, hr, hg⟩ := ho.form
  rw [h.mid.lens t ht] at e
  have hl : t < cs.length := by rw [h.ap.len]; exact hL
  have hcell : wr.cell? ⟨gp, t, none⟩ = some (cs.getD t nilS) := by
    rw [World.ownsRow.cellAt h.row t (by omega), List.getD_eq_getElem?_getD, List.getElem?_eq_getElem hl]
    rfl
  refine ⟨a, c, e, by rw [hcell, e], fun h0 => ?_⟩
  rcases hr with hr | ⟨b, o, hb, hr⟩
  · have := h.mid.lens t ht
    rw [hr] at this
    rw [← this] at h0
    cases h0
  · obtain ⟨g, hx, h1, _⟩ := hg _ hb
    cases hb
    simp only [Addr.mk.injEq] at hx
    obtain ⟨rfl, rfl, _⟩ := hx
    refine ⟨b, rfl, h1, fun s hs => ⟨?_, ?_⟩⟩
    · have h3 := hr s (by rw [h.mid.lens t ht]; exact hs)
      rw [Nat.zero_add] at h3
      exact h3
    · rw [e] at ho
      have ho' := ho
      unfold OwnI at ho'
      rw [h.mid.lens t ht] at ho'
      exact World.ownsRow.frozenAt ho' s
theorem PI.store {w : World} {xs : List Int} {P : List (List Nat)} {v : Value} {cs : List Value} {j k : Nat} {L : List (List Int)} {wr : World} (h : PI w xs P v cs j k L wr) (hj : j < P.length) (hk : k < (P.getD j []).length) {g c : Nat} (hcs : cs.getD j nilS = .slice (some ⟨g, 0, none⟩) (P.getD j []).length c) :
    PI w xs P v cs j (k + 1) (L.set j ((L.getD j []).set k (xs.getD ((P.getD j []).getD k 0) 0))) (wr.setCell ⟨g, k, none⟩ (.int .i64 (xs.getD ((P.getD j []).getD k 0) 0))) := by
  have hL : j < L.length := by rw [h.mid.len]; exact hj
  have ho := h.ap.own j hL
  rw [hcs] at ho
  have hg := (ho.block g rfl).1
  refine ⟨h.bel.setCell (p := ⟨g, k, none⟩) hg _, row_other h.row (grownSet _ _ _ _) (fun b hb he => ?_), h.ap.store hL hcs, h.mid.step hj hk⟩
  exact own_ty h.row ho (by decide) b hb he
set_option maxHeartbeats 4000000 in
set_option maxRecDepth 100000 in
theorem piles_any (a : Option Addr) (c : Nat) (xs : List Int) (w : World) (hl : xs.length ≤ 1048576) (hr : Reads w a xs) (hnone : a = none → c = 0) :
    Calls Try.prog 49 #[.slice a xs.length c] w (RetL w (vals xs (piles xs xs.length))) := by
  have hd := dealt_any a c xs w hl hr hnone
  have hok := piles_ok xs xs.length
  have hpl := hok.len
  obtain ⟨P, hP⟩ : ∃ P, P = piles xs xs.length := ⟨_, rfl⟩
  rw [← hP] at hok hpl ⊢
  have HP := Lib.hid hP
  have Hok := Lib.hid hok
  have Hr := Lib.hid hr
  clear hr hnone hP hok
  go_enter Try.func49, Try.ntmps49
  go_wp2_with fail
  refine hd.mono ?_
  rintro e w1 ⟨v, vb, cs, rfl, hrow, hap, hb⟩
  rw [← HP.out] at hrow hap
  obtain ⟨av, cv, rfl, hav⟩ := rowForm hrow
  have HI : Hid (PI w xs P (.slice av P.length cv) cs 0 0 (ints P) w1) := Lib.hid ⟨hb, hrow, hap.tail, Mid.start xs P⟩
  obtain ⟨m, hm⟩ : ∃ m, m = P.length := ⟨_, rfl⟩
  have Hm := Lib.hid hm
  have Hav := Lib.hid hav
  rw [← hm] at hpl ⊢
  clear hrow hap hb hd hm hav
  go_wp2_with fail
  go_loopw [16] (fun s16 wr => ∃ (j : Nat) (L : List (List Int)), j ≤ m ∧ s16 = .int .i64 j ∧ Hid (PI w xs P (.slice av P.length cv) cs j 0 L wr)) (fun s16 _ => m - (intOf s16).toNat)
  case atStart => exact ⟨0, _, Nat.zero_le _, rfl, HI⟩
  case round =>
    obtain ⟨j, L, hj, rfl, HJ⟩ := hrel
    by_cases hlt : j < m
    · have hjP : j < P.length := by rw [← Hm.out]; exact hlt
      obtain ⟨gp, capp, hv, _, _⟩ := HJ.out.row.form (by omega)
      simp only [Value.slice.injEq, true_and] at hv
      obtain ⟨rfl, hcv⟩ := hv
      obtain ⟨ar, cr, hcs, kr, hrr⟩ := HJ.out.at hjP
      obtain ⟨nr, hnr⟩ : ∃ nr, nr = (P.getD j []).length := ⟨_, rfl⟩
      have hm0 : P.getD j [] ∈ P := by rw [List.getD_eq_getElem?_getD, List.getElem?_eq_getElem hjP]; exact List.getElem_mem hjP
      have hnl : nr ≤ xs.length := by rw [hnr]; exact Hok.out.sz _ hm0
      have hlt0 := Hok.out.lt _ hm0
      rw [← hnr] at kr hcs
      have Hlt := Lib.hid hlt0
      have Hnr := Lib.hid hnr
      have Hcs := Lib.hid hcs
      have hj0 : (0 : Int) ≤ (j : Int) := by omega
      have hj1 : (j : Int) < (m : Int) := by omega
      clear hcs hrr hnr hm0 hlt0 hcv
      go_wp2_with fail
      go_loopw [22] (fun s22 wq => ∃ (k : Nat) (L : List (List Int)), k ≤ nr ∧ s22 = .int .i64 k ∧ Hid (PI w xs P (.slice (some ⟨gp, 0, none⟩) P.length cv) cs j k L wq)) (fun s22 _ => nr - (intOf s22).toNat)
      case atStart => exact ⟨0, _, Nat.zero_le _, rfl, HJ⟩
      case round =>
        obtain ⟨k, L, hk, rfl, HK⟩ := hrel
        by_cases hkn : k < nr
        · have hkP : k < (P.getD j []).length := by rw [← Hnr.out]; exact hkn
          obtain ⟨a2, c2, hcs2, _, hrr⟩ := HK.out.at hjP
          have hcs1 := Hcs.out
          rw [hcs2, ← Hnr.out] at hcs1
          simp only [Value.slice.injEq, true_and] at hcs1
          obtain ⟨rfl, rfl⟩ := hcs1
          obtain ⟨g, rfl, hg0, hgc⟩ := hrr (by omega)
          obtain ⟨kc, kf⟩ := hgc k hkP
          rw [HK.out.mid.left j k hjP hkP (by omega)] at kc
          obtain ⟨i, hi⟩ : ∃ i, i = (P.getD j []).getD k 0 := ⟨_, rfl⟩
          have hix : i < xs.length := by
            rw [hi]
            exact Hlt.out _ (getD_mem_nat hkP)
          have HK' := HK.out.store hjP hkP (c := c2) (g := g) hcs2
          rw [← hi] at kc HK'
          obtain ⟨b, o, rfl, hxs⟩ : ∃ b o, a = some ⟨b, o, none⟩ ∧ ∀ i, i < xs.length → w.cell? ⟨b, o + i, none⟩ = some (.int .i64 (xs.getD i 0)) := by
            rcases Hr.out with h | h
            · rw [h] at hix; cases hix
            · exact h
          obtain ⟨x, hx⟩ : ∃ x, x = xs.getD i 0 := ⟨_, rfl⟩
          have kx : wr.cell? ⟨b, o + i, none⟩ = some (.int .i64 x) := by
            rw [hx, HK.out.bel.cell (World.block_lt_of_cell? w _ (hxs i hix))]
            exact hxs i hix
          rw [← hx] at HK'
          have HK2 := Lib.hid HK'
          have hi0 : (0 : Int) ≤ (i : Int) := by omega
          have hi1 : (i : Int) < (xs.length : Int) := by omega
          have hk0 : (0 : Int) ≤ (k : Int) := by omega
          have hk1 : (k : Int) < (nr : Int) := by omega
          clear HK' hx hi hgc hrr hcs2 hxs
          go_wp2_with fail
          exact ⟨⟨k + 1, _, by omega, by go_num, HK2⟩, by simp [intOf]; omega⟩
        · have HK2 := Lib.hid (HK.out.mid.row (by rw [← Hnr.out]; omega))
          have HK3 : Hid (PI w xs P (.slice (some ⟨gp, 0, none⟩) P.length cv) cs (j + 1) 0 L wr) := Lib.hid ⟨HK.out.bel, HK.out.row, HK.out.ap, HK2.out⟩
          have hlt' : decide ((k : Int) < (nr : Int)) = false := by simp; omega
          go_wp2_with fail
          exact ⟨⟨j + 1, _, by omega, by go_num, HK3⟩, by simp [intOf]; omega⟩
    · have e : j = P.length := by rw [← Hm.out]; omega
      have hlt' : decide ((j : Int) < (m : Int)) = false := by simp; omega
      have hfin : RetL w (vals xs P) (.returned (.slice av m cv)) wr := by
        have h := HJ.out
        subst e
        have hL := h.mid.end
        rw [Hm.out]
        exact ⟨_, cs, rfl, by rw [vals_len]; exact h.row, by rw [← hL]; exact h.ap, h.bel⟩
      have Hfin := Lib.hid hfin
      clear hfin e
      go_wp2_with fail
      go_ret
      exact Hfin.out
end Go.Proofs.Ytcjhbpnmkahkeaa.lis
