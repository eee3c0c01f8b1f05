/- LisOwn: the lists are the asker's: the walk. -/
import Derived.Test.YtcjhbpnmkahkeaaLisM
import Derived.Test.YtcjhbpnmkahkeaaCat
import Derived.Test.YtcjhbpnmkahkeaaSame
import Derived.Test.YtcjhbpnmkahkeaaTwo
namespace Go.Proofs.Ytcjhbpnmkahkeaa.lis
open Go.RowKit Go Go.Shelf

/-- what stands at a place of rows of numbers -/
theorem rows_at {W : World} {B gp cap m : Nat} {cs : List Value} {L : List (List Int)} (hm : L.length = m) (hr : W.ownsRow B 22 1 (.slice (some ⟨gp, 0, none⟩) m cap) m cs) (h : Apart W B cs L) {t : Nat} (ht : t < m) :
    ∃ a c, cs.getD t nilS = .slice a (L.getD t []).length c ∧ W.cell? ⟨gp, t, none⟩ = some (.slice a (L.getD t []).length c) ∧ Reads W a (L.getD t []) ∧ (0 < (L.getD t []).length → ∃ g, a = some ⟨g, 0, none⟩ ∧ B ≤ g ∧ ∀ s, s < (L.getD t []).length → (W.cell? ⟨g, s, none⟩ = some (.int .i64 ((L.getD t []).getD s 0))) ∧ W.frozen? ⟨g, s, none⟩ = false) := by
  have hL : t < L.length := by omega
  have ho := h.own t hL
  obtain ⟨a, c, e, _, hrd, hg⟩ := ho.form
  have hl : t < cs.length := by rw [h.len]; exact hL
  have hcell : W.cell? ⟨gp, t, none⟩ = some (cs.getD t nilS) := by
    rw [World.ownsRow.cellAt hr t (by omega), List.getD_eq_getElem?_getD, List.getElem?_eq_getElem hl]
    rfl
  refine ⟨a, c, e, by rw [hcell, e], hrd, fun h0 => ?_⟩
  rcases hrd with hrd | ⟨b, o, hb, hrd⟩
  · rw [hrd] at h0; cases h0
  · obtain ⟨g, hx, h1, _⟩ := hg _ hb
    cases hb
    simp only [Addr.mk.injEq] at hx
    obtain ⟨rfl, rfl, _⟩ := hx
    refine ⟨b, rfl, h1, fun s hs => ⟨?_, ?_⟩⟩
    · have h3 := hrd s hs
      rw [Nat.zero_add] at h3
      exact h3
    · rw [e] at ho
      exact World.ownsRow.frozenAt ho s
/-- while even rows are overwritten: those of odd places stay -/
structure OI (w w1 : World) (B : Nat) (v0 : Value) (xs : List Int) (v : Value) (cs : List Value) (A L : List (List Int)) (wr : World) : Prop where
  bel : Below w.heap.size w wr
  own : OwnI 3 wr w.heap.size v0 xs
  row : wr.ownsRow B 22 1 v A.length cs
  ap : Apart wr B cs L
  len : L.length = A.length
  lens : ∀ t, (L.getD t []).length = (A.getD t []).length
  odd : ∀ t, t % 2 = 1 → L.getD t [] = A.getD t []
theorem OI.store {w w1 : World} {B : Nat} {v0 : Value} {xs : List Int} {v : Value} {cs : List Value} {A L : List (List Int)} {wr : World} (h : OI w w1 B v0 xs v cs A L wr) {j k g n c : Nat} {x : Int} (hj : j < A.length) (he : j % 2 = 0) (hcs : cs.getD j nilS = .slice (some ⟨g, 0, none⟩) n c) (hB : w.heap.size ≤ B) (hv0 : ∀ b, v0.ownBlock = some b → b < B) :
    OI w w1 B v0 xs v cs A (L.set j ((L.getD j []).set k x)) (wr.setCell ⟨g, k, none⟩ (.int .i64 x)) := by
  have hL : j < L.length := by rw [h.len]; exact hj
  have ho := h.ap.own j hL
  rw [hcs] at ho
  have hg := (ho.block g rfl).1
  refine ⟨h.bel.setCell (p := ⟨g, k, none⟩) (by show w.heap.size ≤ g; omega) _, OwnI.grown1 h.own (grownSet _ _ _ _) (fun b hb e => ?_), row_other h.row (grownSet _ _ _ _) (fun b hb he => ?_), h.ap.store hL hcs, by simp [h.len], fun t => ?_, fun t ht => ?_⟩
  · have := hv0 b hb
    have e' : g = b := by simpa using e
    omega
  · exact own_ty h.row ho (by decide) b hb he
  · by_cases e : j = t
    · subst e; rw [getD_set_eq hL, List.length_set]; exact h.lens j
    · rw [getD_set_ne e]; exact h.lens t
  · rw [getD_set_ne (by omega)]; exact h.odd t ht
theorem OI.up {w w1 : World} {B : Nat} {v0 : Value} {xs : List Int} {v : Value} {cs : List Value} {A L : List (List Int)} {wr W : World} (h : OI w w1 B v0 xs v cs A L wr) (hb : Below wr.heap.size wr W) : OI w w1 B v0 xs v cs A L W :=
  ⟨h.bel.trans (hb.mono h.bel.size), h.own.up hb, rowUp h.row hb, h.ap.up hb, h.len, h.lens, h.odd⟩

set_option maxHeartbeats 4000000 in
set_option maxRecDepth 100000 in
theorem owns (a : Option Addr) (c n : Nat) (xs : List Int) (x : Int) (w : World) (hn : xs.length = n) (hb : n ≤ 1048576) (hr : Reads w a xs) (hnone : a = none → c = 0) :
    Calls Try.prog 14 #[.slice a n c, .int .i64 x] w fun e w' => e = .returned (.bool true) ∧ Below w.heap.size w w' := by
  have hcat := cat_any a c xs w (by omega) hr hnone
  have hpb : ∀ W, Below w.heap.size w W → Calls Try.prog 49 #[.slice a n c] W (RetL W (vals xs (piles xs xs.length))) := fun W hW => by
    have := piles_any a c xs W (by omega) (hr.up hW) hnone
    rw [hn] at this
    rw [hn]
    exact this
  rw [hn] at hcat
  obtain ⟨A, hA⟩ : ∃ A, A = vals xs (piles xs n) := ⟨_, rfl⟩
  have hAl : A.length ≤ n := by rw [hA, vals_len]; exact (piles_ok xs n).len
  have hAr : ∀ t, (A.getD t []).length ≤ n := fun t => by
    rw [hA, vals_at, List.length_map]
    by_cases ht : t < (piles xs n).length
    · rw [List.getD_eq_getElem?_getD, List.getElem?_eq_getElem ht]
      exact (piles_ok xs n).sz _ (List.getElem_mem ht)
    · rw [List.getD_eq_getElem?_getD, List.getElem?_eq_none (by omega)]
      exact Nat.zero_le _
  have Hpb := Lib.hid hpb
  have Hn := Lib.hid hn
  have Hr := Lib.hid hr
  have HA := Lib.hid hA
  have Har := Lib.hid hAr
  have Hnone := Lib.hid hnone
  obtain ⟨m, hm⟩ : ∃ m, m = A.length := ⟨_, rfl⟩
  have Hm := Lib.hid hm
  have hmn : m ≤ n := by omega
  have hcat' := Lib.hid hcat
  clear hcat hpb hn hr hA hAr hnone hm hAl
  go_enter Try.func14, Try.ntmps14
  go_wp2_with fail
  refine hcat'.out.mono ?_
  rintro e w1 ⟨a1, c1, rfl, ho1, hb1⟩
  rw [Hn.out] at ho1 ⊢
  have Ho1 := Lib.hid ho1
  have Hb1 := Lib.hid hb1
  have hp1 : Calls Try.prog 49 #[.slice a1 n c1] w1 (RetL w1 A) := by
    have := piles_any a1 c1 xs w1 (by rw [Hn.out]; exact hb) ho1.reads (by rw [← Hn.out] at ho1; exact OwnI.none ho1)
    rw [Hn.out] at this
    rw [HA.out]
    exact this
  have Hp1 := Lib.hid hp1
  clear hp1 ho1 hb1
  go_wp2_with fail
  refine Hp1.out.mono ?_
  rintro e w2 ⟨v, cs, rfl, hrow, hap, hb2⟩
  obtain ⟨av, cv, rfl, _⟩ := rowForm hrow
  have hOI : OI w w1 w1.heap.size (.slice a1 n c1) xs (.slice av A.length cv) cs A A w2 := ⟨belowTrans Hb1.out hb2, Ho1.out.up hb2, hrow, hap, rfl, fun _ => rfl, fun _ _ => rfl⟩
  rw [← Hm.out] at hOI ⊢
  have HOI := Lib.hid hOI
  have hin : Reads (w2.alloc (.cells #[.int .i64 1, .int .i64 2] 3)) (some ⟨w2.heap.size, 0, none⟩) [1, 2] :=
    .inr ⟨w2.heap.size, 0, rfl, fun i hi => by
      have h := heap_alloc_new w2 (.cells #[.int .i64 1, .int .i64 2] 3)
      have hi' : i = 0 ∨ i = 1 := by simp at hi; omega
      rcases hi' with rfl | rfl
      · exact two_c0 h
      · exact two_c1 h⟩
  have hlo := longest_two w2.heap.size 2 _ hin
  have Hlo := Lib.hid hlo
  clear hin hlo hrow hap hb2 hOI Hp1
  go_wp2_with fail
  refine Hlo.out.mono ?_
  rintro e w3 ⟨⟨a3, c3, rfl⟩, hb3⟩
  have HO3 := Lib.hid (HOI.out.up (belowTrans (belowAlloc _ _) hb3))
  have hB1 : w.heap.size ≤ w1.heap.size := Hb1.out.size
  have hv0 : ∀ b, (Value.slice a1 n c1).ownBlock = some b → b < w1.heap.size := fun b hb => (Ho1.out.block b hb).2
  have Hv0 := Lib.hid hv0
  clear hb3 Hlo HOI hv0
  go_wp2_with fail
  go_loopw [7] (fun s7 wr => ∃ (j : Nat) (L : List (List Int)), j ≤ m ∧ s7 = .int .i64 j ∧ Hid (OI w w1 w1.heap.size (.slice a1 n c1) xs (.slice av m cv) cs A L wr)) (fun s7 _ => m - (intOf s7).toNat)
  case atStart => exact ⟨0, _, Nat.zero_le _, rfl, HO3⟩
  case round =>
    obtain ⟨j, L, hj, rfl, HJ⟩ := hrel
    by_cases hlt : j < m
    · have hjA : j < A.length := by rw [← Hm.out]; exact hlt
      have hrow := HJ.out.row
      rw [← Hm.out] at hrow
      obtain ⟨gp, cp, hv, _, _⟩ := hrow.form (by omega)
      simp only [Value.slice.injEq, true_and] at hv
      obtain ⟨rfl, _⟩ := hv
      obtain ⟨nr, hnr⟩ : ∃ nr, nr = (A.getD j []).length := ⟨_, rfl⟩
      have hnrn : nr ≤ n := by rw [hnr]; exact Har.out j
      have Hnr := Lib.hid hnr
      have hj0 : (0 : Int) ≤ (j : Int) := by omega
      have hj1 : (j : Int) < (m : Int) := by omega
      clear hrow hnr
      obtain ⟨wo, rfl⟩ : ∃ wo : World, wo = wr := ⟨_, rfl⟩
      by_cases he : j % 2 = 0
      · have he1 : (j : Int) % 2 = 0 := by omega
        have HE := Lib.hid he
        clear he
        go_wp2_with fail
        go_loopw [8] (fun s8 wr => ∃ (k : Nat) (L : List (List Int)), k ≤ nr ∧ s8 = .int .i64 k ∧ Hid (OI w w1 w1.heap.size (.slice a1 n c1) xs (.slice (some ⟨gp, 0, none⟩) m cv) cs A L wr)) (fun s8 _ => nr - (intOf s8).toNat)
        case atStart => exact ⟨0, _, Nat.zero_le _, rfl, HJ⟩
        case round =>
          obtain ⟨k, L2, hk, rfl, HK⟩ := hrel
          have hrow := HK.out.row
          rw [← Hm.out] at hrow
          obtain ⟨ar, cr, hcs, kr, _, hrr⟩ := rows_at (by rw [HK.out.len, Hm.out]) hrow HK.out.ap hlt
          rw [HK.out.lens j, ← Hnr.out] at kr hrr hcs
          by_cases hkn : k < nr
          · obtain ⟨g, rfl, _, hgc⟩ := hrr (by omega)
            obtain ⟨kc, kf⟩ := hgc k hkn
            have HK2 := Lib.hid (HK.out.store (k := k) (x := x) hjA HE.out hcs hB1 Hv0.out)
            have hk0 : (0 : Int) ≤ (k : Int) := by omega
            have hk1 : (k : Int) < (nr : Int) := by omega
            clear hrow hcs hrr hgc
            go_wp2_with fail
            exact ⟨⟨k + 1, _, by omega, by go_num, HK2⟩, by simp [intOf]; omega⟩
          · have hk1 : decide ((k : Int) < (nr : Int)) = false := by simp; omega
            clear hrow hcs hrr
            go_wp2_with fail
            exact ⟨⟨j + 1, _, by omega, by go_num, HK⟩, by simp [intOf]; omega⟩
      · have he1 : (j : Int) % 2 = 1 := by omega
        clear he
        go_wp2_with fail
        exact ⟨⟨j + 1, _, by omega, by go_num, HJ⟩, by simp [intOf]; omega⟩
    · have hlt' : decide ((j : Int) < (m : Int)) = false := by simp; omega
      have hsame := sameInts_self a1 a c1 c n xs wr Hn.out (by have h := HJ.out.own; rw [← Hn.out] at h; exact h.reads) (Hr.out.up HJ.out.bel) (by unfold maxLen; omega)
      have Hsame := Lib.hid hsame
      clear hsame
      go_wp2_with fail
      refine Hsame.out.mono ?_
      rintro e w4 ⟨rfl, q4, rfl⟩
      have HO4 := Lib.hid (HJ.out.up (belowDrewN wr q4))
      have hp4 := Hpb.out _ HO4.out.bel
      rw [Hn.out, ← HA.out] at hp4
      have Hp4 := Lib.hid hp4
      clear hp4
      go_wp2_with fail
      refine Hp4.out.mono ?_
      rintro e w5 ⟨v5, cs5, rfl, hrow5, hap5, hb5⟩
      have HO5 := Lib.hid (HO4.out.up hb5)
      obtain ⟨av5, cv5, rfl, _⟩ := rowForm hrow5
      rw [← Hm.out] at hrow5 ⊢
      have Hrow5 := Lib.hid hrow5
      have Hap5 := Lib.hid hap5
      clear hrow5 hap5 hb5 HJ HO4 Hp4
      go_wp2_with fail
      go_loopw [11, 12] (fun s11 s12 wr => ∃ (j : Nat), j % 2 = 1 ∧ j ≤ m + 2 ∧ s12 = .int .i64 j ∧ s11 = .bool true ∧ Hid (∃ q, wr = w5.drewN q)) (fun _ s12 _ => m + 2 - (intOf s12).toNat)
      case atStart => exact ⟨1, rfl, by omega, rfl, rfl, Lib.hid ⟨0, rfl⟩⟩
      case round =>
        obtain ⟨i, hi2, him, rfl, rfl, HQ⟩ := hrel
        have hod : OI w w1 w1.heap.size (.slice a1 n c1) xs (.slice av m cv) cs A L wr := by
          obtain ⟨q, rfl⟩ := HQ.out
          exact HO5.out.up (belowDrewN _ _)
        by_cases hlt : i < m
        · have hrow := hod.row
          rw [← Hm.out] at hrow
          obtain ⟨gp, cp, hv, _, _⟩ := hrow.form (by omega)
          simp only [Value.slice.injEq, true_and] at hv
          obtain ⟨rfl, _⟩ := hv
          obtain ⟨ar, cr, _, kr, hra, _⟩ := rows_at (by rw [hod.len, Hm.out]) hrow hod.ap hlt
          rw [hod.odd i hi2] at kr hra
          have hbd : Below w5.heap.size w5 wr := by
            obtain ⟨q, rfl⟩ := HQ.out
            exact belowDrewN _ _
          have hrow5 := rowUp Hrow5.out hbd
          obtain ⟨gp5, cp5, hv, _, _⟩ := hrow5.form (by omega)
          simp only [Value.slice.injEq, true_and] at hv
          obtain ⟨rfl, _⟩ := hv
          obtain ⟨br, dr, _, kr5, hrb, _⟩ := rows_at (by rw [Hm.out]) hrow5 (Hap5.out.up hbd) hlt
          obtain ⟨nr, hnr⟩ : ∃ nr, nr = (A.getD i []).length := ⟨_, rfl⟩
          have hnrn : nr ≤ n := by rw [hnr]; exact Har.out i
          have hsm : ∀ k, Calls Try.prog 19 #[.slice ar nr cr, .slice br nr dr] (wr.drewN k) fun e w'' => e = .returned (.bool true) ∧ ∃ m, w'' = wr.drewN m := fun k => by
            refine (sameInts_self ar br cr dr nr (A.getD i []) (wr.drewN k) hnr.symm (hra.up (belowDrewN _ _)) (hrb.up (belowDrewN _ _)) (by unfold maxLen; omega)).mono ?_
            rintro e w' ⟨rfl, m, rfl⟩
            exact ⟨rfl, _, drewN_add _ _ _⟩
          rw [← hnr] at kr kr5
          have Hsm := Lib.hid hsm
          have hi0 : (0 : Int) ≤ (i : Int) := by omega
          have hi1 : (i : Int) < (m : Int) := by omega
          have Hi2 := Lib.hid hi2
          have HQ' : ∀ k, Hid (∃ q, wr.drewN k = w5.drewN q) := fun k => Lib.hid (by
            obtain ⟨q, rfl⟩ := HQ.out
            exact ⟨_, drewN_add _ _ _⟩)
          clear hrow hra hrb hrow5 hnr hsm hi2 hod hbd
          go_wp2_with fail
          go_quiet ((go_at_call 19; exact Hsm.out _))
          go_wp2_with fail
          exact ⟨⟨i + 2, by have := Hi2.out; omega, by omega, by go_num, rfl, HQ' _⟩, by simp [intOf]; omega⟩
        · have hlt' : decide ((i : Int) < (m : Int)) = false := by simp; omega
          have Hfin := Lib.hid hod.bel
          clear hod
          go_wp2_with fail
          go_ret
          exact ⟨rfl, Hfin.out⟩
theorem owns_any (a : Option Addr) (c : Nat) (l : List Int) (x : Int) (w : World) (hb : l.length ≤ 1048576) (hr : Reads w a l) (hn : a = none → c = 0) :
    Calls Try.prog 14 #[.slice a l.length c, .int .i64 x] w fun e w' => e = .returned (.bool true) ∧ Below w.heap.size w w' :=
  owns a c l.length l x w rfl hb hr hn
end Go.Proofs.Ytcjhbpnmkahkeaa.lis
