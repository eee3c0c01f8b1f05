/- lis.dealt: the walk. -/
import Derived.Test.YtcjhbpnmkahkeaaLisI
import Derived.Test.YtcjhbpnmkahkeaaGather
import Derived.Deep.Cut
import Derived.Deep.RegionLaw
import Derived.Test.YtcjhbpnmkahkeaaMore
namespace Go.Proofs.Ytcjhbpnmkahkeaa.lis
open Go.RowKit Go Go.Shelf

theorem Apart.lower {W : World} {B B' : Nat} {vs : List Value} {L : List (List Int)} (h : Apart W B vs L) (hb : B' ≤ B) : Apart W B' vs L := ⟨h.len, fun j hj => ownsRow_lower (h.own j hj) hb, h.ne⟩
def RetD (w : World) (xs : List Int) (e : Ending) (w' : World) : Prop :=
  ∃ v vb cs, e = .returned (.tuple #[v, vb]) ∧ w'.ownsRow w.heap.size 22 1 v (piles xs xs.length).length cs ∧ Apart w' w.heap.size (vb :: cs) (backs xs xs.length :: ints (piles xs xs.length)) ∧ Below w.heap.size w w'
theorem last_ints {p : List Nat} {s : Nat} (h : p.length = s + 1) : (p.map Int.ofNat).getD s 0 = ((p.getLastD 0 : Nat) : Int) := by
  rw [List.getLastD_eq_getLast?, List.getLast?_eq_getElem?, h, Nat.add_sub_cancel, List.getD_eq_getElem?_getD, List.getElem?_map, List.getElem?_eq_getElem (by omega)]
  rfl
theorem ints_deal_new {l : List Int} {i : Nat} {P : List (List Nat)} (h : spot l P (l.getD i 0) = P.length) : ((ints P ++ [[]]).set P.length ((ints P ++ [[]]).getD P.length [] ++ [(i : Int)])) = ints (deal l i P) := by
  unfold deal
  rw [if_pos h]
  have e : (ints P).length = P.length := ints_len P
  rw [← e]
  simp [List.getD_eq_getElem?_getD, ints]
theorem ints_deal_old {l : List Int} {i : Nat} {P : List (List Nat)} (h : spot l P (l.getD i 0) ≠ P.length) : (ints P).set (spot l P (l.getD i 0)) ((ints P).getD (spot l P (l.getD i 0)) [] ++ [(i : Int)]) = ints (deal l i P) := by
  unfold deal
  rw [if_neg h, ints_at]
  unfold ints
  rw [List.map_set]
  simp
set_option maxHeartbeats 4000000 in
set_option maxRecDepth 100000 in
theorem dealt_any (a : Option Addr) (c : Nat) (xs : List Int) (w : World) (hl : xs.length ≤ 1048576) (hr : Reads w a xs) (hnone : a = none → c = 0) :
    Calls Try.prog 81 #[.slice a xs.length c] w (RetD w xs) := by
  obtain ⟨i0, hi, hz0, hz1, hz2⟩ := info_parts infoInt
  obtain ⟨j0, hj, hy0, hy1, hy2⟩ := info_parts infoRLL
  have Hr := Lib.hid hr
  have Hnone := Lib.hid hnone
  clear hr hnone
  go_enter Try.func81, Try.ntmps81
  go_wp2_with fail
  go_loopw [3, 11] (fun s3 s11 wr => ∃ (k : Nat) (v : Value) (cs : List Value) (vb : Value), k ≤ xs.length ∧ s11 = .int .i64 k ∧ vb = s3 ∧ Hid (DI w.heap.size w a xs.length c (ints (piles xs k)) (backs xs k) v cs vb wr)) (fun _ s11 _ => xs.length - (intOf s11).toNat)
  case atStart => 
    refine ⟨0, nilS, [], nilS, Nat.zero_le _, rfl, rfl, Lib.hid ⟨belowTrans (belowAlloc _ _) (belowAlloc _ _), by simp, ?_, ?_, World.ownsRow_nil _ _ _ _, ⟨rfl, fun j hj => ?_, fun i j b hi hj hij => ?_⟩⟩⟩
    · exact heapNew1 _ _ _
    · exact heapNew2 _ _ _
    · obtain rfl : j = 0 := by simpa [ints, piles] using hj
      exact World.ownsRow_nil _ _ _ _
    · have h1 : i = 0 := by simpa [ints, piles] using hi
      have h2 : j = 0 := by simpa [ints, piles] using hj
      omega
  case round =>
    obtain ⟨k, v, cs, vb, hk, rfl, rfl, HD⟩ := hrel
    by_cases hlt : k < xs.length
    · obtain ⟨b, o, rfl, hxs⟩ : ∃ b o, a = some ⟨b, o, none⟩ ∧ ∀ i, i < xs.length → w.cell? ⟨b, o + i, none⟩ = some (.int .i64 (xs.getD i 0)) := by
        rcases Hr.out with h | h
        · rw [h] at hlt; cases hlt
        · exact h
      have hP := piles_ok xs k
      have hpl := hP.len
      obtain ⟨x, hx⟩ : ∃ x, x = xs.getD k 0 := ⟨_, rfl⟩
      have hx0 : wr.cell? ⟨b, o + k, none⟩ = some (.int .i64 x) := by
        rw [hx, HD.out.bel.cell (World.block_lt_of_cell? w _ (hxs k hlt))]
        exact hxs k hlt
      have hxs1 : ∀ i, i < xs.length → wr.cell? ⟨b, o + i, none⟩ = some (.int .i64 (xs.getD i 0)) := fun i hi => by
        rw [HD.out.bel.cell (World.block_lt_of_cell? w _ (hxs i hi))]
        exact hxs i hi
      have Hxs := Lib.hid hxs1
      have HX := Lib.hid hx
      have HP := Lib.hid hP
      obtain ⟨av, cv, rfl, hav⟩ := rowForm HD.out.row
      obtain ⟨m, hm⟩ : ∃ m, m = (ints (piles xs k)).length := ⟨_, rfl⟩
      have hm' : m = (piles xs k).length := by rw [hm, ints_len]
      have hmk : m ≤ k := by omega
      rw [← hm] at HD
      have kb2 := cell_of_one HD.out.b2
      have hz1' : w.heap.size + 1 < wr.heap.size := by have := HD.out.sz; omega
      have HM := Lib.hid hm
      have HM' := Lib.hid hm'
      have Hav := Lib.hid hav
      have hk0 : (0 : Int) ≤ (k : Int) := by omega
      have hk1 : (k : Int) < (xs.length : Int) := by omega
      have hup := HD.out.up (belowAlloc wr (.cells #[.int .i64 x] 3))
      have hsea := search_any (wr.alloc (.cells #[.int .i64 x] 3)) (p3 := wr.heap.size) x hup (fun j hj => upc (belowAlloc _ _) (hxs1 j hj)) hP hk (cell_of_one (heap_alloc_new _ _)) hl
      rw [← hm'] at hsea
      obtain ⟨p, hp⟩ : ∃ p, p = spot xs (piles xs k) x := ⟨_, rfl⟩
      rw [← hp] at hsea
      have hpm : p ≤ m := by rw [hp, hm']; exact spot_le _ _ _
      have hL1 : p = m → (ints (piles xs k) ++ [[]]).set m ((ints (piles xs k) ++ [[]]).getD m [] ++ [(k : Int)]) = ints (piles xs (k + 1)) := fun e => by
        have := ints_deal_new (l := xs) (i := k) (P := piles xs k) (by rw [← hx, ← hp, e, hm'])
        rw [← hm'] at this
        exact this
      have hL2 : p ≠ m → (ints (piles xs k)).set p ((ints (piles xs k)).getD p [] ++ [(k : Int)]) = ints (piles xs (k + 1)) := fun e => by
        have := ints_deal_old (l := xs) (i := k) (P := piles xs k) (by rw [← hx, ← hp, ← hm']; exact e)
        rw [← hx, ← hp] at this
        exact this
      have hB1 : backs xs (k + 1) = backs xs k ++ [backOf xs k (piles xs k)] := rfl
      have hBo : backOf xs k (piles xs k) = if p = 0 then (-1 : Int) else (((piles xs k).getD (p - 1) []).getLastD 0 : Nat) := by unfold backOf; rw [← hx, ← hp]
      have Hp := Lib.hid hp
      have HL1 := Lib.hid hL1
      have HL2 := Lib.hid hL2
      have HBo := Lib.hid hBo
      have Hhav := Lib.hid hav
      have HPok := Lib.hid hP
      clear hm hm' hav hx hxs hxs1 hP hpl hup hp hL1 hL2 hB1 hBo
      go_wp2_with fail
      refine hsea.mono ?_
      rintro e W2 ⟨rfl, hb2⟩
      have hDa := HD.out.up (belowAlloc wr (.cells #[.int .i64 x] 3))
      have hD2 := hDa.up hb2
      have kb2' := cell_of_one hD2.b2
      have HD2 := Lib.hid hD2
      clear hsea hb2 kb2 hDa hD2 hx0
      by_cases hpe : p = m
      case' pos =>
        obtain rfl : p = m := hpe
        have hDn := HD2.out.up (belowAlloc W2 (.cells #[nilS] 22))
        have hrow := hDn.row
        rw [← HM.out] at hrow
        have Hrow := Lib.hid hrow
        have HDn := Lib.hid hDn
        clear hDn hrow
        go_wp2_with (at_builtin; refine wpList_append_lies _ rfl (.tmp 24) (.tmp 25) 71 rfl (w.heap.size + 2) 22 j0 (.slice none 0 0) 1 24 Try.underlying71 hj hy0 hy1 hy2 rfl (by decide) _ _ cs rfl Hrow.out ⟨W2.heap.size, 0, none⟩ 1 1 [nilS] rfl rfl (World.news_of_block (cs := #[nilS]) (heap_alloc_new _ _)) (by simp [Value.oneCell']) (by decide) (by unfold maxLen; omega) (by omega) (by have := HDn.out.sz; exact this) (W2.heap.size + 1) (by simp) ?_)
        intro gp capp W3 hown hgrow hat hlt3
        obtain ⟨_, _, _, hfb⟩ := HDn.out.far hgrow (fun b hb => (HDn.out.row.lt b hb).1)
        have kb3 := cell_of_one hfb
        have kf3 : W3.frozen? ⟨w.heap.size + 1, 0, none⟩ = false := by simp [World.frozen?, hfb]
        have hD3 := HDn.out.nilApp (v' := .slice (some ⟨gp, 0, none⟩) (p + 1) capp) hgrow (by rw [← HM.out]; exact hown)
        have HD3 := Lib.hid hD3
        have HL : Hid ((ints (piles xs k) ++ [[]]).length = p + 1) := Lib.hid (by rw [List.length_append, ← HM.out]; rfl)
        have HS := Lib.hid (HL1.out (by trivial))
        have HT : Hid (∀ j, j < p → (ints (piles xs k) ++ [[]]).getD j [] = ((piles xs k).getD j []).map Int.ofNat) := Lib.hid fun j hj => by
          rw [← ints_at, List.getD_eq_getElem?_getD, List.getElem?_append_left (by rw [← HM.out]; exact hj), ← List.getD_eq_getElem?_getD]
        have hnr : Hid (((ints (piles xs k) ++ [[]]).getD p []).length ≤ k) := Lib.hid (by
          have e : (ints (piles xs k) ++ [[]]).getD p [] = [] := by rw [HM.out]; simp [List.getD_eq_getElem?_getD]
          rw [e]; exact Nat.zero_le _)
        obtain ⟨ml, hml⟩ : ∃ ml, ml = p + 1 := ⟨_, rfl⟩
        have hplt : p < ml := by omega
        have hmlk : ml ≤ k + 1 := by omega
        clear hD3 hown hgrow hat hfb
        go_upto_region 8 with (fail)
        generalize W3.setCell ⟨w.heap.size + 1, 0, none⟩ (.slice (some ⟨gp, 0, none⟩) (p + 1) capp) = Wx at *
        generalize ints (piles xs k) ++ [[]] = L' at *
        generalize cs ++ [nilS] = cs' at *
        rw [← hml] at HD3 HL
        clear Hrow HDn HD2 HL1 HL2 kb3 kf3 kb2' hlt3
      case' neg =>
        have hpm' : p < m := by omega
        obtain ⟨gp, capp, hav', _, _⟩ := HD2.out.row.form (by rw [← HM.out]; omega)
        rw [← HM.out] at hav'
        simp only [Value.slice.injEq, true_and] at hav'
        obtain ⟨rfl, hcap⟩ := hav'
        have hcap' := hcap.symm
        subst hcap'
        have HD3 := HD2
        have HL : Hid ((ints (piles xs k)).length = m) := Lib.hid HM.out.symm
        have HS := Lib.hid (HL2.out hpe)
        have HT : Hid (∀ j, j < p → (ints (piles xs k)).getD j [] = ((piles xs k).getD j []).map Int.ofNat) := Lib.hid fun j hj => ints_at _ _
        have hnr : Hid (((ints (piles xs k)).getD p []).length ≤ k) := Lib.hid (by
          rw [ints_at, List.length_map, List.getD_eq_getElem?_getD, List.getElem?_eq_getElem (by rw [← HM'.out]; exact hpm')]
          exact HPok.out.sz _ (List.getElem_mem _))
        obtain ⟨ml, hml⟩ : ∃ ml, ml = m := ⟨_, rfl⟩
        have hplt : p < ml := by omega
        have hmlk : ml ≤ k + 1 := by omega
        have hpi : ¬ (p : Int) = (m : Int) := by omega
        go_upto_region 8 with (fail)
        obtain ⟨Wx, hWx⟩ : ∃ Wx, Wx = W2 := ⟨_, rfl⟩
        rw [← hWx] at HD3 ⊢
        obtain ⟨L', hL'⟩ : ∃ L', L' = ints (piles xs k) := ⟨_, rfl⟩
        rw [← hL'] at HD3 HL HS HT hnr
        rw [← hml] at HD3 HL
        obtain ⟨cs', hcs⟩ : ∃ cs', cs' = cs := ⟨_, rfl⟩
        rw [← hcs] at HD3
        clear HD2 HL1 HL2 kb2' hWx hL' hpi hcs
      all_goals
        obtain ⟨ar, cr, _, kr, kfr, hgplt, hgp2, _, hrs, hown, _⟩ := HD3.out.at (j := p) (gp := gp) (capp := capp) (by rw [HL.out]) (by rw [HL.out]; exact hplt)
        obtain ⟨nr, hnrr⟩ : ∃ nr, nr = (L'.getD p []).length := ⟨_, rfl⟩
        rw [← hnrr] at kr hown
        have hnrk : nr ≤ k := by rw [hnrr]; exact hnr.out
        have hz1x : w.heap.size + 1 < Wx.heap.size := by have := HD3.out.sz; omega
        have kb := cell_of_one HD3.out.b2
        have kl := cell_of_one HD3.out.b1
        obtain ⟨bv, hbv⟩ : ∃ bv, bv = backOf xs k (piles xs k) := ⟨_, rfl⟩
        have Hbv := Lib.hid hbv
        have hvb : OwnI 3 Wx (w.heap.size + 2) vb (backs xs k) := HD3.out.ap.own 0 (by simp)
        have hvb2 := OwnI.up hvb (belowAlloc Wx (.cells #[.int .i64 bv] 3))
        unfold OwnI at hvb2
        rw [backs_len] at hvb2
        have Hvb := Lib.hid hvb2
        have Hnrr := Lib.hid hnrr
        have HDx := Lib.hid (HD3.out.up (belowAlloc Wx (.cells #[.int .i64 bv] 3)))
        have Hown := Lib.hid hown
        have Hrs := Lib.hid hrs
        clear hvb hvb2 hbv hnrr hown hrs hnr
        have hp0' : (0 : Int) ≤ (p : Int) := by omega
        have hp1' : (p : Int) < (ml : Int) := by omega
        by_cases hp0 : p = 0
        case' pos =>
          have hb1 : bv = -1 := by rw [Hbv.out, HBo.out, if_pos hp0]
          have hpz : ¬ (0 : Int) < (p : Int) := by omega
          subst hb1
          clear hp0
        case' neg =>
          obtain ⟨q, hq0⟩ : ∃ q, p = q + 1 := ⟨p - 1, by omega⟩
          have e1 : IntKind.i64.wrap ((p : Int) - 1) = (q : Int) := by rw [IntWalk.i64_in _ (by omega)]; omega
          have e2 : (q : Int) < (ml : Int) := by omega
          have e3 : (0 : Int) ≤ (q : Int) := by omega
          have e4 : (0 : Int) < (p : Int) := by omega
          obtain ⟨aq, cq, _, kq, _, _, _, _, _, _, hq⟩ := HD3.out.at (j := q) (gp := gp) (capp := capp) (by rw [HL.out]) (by rw [HL.out]; omega)
          have hPq : (piles xs k).getD q [] ≠ [] := HPok.out.ne _ (by rw [List.getD_eq_getElem?_getD, List.getElem?_eq_getElem (by rw [← HM'.out]; omega)]; exact List.getElem_mem _)
          have hPs : ((piles xs k).getD q []).length ≤ k := HPok.out.sz _ (by rw [List.getD_eq_getElem?_getD, List.getElem?_eq_getElem (by rw [← HM'.out]; omega)]; exact List.getElem_mem _)
          rw [HT.out q (by omega), List.length_map] at kq hq
          obtain ⟨s, hs⟩ : ∃ s, ((piles xs k).getD q []).length = s + 1 := ⟨((piles xs k).getD q []).length - 1, by have := List.length_pos_iff.2 hPq; omega⟩
          rw [hs] at kq hq hPs
          obtain ⟨gq, rfl, hq2⟩ := hq (by omega)
          have kq2 := hq2 s (by omega)
          have hbv' : bv = (((piles xs k).getD q []).map Int.ofNat).getD s 0 := by
            rw [Hbv.out, HBo.out, if_neg (by omega), hq0, Nat.add_sub_cancel, last_ints hs]
          rw [← hbv'] at kq2
          have f1 : IntKind.i64.wrap (((s + 1 : Nat) : Int) - 1) = (s : Int) := by rw [IntWalk.i64_in _ (by omega)]; omega
          have f2 : (s : Int) < ((s + 1 : Nat) : Int) := by omega
          have f3 : (0 : Int) ≤ (s : Int) := by omega
          have f4 : (s : Int) ≤ 1048576 := by omega
          have Hs := Lib.hid hs
          clear hPq hPs hq hq2 hs hbv' hq0 hp0
        all_goals
          go_wp2_with (at_builtin; refine wpList_append_lies _ rfl (.tmp 40) (.tmp 42) 22 rfl (w.heap.size + 2) 3 i0 (.int .i64 0) 1 8 Try.underlying22 hi hz0 hz1 hz2 rfl (by decide) _ _ _ rfl Hvb.out ⟨Wx.heap.size, 0, none⟩ 1 1 [.int .i64 _] rfl rfl (World.news_of_block (heap_alloc_new _ _)) (by simp [Value.oneCell']) (by decide) (by unfold maxLen; omega) (by omega) (by have := HDx.out.sz; exact this) (Wx.heap.size + 1) (by simp) ?_)
          intro g5 cap5 W5 hown5 hgrow5 hat5 _
          have hD5 := HDx.out.backApp (g := g5) (cp := cap5) hgrow5 (by rw [backs_len]; exact hown5) (by simpa using hat5)
          rw [Hbv.out, backs_len] at hD5
          have HD5 : Hid (DI w.heap.size w (some ⟨b, o, none⟩) xs.length c L' (backs xs (k + 1)) (Value.slice (some ⟨gp, 0, none⟩) ml capp) cs' (.slice (some ⟨g5, 0, none⟩) (k + 1) cap5) W5) := Lib.hid hD5
          obtain ⟨ar', cr', ea, kr5, kfr5, hgplt5, _, _, hrs5, hown6, hdrop⟩ := HD5.out.at (j := p) (gp := gp) (capp := capp) (by rw [HL.out]) (by rw [HL.out]; exact hplt)
          obtain ⟨nr', hnr'⟩ : ∃ nr', nr' = (L'.getD (p) []).length := ⟨_, rfl⟩
          rw [← hnr'] at kr5 hown6 ea
          have hnrk' : nr' ≤ k := by rw [hnr', ← Hnrr.out]; exact hnrk
          have kb5 := cell_of_one HD5.out.b2
          have hz5 : w.heap.size + 1 < W5.heap.size := by have := HD5.out.sz; omega
          have hne1 : ∀ g, (Value.slice ar' nr' cr').ownBlock = some g → g ≠ gp ∧ w.heap.size + 2 ≤ g := by
            intro g hg
            cases ar' with
            | none => cases hg
            | some y =>
              obtain ⟨gr, hy, h1, h2, _⟩ := hrs5 rfl
              cases hy
              have e : gr = g := by simpa [Value.ownBlock] using hg
              exact ⟨by omega, by omega⟩
          have hne2 : some (w.heap.size + 1) ≠ (Value.slice ar' nr' cr').ownBlock := fun e => by have := (hne1 _ e.symm).2; omega
          have hne3 : some gp ≠ (Value.slice ar' nr' cr').ownBlock := fun e => (hne1 _ e.symm).1 rfl
          have Hown6 := Lib.hid (OwnI.up hown6 (belowTrans (belowAlloc W5 (.cells #[.int .i64 (k : Int)] 3)) (belowDrew _)))
          have hrow6 := Hown6.out
          unfold OwnI at hrow6
          rw [← hnr'] at hrow6
          have Hrow6 := Lib.hid hrow6
          have Hne2 := Lib.hid hne2
          have Hne3 := Lib.hid hne3
          have Hea := Lib.hid ea
          have Hnr' := Lib.hid hnr'
          have HD6 := Lib.hid (HD5.out.up (belowTrans (belowAlloc W5 (.cells #[.int .i64 (k : Int)] 3)) (belowDrew _)))
          have HB7 : Hid (Below W5.heap.size W5 (W5.alloc (.cells #[.int .i64 (k : Int)] 3)).drew) := Lib.hid (belowTrans (belowAlloc _ _) (belowDrew _))
          have H7 : Hid ((W5.alloc (.cells #[.int .i64 (k : Int)] 3)).drew.cell? ⟨w.heap.size + 1, 0, none⟩ = some (Value.slice (some ⟨gp, 0, none⟩) ml capp) ∧ (W5.alloc (.cells #[.int .i64 (k : Int)] 3)).drew.cell? ⟨gp, p, none⟩ = some (Value.slice ar' nr' cr') ∧ (W5.alloc (.cells #[.int .i64 (k : Int)] 3)).drew.frozen? ⟨gp, p, none⟩ = false) :=
            Lib.hid ⟨upc (belowTrans (belowAlloc _ _) (belowDrew _)) kb5, upc (belowTrans (belowAlloc _ _) (belowDrew _)) kr5, (Below.frozen (belowTrans (belowAlloc W5 (.cells #[.int .i64 (k : Int)] 3)) (belowDrew _)) (p := ⟨gp, p, none⟩) hgplt5).trans kfr5⟩
          clear hne1 hne2 hne3 hown6 hrs5 hown5 hgrow5 hat5 hD5 kb kr kfr hdrop hnr' ea Hown6 hrow6
          try clear e1 e2 e3 e4 f1 f2 f3 f4 kq kq2
          have hp0' : (0 : Int) ≤ (p : Int) := by omega
          have hp1' : (p : Int) < (ml : Int) := by omega
          clear hml
          go_wp2_with fail
          go_region_law ((refine step_append_lies _ (by rfl) (.tmp 49) (.tmp 51) 22 (by rfl) (w.heap.size + 2) 3 i0 (.int .i64 0) 1 8 Try.underlying22 hi hz0 hz1 hz2 rfl (by decide) (Value.slice ar' nr' cr') nr' _ (by rfl) (by exact Hrow6.out) ⟨W5.heap.size, 0, none⟩ 1 1 [.int .i64 (k : Int)] (by rfl) (by rfl) (World.news_of_block (cs := #[.int .i64 (k : Int)]) (t := 3) (fr := (0, 0)) (heap_alloc_new W5 _)) (by simp [Value.oneCell']) (by decide) (by unfold maxLen; omega) (by omega) (by have := HD6.out.sz; exact this) (W5.heap.size + 1) (by simp) ?_; intro g6 cap6 W6 hown6 hgrow6 hat6 hlt6; have kb6 := (hgrow6.cell_far _ (Nat.lt_of_lt_of_le hz5 HB7.out.size) Hne2.out).trans H7.out.1; have kr6 := (hgrow6.cell_far _ (Nat.lt_of_lt_of_le hgplt5 HB7.out.size) Hne3.out).trans H7.out.2.1; have kfr6 := (hgrow6.frozen_far _ (Nat.lt_of_lt_of_le hgplt5 HB7.out.size) Hne3.out).trans H7.out.2.2))
          all_goals
            have hD7 := HD6.out.pileApp (k := p) (g := g6) (gp := gp) (capp := capp) (cp := cap6) (x := (k : Int)) (W := W6) (by rw [HL.out]; exact hplt) (by rw [HL.out]) (by rw [Hea.out]; exact hgrow6) (by rw [← Hnr'.out]; exact hown6) (by rw [Hea.out]; simpa using hat6)
            rw [HS.out, ← Hnr'.out] at hD7
            have HD7 := Lib.hid hD7
            clear hD7 hown6 hgrow6 hat6 kb6 kr6 kfr6 hlt6
            go_wp2_with fail
            exact ⟨⟨k + 1, _, _, _, by omega, by go_num, rfl, HD7⟩, by simp [intOf]; omega⟩
    · have e : k = xs.length := by omega
      have hlt' : decide ((k : Int) < (xs.length : Int)) = false := by simp; omega
      obtain ⟨av, cv, rfl, _⟩ := rowForm HD.out.row
      have kb2 := cell_of_one HD.out.b2
      have kf2 : wr.frozen? ⟨w.heap.size + 1, 0, none⟩ = false := by have h := HD.out.b2; simp [World.frozen?, h]
      have hfin : ∀ u, RetD w xs (.returned (.tuple #[.slice av (ints (piles xs k)).length cv, vb])) (wr.setCell ⟨w.heap.size + 1, 0, none⟩ u) := by
        intro u
        subst e
        have hro := HD.out.row
        rw [ints_len] at hro ⊢
        exact ⟨_, _, cs, rfl, ownsRow_lower (ownsRow_setCell_below hro (a := ⟨w.heap.size + 1, 0, none⟩) (by show w.heap.size + 1 < w.heap.size + 2; omega) u) (by omega), Apart.lower (Apart.setOther HD.out.ap HD.out.b2 (by decide) u) (by omega), belowSet HD.out.bel (by show w.heap.size ≤ w.heap.size + 1; omega) u⟩
      have Hfin := Lib.hid hfin
      clear hfin e
      go_wp2_with fail
      exact bodyPost_ret (v := .tuple #[.slice av (ints (piles xs k)).length cv, vb]) (by simp [results, Try.results81, go_sem, kb2]) rfl (Hfin.out _)
end Go.Proofs.Ytcjhbpnmkahkeaa.lis
