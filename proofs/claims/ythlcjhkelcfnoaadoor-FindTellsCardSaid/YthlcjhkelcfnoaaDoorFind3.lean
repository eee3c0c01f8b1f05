/- Package find: Join, Find. -/
import Derived.Test.YthlcjhkelcfnoaaDoorFind2
namespace Go.Proofs.YthlcjhkelcfnoaaDoor.find
open Go.RowKit
open ral (Sp WF total elems build setS)
open vers (Ver rowOf Lists rowOf_at rowOf_length rowOf_append own_new infoL)

theorem FS.pushed {B : Nat} {w w4 w5 : World} {b N g c g5 cap5 : Nat} {vs : List Ver} {o : Obj} {p3 : Option Addr} {us : List (BT Int)} {sl : Value} {m : Nat}
    (h : FS B w b N vs) (hB : B ≤ w.heap.size) (h4 : Below w.heap.size w w4) (ho : w.ownsRow B 49 2 (.slice (some ⟨g, 0, none⟩) m c) vs.length (rowOf vs)) (hp : Sp B w4 p3 us) (hw : WF us) (ht : total us = N) (hpar : Par N (elems us))
    (hown : w5.ownsRow B 49 2 (.slice (some ⟨g5, 0, none⟩) (vs.length + 1) cap5) (vs.length + 1) (rowOf vs ++ [.pointer p3, .int .i64 (N : Nat)])) (hk : KeepT [49] w4 w5)
    (hg : (w4.alloc o).grownBy w5 (Value.slice (some ⟨g, 0, none⟩) m c).ownBlock) (hb5 : w5.heap[b]? = some (.cells #[.int .i64 (N : Nat), sl] 64 (0, 0))) :
    FS B (w5.setCell ⟨b, 1, none⟩ (.slice (some ⟨g5, 0, none⟩) (vs.length + 1) cap5)) b N (vs ++ [(p3, us)]) ∧ Below B w (w5.setCell ⟨b, 1, none⟩ (.slice (some ⟨g5, 0, none⟩) (vs.length + 1) cap5)) ∧
      KeepT [64, 49] w (w5.setCell ⟨b, 1, none⟩ (.slice (some ⟨g5, 0, none⟩) (vs.length + 1) cap5)) := by
  have hs4 := h4.size
  have kset : KeepT [64] w5 (w5.setCell ⟨b, 1, none⟩ (.slice (some ⟨g5, 0, none⟩) (vs.length + 1) cap5)) := KeepT.set (a := ⟨b, 1, none⟩) hb5 (by simp) _
  have k05 : KeepT [49] w w5 := (KeepT.of (T := [49]) h4).trans hk
  have hsp : ∀ {p : Option Addr} {ts : List (BT Int)}, Sp B w5 p ts → Sp B (w5.setCell ⟨b, 1, none⟩ (.slice (some ⟨g5, 0, none⟩) (vs.length + 1) cap5)) p ts := fun hq => vers.Sp.keep kset (by decide) (by decide) hq
  refine ⟨⟨h.hB, ⟨.slice (some ⟨g5, 0, none⟩) (vs.length + 1) cap5, ?_, ?_⟩, ?_, ?_⟩, ?_, ?_⟩
  · have hb := (Array.getElem?_eq_some_iff.1 hb5).1
    simp [World.setCell, Array.getElem?_modify, hb5]
  · have h := rowKeep hown kset (by decide)
    rw [List.length_append, rowOf_append]
    simpa [rowOf, ht] using h
  · intro x hx
    rcases List.mem_append.1 hx with hx | hx
    · obtain ⟨h1, h2⟩ := h.sp x hx
      exact ⟨hsp (vers.Sp.keep k05 (by decide) (by decide) h1), h2⟩
    · obtain rfl : x = (p3, us) := by simpa using hx
      exact ⟨hsp (vers.Sp.keep hk (by decide) (by decide) hp), hw, ht⟩
  · intro x hx
    rcases List.mem_append.1 hx with hx | hx
    · exact h.par x hx
    · obtain rfl : x = (p3, us) := by simpa using hx
      exact hpar
  · have hgB : B ≤ g := by
      rcases ho.2 with ⟨e, _⟩ | ⟨g', cap, cur, e, hg', _⟩
      · cases e
      · cases e; exact hg'
    have hbg := Below.grown (((Below.refl B w).trans (h4.mono hB)).alloc (by omega) o) hg (by simp; omega) (fun k hk => by cases hk; exact hgB)
    exact hbg.setCell (p := ⟨b, 1, none⟩) h.hB _
  · exact (k05.more (by simp)).trans (kset.more (by simp))

set_option maxHeartbeats 2000000 in
theorem Join_none (w : World) (b : Nat) (v x y c : Int)
    (hV : Calls Tryd.prog 28 #[.pointer (some ⟨b, 0, none⟩), .int .i64 v, .slice (some ⟨w.heap.size, 0, none⟩) 2 2] (w.alloc (.cells #[.int .i64 x, .int .i64 y] 3)) (RetVer (w.alloc (.cells #[.int .i64 x, .int .i64 y] 3)) (noVer c))) :
    Calls Tryd.prog 19 #[.pointer (some ⟨b, 0, none⟩), .int .i64 v, .int .i64 x, .int .i64 y] w (RetErr (.int .i64 0) c w) := by
  have HV := Lib.hid hV
  clear hV
  go_enter Tryd.func19, Tryd.ntmps19
  go_wp2_with fail
  refine HV.out.mono ?_
  rintro e w1 ⟨rfl, hb1⟩
  have Hb1 := Lib.hid (belowTrans (belowAlloc w _) hb1)
  clear hb1
  unfold noVer
  go_wp2_with fail
  go_ret2
  exact ⟨rfl, belowTrans Hb1.out (belowAlloc _ _)⟩

def RetJoin (B : Nat) (w : World) (b N : Nat) (vs : List Ver) (xs : List Int) (e : Ending) (w' : World) : Prop :=
  ∃ p us, e = .returned (.tuple #[.int .i64 (vs.length : Nat), .nilIface]) ∧ elems us = xs ∧ FS B w' b N (vs ++ [(p, us)]) ∧ Below B w w' ∧ KeepT [64, 49] w w'

set_option maxRecDepth 100000 in
set_option maxHeartbeats 8000000 in
theorem Join_in (B : Nat) (w : World) (b N : Nat) (vs : List Ver) (h : FS B w b N vs) (hB : B ≤ w.heap.size) (k x y : Nat) (p : Option Addr) (ts : List (BT Int)) (hkv : vs[k]? = some (p, ts)) (hx : x < N) (hy : y < N) (hN : N ≤ 5000) (hl : vs.length < 5000) :
    Calls Tryd.prog 19 #[.pointer (some ⟨b, 0, none⟩), .int .i64 (k : Nat), .int .i64 (x : Nat), .int .i64 (y : Nat)] w (RetJoin B w b N vs (join (elems ts) (top (elems ts) x) (top (elems ts) y))) := by
  have hk : k < vs.length := (List.getElem?_eq_some_iff.1 hkv).1
  have hm := List.mem_of_getElem? hkv
  obtain ⟨hsp, hwf, htot⟩ := h.sp _ hm
  have hpar := h.par _ hm
  obtain ⟨g, c, hb, hBg, hown, _⟩ := h.at (by omega)
  have hV := version_two B w b N vs h k p ts hkv (x : Nat) (y : Nat) (by omega) (by omega)
  obtain ⟨r, hr⟩ : ∃ r, r = top (elems ts) x := ⟨_, rfl⟩
  obtain ⟨s, hs⟩ : ∃ s, s = top (elems ts) y := ⟨_, rfl⟩
  have tr : Top (elems ts) x r := by rw [hr]; exact top_spec hpar hx
  have ts' : Top (elems ts) y s := by rw [hs]; exact top_spec hpar hy
  have hrN : r < N := Nat.lt_of_le_of_lt (tr.le hpar hx) hx
  have hsN : s < N := Nat.lt_of_le_of_lt (ts'.le hpar hy) hy
  rw [← hr, ← hs]
  have hself : r = s → join (elems ts) r s = elems ts := by
    intro e
    rw [← e, hr]
    exact join_same hpar hx
  have HV := Lib.hid hV
  have HS := Lib.hid (And.intro hsp (And.intro hwf (And.intro htot (And.intro hpar (And.intro tr (And.intro ts' hself))))))
  have Hh := Lib.hid h
  have Hb := Lib.hid hb
  have Ho := Lib.hid hown
  obtain ⟨i0, hin, hz0, hz1, hz2⟩ := info_parts infoL
  have Hi := Lib.hid (And.intro hin (And.intro hz0 (And.intro hz1 hz2)))
  obtain ⟨M, hM⟩ : ∃ M, M = vs.length := ⟨_, rfl⟩
  have HM := Lib.hid hM
  have hbsz : b < w.heap.size := (Array.getElem?_eq_some_iff.1 hb).1
  rw [← hM] at hl
  have g0 : (M : Int) < 5000 := by omega
  clear hV h hm hsp hwf htot hpar hkv hr hs tr ts' hself hb hown hin hz0 hz1 hz2 hM
  go_enter Tryd.func19, Tryd.ntmps19
  go_wp2_with fail
  refine HV.out.mono ?_
  rintro e w1 ⟨rfl, hb1⟩
  have hb2 := belowTrans (belowTrans (belowAlloc w (.cells #[.int .i64 (x : Nat), .int .i64 (y : Nat)] 3)) hb1) (belowAlloc w1 (.cells #[.pointer p, .int .i64 (N : Nat)] 49))
  have hn2 := heap_alloc_new w1 (.cells #[.pointer p, .int .i64 (N : Nat)] 49)
  have kb2 := two_c1 (upb hb2 Hb.out)
  rw [← HM.out] at kb2
  obtain ⟨w2, hw2⟩ : ∃ w2, w2 = w1.alloc (.cells #[.pointer p, .int .i64 (N : Nat)] 49) := ⟨_, rfl⟩
  have hle1 := (belowTrans (belowAlloc w _) hb1).size
  rw [← hw2] at hb2 hn2
  have c0 := two_c0 hn2
  have c1 := two_c1 hn2
  have Hn2 := Lib.hid hn2
  have Hb2 := Lib.hid hb2
  have HW2 := Lib.hid hw2
  clear hb1 hb2 hn2 hw2
  go_wp2_with fail
  rw [← HW2.out] at kb2 ⊢
  go_region_held3 (fun w' => w'.cell? ⟨w1.heap.size, 0, none⟩ = some (.pointer p) ∧ w'.cell? ⟨w1.heap.size, 1, none⟩ = some (.int .i64 (N : Nat))) (first | exact ⟨d0, d1⟩ | exact ⟨e0, e1⟩ | exact ⟨c0, c1⟩ | go_keep)
    (first
    | (go_at_call_of 29 (Value.int .i64 (x : Nat)); refine (top_any B _ p ts N x r (by first | exact Sp.up (belowTrans Hb2.out (belowDrew _)) HS.out.1 | exact Sp.up (belowTrans Hb2.out hbY) HS.out.1) (by exact HS.out.2.1) (by exact HS.out.2.2.1) (by exact hx) (by exact hN) (by exact HS.out.2.2.2.1) (by exact HS.out.2.2.2.2.1)).mono ?_; rintro e w3 ⟨rfl, hbX⟩; replace hbX : Below w2.heap.size w2 w3 := (by first | exact belowTrans (belowDrew _) hbX | exact belowTrans hbY hbX); have d0 := upc hbX c0; have d1 := upc hbX c1)
    | (go_at_call_of 29 (Value.int .i64 (y : Nat)); refine (top_any B _ p ts N y s (by first | exact Sp.up (belowTrans Hb2.out (belowDrew _)) HS.out.1 | exact Sp.up (belowTrans Hb2.out hbX) HS.out.1) (by exact HS.out.2.1) (by exact HS.out.2.2.1) (by exact hy) (by exact hN) (by exact HS.out.2.2.2.1) (by exact HS.out.2.2.2.2.2.1)).mono ?_; rintro e w4 ⟨rfl, hbY⟩; replace hbY : Below w2.heap.size w2 w4 := (by first | exact belowTrans (belowDrew _) hbY | exact belowTrans hbX hbY); have e0 := upc hbY c0; have e1 := upc hbY c1))
  all_goals
    first
    | (obtain ⟨V, hV, HbV⟩ : ∃ V, V = w4 ∧ Hid (Below w2.heap.size w2 V) := ⟨w4, rfl, Lib.hid hbY⟩; rw [← hV]; clear hbX hbY hV d0 d1 e0 e1)
    | (obtain ⟨V, hV, HbV⟩ : ∃ V, V = w3 ∧ Hid (Below w2.heap.size w2 V) := ⟨w3, rfl, Lib.hid hbX⟩; rw [← hV]; clear hbX hbY hV d0 d1 e0 e1)
    have hn0 := upb HbV.out Hn2.out
    have h4 := belowTrans Hb2.out HbV.out
    have hbV := upb h4 Hb.out
    rw [← HM.out] at hbV
    have kV := two_c1 hbV
    have c0V := two_c0 hn0
    have c1V := two_c1 hn0
    have fV0 := two_f (o := 0) hn0
    have fV1 := two_f (o := 1) hn0
    have HbV := Lib.hid hbV
    have H4 := Lib.hid h4
    have Hn0 := Lib.hid hn0
    clear hbV h4 hn0 c0 c1 kb2
    by_cases he : r = s
    · have he' : ((r : Int) != (s : Int)) = false := by simp; omega
      have HU : Hid (elems ts = join (elems ts) r s ∧ Sp B V p ts ∧ WF ts ∧ total ts = N ∧ Par N (elems ts)) := Lib.hid ⟨(HS.out.2.2.2.2.2.2 he).symm, Sp.up H4.out HS.out.1, HS.out.2.1, HS.out.2.2.1, HS.out.2.2.2.1⟩
      have hsV := H4.out.size
      have hoV := rowUp Ho.out H4.out
      rw [← HM.out] at hoV
      have HoV := Lib.hid hoV
      have kVa := upc (belowAlloc V (.cells #[.pointer p, .int .i64 (N : Nat)] 49)) kV
      have HbVV := HbV
      have He := Lib.hid he
      clear he hoV
      go_wp2_with fail
      go_region_law ((obtain ⟨hin, hz0, hz1, hz2⟩ := Hi.out; refine step_append_lies _ rfl (.tmp 57) (.tmp 59) 51 rfl B 49 i0 (.agg #[.pointer none, .int .i64 0]) 2 16 Tryd.underlying51 hin hz0 hz1 hz2 rfl (by decide) _ M (rowOf vs) rfl (by exact (HoV.out.alloc _).drew) ⟨V.heap.size, 0, none⟩ 1 1 [.pointer p, .int .i64 (N : Nat)] rfl rfl (World.news_of_block (cs := #[.pointer p, .int .i64 (N : Nat)]) (t := 49) (fr := (0, 0)) (heap_alloc_new _ _)) (by simp [Value.oneCell']) (by omega) (by unfold maxLen; omega) (by omega) (by simp; omega) (V.heap.size + 1) (by simp) ?_; intro g5 cap5 w5 hown5 hgrow hat hlt; clear hin hz0 hz1 hz2 hat hlt; have hg2 : (V.alloc (.cells #[.pointer p, .int .i64 (N : Nat)] 49)).grownBy w5 (Value.slice (some ⟨g, 0, none⟩) M c).ownBlock := ⟨hgrow.os, hgrow.tape, hgrow.output, hgrow.size, hgrow.block⟩; have hK5 := KeepT.grown HoV.out hg2; have hb5 := hK5 _ _ _ _ HbVV.out (by decide); have kb5 := two_c1 hb5; have fb5 := two_f (o := 1) hb5; have Hown := Lib.hid hown5; have Hg := Lib.hid hg2; have Hb5 := Lib.hid hb5; have HK5 := Lib.hid hK5; clear hown5 hgrow hg2 hb5 hK5))
      all_goals
        go_wp2_with fail
        go_ret2
        have hown5 := Hown.out
        have hg5 := Hg.out
        have hb5 := Hb5.out
        have ho5 := Ho.out
        rw [HM.out] at hown5 hg5 hb5 ⊢
        exact ⟨p, ts, rfl, HU.out.1, FS.pushed Hh.out hB H4.out ho5 HU.out.2.1 HU.out.2.2.1 HU.out.2.2.2.1 HU.out.2.2.2.2 hown5 HK5.out hg5 hb5⟩
    · have he' : ((r : Int) != (s : Int)) = true := by simp; omega
      have hst := ral.Set_in B V p ts N (max r s) ((min r s : Nat) : Int) (szle H4.out hB) (Sp.up H4.out HS.out.1) HS.out.2.1 HS.out.2.2.1 (by omega) (by omega)
      have e1 : ((max r s : Nat) : Int) = max (r : Int) (s : Int) := by omega
      have e2 : ((min r s : Nat) : Int) = min (r : Int) (s : Int) := by omega
      rw [e1, e2] at hst
      have HSet := Lib.hid hst
      have hel : elems (setS ts (max r s) ((min r s : Nat) : Int)) = join (elems ts) r s := by rw [ral.elems_setS]; rfl
      have hwu := ral.wf_setS ts (max r s) ((min r s : Nat) : Int) HS.out.2.1
      have htu : total (setS ts (max r s) ((min r s : Nat) : Int)) = N := by rw [ral.total_setS]; exact HS.out.2.2.1
      have hpu : Par N (elems (setS ts (max r s) ((min r s : Nat) : Int))) := by rw [hel]; exact par_join HS.out.2.2.2.1 hrN hsN
      rw [e2] at hel hwu htu hpu
      obtain ⟨us, hus⟩ : ∃ us, us = setS ts (max r s) (min (r : Int) (s : Int)) := ⟨_, rfl⟩
      rw [← hus] at hel hwu htu hpu HSet
      have He := Lib.hid he
      have HL := Lib.hid (And.intro hel (And.intro hwu (And.intro htu hpu)))
      clear he e1 e2 hst hel hwu htu hpu hus
      go_wp2_with fail
      refine HSet.out.mono ?_
      rintro e w5 ⟨p5, rfl, hp5, hb5⟩
      rw [HL.out.2.2.1]
      have hn5 := upb hb5 Hn0.out
      have d0 := two_c0 hn5
      have d1 := two_c1 hn5
      have fd0 := two_f (o := 0) hn5
      have fd1 := two_f (o := 1) hn5
      obtain ⟨X, hX⟩ : ∃ X, X = (w5.setCell ⟨w1.heap.size, 0, none⟩ (.pointer p5)).setCell ⟨w1.heap.size, 1, none⟩ (.int .i64 (N : Nat)) := ⟨_, rfl⟩
      have hnX : X.heap[w1.heap.size]? = some (.cells #[.pointer p5, .int .i64 (N : Nat)] 49 (0, 0)) := by rw [hX]; exact two_set hn5
      have h4X : Below w.heap.size w X := by rw [hX]; exact belowSet2 (belowTrans H4.out hb5) hle1 _ _
      have hspX : Sp B X p5 us := by rw [hX]; exact hp5.store2 hn5 (by decide) (by decide)
      have HU : Hid (elems us = join (elems ts) r s ∧ Sp B X p5 us ∧ WF us ∧ total us = N ∧ Par N (elems us)) := Lib.hid ⟨HL.out.1, hspX, HL.out.2.1, HL.out.2.2.1, HL.out.2.2.2⟩
      have hsV := h4X.size
      have hoV := rowUp Ho.out h4X
      rw [← HM.out] at hoV
      have HoV := Lib.hid hoV
      have hbX := upb h4X Hb.out
      rw [← HM.out] at hbX
      have kX := two_c1 hbX
      have g0X := two_c0 hnX
      have g1X := two_c1 hnX
      have kXa := upc (belowAlloc X (.cells #[.pointer p5, .int .i64 (N : Nat)] 49)) kX
      have HbVV := Lib.hid hbX
      have H4 := Lib.hid h4X
      have HX := Lib.hid hX
      clear hoV hX hnX h4X hspX hbX hn5 hp5 hb5 kV c0V c1V fV0 fV1
      go_wp2_with fail
      rw [← HX.out]
      clear d0 d1 fd0 fd1
      go_region_law ((obtain ⟨hin, hz0, hz1, hz2⟩ := Hi.out; refine step_append_lies _ rfl (.tmp 57) (.tmp 59) 51 rfl B 49 i0 (.agg #[.pointer none, .int .i64 0]) 2 16 Tryd.underlying51 hin hz0 hz1 hz2 rfl (by decide) _ M (rowOf vs) rfl (by exact (HoV.out.alloc _).drew) ⟨X.heap.size, 0, none⟩ 1 1 [.pointer p5, .int .i64 (N : Nat)] rfl rfl (World.news_of_block (cs := #[.pointer p5, .int .i64 (N : Nat)]) (t := 49) (fr := (0, 0)) (heap_alloc_new _ _)) (by simp [Value.oneCell']) (by omega) (by unfold maxLen; omega) (by omega) (by simp; omega) (X.heap.size + 1) (by simp) ?_; intro g5 cap5 w5 hown5 hgrow hat hlt; clear hin hz0 hz1 hz2 hat hlt; have hg2 : (X.alloc (.cells #[.pointer p5, .int .i64 (N : Nat)] 49)).grownBy w5 (Value.slice (some ⟨g, 0, none⟩) M c).ownBlock := ⟨hgrow.os, hgrow.tape, hgrow.output, hgrow.size, hgrow.block⟩; have hK5 := KeepT.grown HoV.out hg2; have hb5 := hK5 _ _ _ _ HbVV.out (by decide); have kb5 := two_c1 hb5; have fb5 := two_f (o := 1) hb5; have Hown := Lib.hid hown5; have Hg := Lib.hid hg2; have Hb5 := Lib.hid hb5; have HK5 := Lib.hid hK5; clear hown5 hgrow hg2 hb5 hK5))
      all_goals
        go_wp2_with fail
        go_ret2
        have hown5 := Hown.out
        have hg5 := Hg.out
        have hb5 := Hb5.out
        have ho5 := Ho.out
        rw [HM.out] at hown5 hg5 hb5 ⊢
        exact ⟨p5, us, rfl, HU.out.1, FS.pushed Hh.out hB H4.out ho5 HU.out.2.1 HU.out.2.2.1 HU.out.2.2.2.1 HU.out.2.2.2.2 hown5 HK5.out hg5 hb5⟩
end Go.Proofs.YthlcjhkelcfnoaaDoor.find
