/- The law of who writes into a list: package seg. Whatever the list: true; what was there stays. -/
import Derived.Test.YtnnpeblpdkeffaaSegI
import Derived.Test.YtnnpeblpdkeffaaSame
import Derived.Test.YtnnpeblpdkeffaaCat
import Derived.Test.YtnnpeblpdkeffaaFill
namespace Go.Proofs.Ytnnpeblpdkeffaa.seg
open Go.RowKit Go

theorem same_sums {vs l : List Int} (h : vs.map wrap64 = l.map wrap64) (x : Int) : vs.map (fun v => wrap64 (v + x)) = l.map fun v => wrap64 (v + x) := by
  have e : ∀ ys : List Int, ys.map (fun v => wrap64 (v + x)) = (ys.map wrap64).map fun v => wrap64 (v + x) := fun ys => by
    rw [List.map_map]
    exact List.map_congr_left fun v _ => (wrap64_add v x).symm
  rw [e vs, e l, h]
/-- the fact: a segment over one number -/
theorem New_five (w : World) (b : Nat) (h : w.heap[b]? = some (.cells #[.int .i64 5] 3 (0, 0))) :
    Calls Try.prog 10 #[.slice (some ⟨b, 0, none⟩) 1 1] w (RetN [5] w) :=
  New_some w b 0 1 [5] 1 4 rfl rfl (by omega) (Nat.le_refl _) (by simp) (Array.getElem?_eq_some_iff.1 h).1 (fun i hi => by
    obtain rfl : i = 0 := by simpa using hi
    simpa using cell_of_one h)
/-- while what is wanted is gathered -/
structure WV (V : World) (l : List Int) (x : Int) (k : Nat) (ov : Value) (W : World) : Prop where
  own : OwnI 3 W V.heap.size ov ((l.take k).map fun v => wrap64 (v + x))
  bel : Below V.heap.size V W
theorem own_len {w : World} {B n c : Nat} {a : Option Addr} {xs : List Int} (h : OwnI 3 w B (.slice a n c) xs) (_hn : n = xs.length) : xs.length ≤ c := by
  rcases h.2 with ⟨e1, e2⟩ | ⟨g, cap, cur, e1, _, _, e3, _⟩
  · omega
  · injection e1 with _ _ e4
    omega
set_option maxRecDepth 100000 in
set_option maxHeartbeats 8000000 in
theorem law (a : Option Addr) (c : Nat) (l : List Int) (x : Int) (w : World) (hlen : l.length * 8 ≤ 140737488351232) (hr : Reads w a l) (hn : a = none → c = 0) :
    Calls Try.prog 4 #[.slice a l.length c, .int .i64 x] w fun e w' => e = .returned (.bool true) ∧ Below w.heap.size w w' := by
  have hcat := cat_any a c l w hlen hr hn
  obtain ⟨n, hnl⟩ : ∃ n, n = l.length := ⟨_, rfl⟩
  have hn8 : n ≤ 17592186043904 := by omega
  rw [← hnl] at hcat ⊢
  have Hn := Lib.hid hnl
  have Hr := Lib.hid hr
  clear hr hn hlen hnl
  by_cases hbig : 5000 < n
  · as_aux_lemma =>
    go_enter Try.func4, Try.ntmps4
    go_wp2_with fail
    refine hcat.mono ?_
    rintro e w1 ⟨a1, c1, rfl, ho1, hb1⟩
    rw [← Hn.out]
    have HN := Lib.hid (New_full w1 a1 c1 n hbig)
    have Hb1 := Lib.hid hb1
    clear ho1 hcat hb1
    go_wp2_with fail
    refine HN.out.mono ?_
    rintro e w2 ⟨rfl, hb2⟩
    have H5 := Lib.hid (New_five (w2.alloc (.cells #[.int .i64 5] 3)) w2.heap.size (heap_alloc_new _ _))
    have Hb2 := Lib.hid (belowTrans (belowTrans Hb1.out hb2) (belowAlloc w2 (.cells #[.int .i64 5] 3)))
    clear hb2 HN
    go_wp2_with fail
    refine H5.out.mono ?_
    rintro e w3 ⟨s5, p5, M5, P5, rfl, s3, _, z5, hM5, hb3, hR5⟩
    have H6 := Lib.hid (by
      rcases hR5 with e | ⟨hB, vs, hR, hl, _⟩
      · simp at e
      · exact (⟨vs, hl, ints_any s5 p5 M5 1 P5 vs w3 hM5 (by omega) hl s3 (.inr ⟨hB, hR⟩)⟩ : ∃ vs : List Int, vs.length = 1 ∧ Calls Try.prog 11 #[.pointer (some ⟨s5, 0, none⟩)] w3 (RetIs s5 p5 M5 1 vs w3)))
    have Hb3 := Lib.hid (And.intro (belowTrans Hb2.out hb3) (Nat.le_trans Hb2.out.size z5))
    clear hb3 s3 hR5 H5 z5
    obtain ⟨vs5, hv5, hc5⟩ := H6.out
    go_wp2_with fail
    refine hc5.mono ?_
    rintro e w4 ⟨a4, c4, rfl, _, ho4, _⟩
    rw [hv5]
    have Hb4 := Lib.hid (ho4.to Hb3.out.1 Hb3.out.2)
    clear ho4 hc5 H6
    go_wp2_with fail
    go_ret
    exact ⟨rfl, Hb4.out⟩
  · as_aux_lemma =>
    go_enter Try.func4, Try.ntmps4
    go_wp2_with fail
    refine hcat.mono ?_
    rintro e w1 ⟨a1, c1, rfl, ho1, hb1⟩
    rw [← Hn.out]
    have hN : Calls Try.prog 10 #[.slice a1 n c1] w1 (RetN l w1) := by
      rcases Nat.eq_zero_or_pos n with h0 | h0
      · have hl0 : l = [] := List.length_eq_zero_iff.1 (by rw [← Hn.out, h0])
        rw [h0, hl0]
        exact New_none w1 a1 c1
      · rcases ho1.reads with e | ⟨b, o, e, hx⟩
        · rw [e] at Hn
          have := Hn.out
          simp at this
          omega
        · have hlt := (ho1.block b (by rw [e]; rfl)).2
          rw [e]
          exact New_some w1 b o c1 l n (4 * n) Hn.out rfl (by omega) h0 (own_len ho1 rfl) hlt hx
    have HN := Lib.hid hN
    have Ho1 := Lib.hid ho1
    have Hb1 := Lib.hid hb1
    clear ho1 hcat hb1 hN
    go_wp2_with fail
    refine HN.out.mono ?_
    rintro e w2 ⟨s, pb, M, P, rfl, s2, z1, z2, hM, hb2, hR⟩
    have H5 := Lib.hid (New_five (w2.alloc (.cells #[.int .i64 5] 3)) w2.heap.size (heap_alloc_new _ _))
    have H2 := Lib.hid (And.intro s2 (And.intro z1 (And.intro z2 (And.intro hM (And.intro hb2 hR)))))
    clear hb2 HN s2 z1 z2 hR
    go_wp2_with fail
    refine H5.out.mono ?_
    rintro e w3 ⟨s5, p5, M5, P5, rfl, s3, _, z5, hM5, hb3, hR5⟩
    have H6 := Lib.hid (by
      rcases hR5 with e | ⟨hB, vs, hR, hl, _⟩
      · simp at e
      · exact (⟨vs, hl, ints_any s5 p5 M5 1 P5 vs w3 hM5 (by omega) hl s3 (.inr ⟨hB, hR⟩)⟩ : ∃ vs : List Int, vs.length = 1 ∧ Calls Try.prog 11 #[.pointer (some ⟨s5, 0, none⟩)] w3 (RetIs s5 p5 M5 1 vs w3)))
    have hb23 := belowTrans (belowAlloc w2 (.cells #[.int .i64 5] 3)) hb3
    have Hb3 := Lib.hid (And.intro hb23 (Nat.le_trans (belowAlloc w2 (.cells #[.int .i64 5] 3)).size z5))
    clear hb3 s3 hR5 H5 z5 hb23
    obtain ⟨vs5, hv5, hc5⟩ := H6.out
    go_wp2_with fail
    refine hc5.mono ?_
    rintro e w4 ⟨a4, c4, rfl, _, ho4, _⟩
    rw [hv5]
    have hb24 := ho4.to Hb3.out.1 Hb3.out.2
    have Hb24 := Lib.hid hb24
    clear ho4 hc5 H6 hb24
    by_cases hfew : 200 < n
    · as_aux_lemma =>
      have hg : (200 : Int) < (n : Int) := by omega
      go_wp2_with fail
      go_ret
      exact ⟨rfl, belowTrans (belowTrans Hb1.out H2.out.2.2.2.2.1) Hb24.out⟩
    · as_aux_lemma =>
      have hg : ¬ ((200 : Int) < (n : Int)) := by omega
      obtain ⟨s2, z1, z2, _, hb2, hR⟩ := H2.out
      have hA : ∃ vs : List Int, vs.length = n ∧ (vs.map fun v => wrap64 (v + x)) = (l.map fun v => wrap64 (v + x)) ∧ (n = 0 ∨ Bnd 1 n M) ∧ Calls Try.prog 12 #[.pointer (some ⟨s, 0, none⟩), .int .i64 0, .int .i64 n, .int .i64 x] w4 (RetAd s pb M n vs x w4) := by
        have s4 := s2.below Hb24.out
        rw [← Hn.out] at s4 hR
        rcases hR with e | ⟨hB, vs, h1, h2, h3⟩
        · have hl0 : l = [] := List.length_eq_zero_iff.1 (by rw [← Hn.out, e])
          exact ⟨[], by simp [e], by rw [hl0], .inl e, Add_any s pb M n P [] x w4 hM (by omega) (by simp [e]) s4 (.inl e)⟩
        · exact ⟨vs, h2, same_sums h3 x, .inr hB, Add_any s pb M n P vs x w4 hM (by omega) h2 s4 (.inr ⟨hB, h1⟩)⟩
      obtain ⟨vs, hvl, hve, hBn, hAd⟩ := hA
      have HAd := Lib.hid hAd
      have Hv := Lib.hid (And.intro hvl (And.intro hve hBn))
      have Hz := Lib.hid (And.intro z1 (And.intro z2 (belowTrans hb2 Hb24.out)))
      clear hAd hvl hve hBn s2 z1 z2 hb2 hR H2 Hb24
      go_wp2_with fail
      refine HAd.out.mono ?_
      rintro e w5 ⟨rfl, ⟨P6, s6, r6⟩, o6⟩
      have hb15 := o6.to Hz.out.2.2 Hz.out.2.1
      have ho15 := Ho1.out.up hb15
      have hr5 := Hr.out.up (belowTrans Hb1.out hb15)
      have H6 := Lib.hid (And.intro s6 (And.intro r6 (And.intro hb15 ho15)))
      have Hr5 := Lib.hid hr5
      clear s6 r6 o6 hb15 ho15 hr5 HAd
      go_wp2_with fail
      have HS := sameInts_any a1 a c1 c l l w5 H6.out.2.2.2.reads Hr5.out (by rw [← Hn.out]; unfold maxLen; omega)
      rw [← Hn.out] at HS
      refine HS.mono ?_
      rintro e w6 ⟨rfl, q6, rfl⟩
      have hdec : decide (l = l) = true := by simp
      rw [hdec]
      clear hdec HS
      have hown : OwnI 3 (w5.drewN q6) w.heap.size (.slice a1 l.length c1) l := H6.out.2.2.2
      have Hown := Lib.hid hown
      have hblk : ∀ b, (Value.slice a1 n c1).ownBlock = some b → w.heap.size ≤ b ∧ b < w1.heap.size := by
        have h := Ho1.out.block
        rw [← Hn.out] at h
        exact h
      have Hblk := Lib.hid hblk
      clear hown hblk
      rw [← Hn.out] at Hown
      go_wp2_with fail
      go_loopw [12] (fun i wr => ∃ k : Nat, k ≤ n ∧ i = .int .i64 k ∧ Hid (Filled 3 w.heap.size (.slice a1 n c1) n (w5.drewN q6) wr)) (fun i _ => n - (intOf i).toNat)
      case atStart => exact ⟨0, Nat.zero_le _, rfl, Lib.hid (Filled.start (by have h := Hown.out; unfold OwnI at h; rw [← Hn.out] at h; exact h))⟩
      case round =>
        obtain ⟨k, hk, rfl, HF⟩ := hrel
        by_cases hlt : k < n
        · obtain ⟨g, hg⟩ : ∃ g, a1 = some ⟨g, 0, none⟩ := by
            have h := Hown.out
            obtain ⟨a', c', e, _, hr, hg⟩ := h.form
            have e' : a1 = a' := by injection e
            rcases hr with hr | ⟨b, o, ha, _⟩
            · rw [hr] at Hn
              have := Hn.out
              simp at this
              omega
            · obtain ⟨g, hx, _⟩ := hg _ ha
              exact ⟨g, by rw [e', ha, hx]⟩
          subst hg
          obtain ⟨u, hc, hf⟩ := HF.out.cell k hlt
          have HF' := Lib.hid (HF.out.step k (.int .i64 0))
          have h0 : (0 : Int) ≤ (k : Int) := by omega
          have h1 : (k : Int) < (n : Int) := by omega
          go_wp2_with fail
          exact ⟨⟨k + 1, by omega, by go_num, HF'⟩, by simp [intOf]; omega⟩
        · have hs6 : SM s pb M n P6 wr := by
            have hd := H6.out.1.below (belowDrewN w5 q6)
            obtain ⟨z1, z2, _⟩ := Hz.out
            exact hd.same (HF.out.block s (fun e => by have h := (Hblk.out s e).2; omega)) (HF.out.block pb (fun e => by have h := (Hblk.out pb e).2; omega))
          have hbr := HF.out.below (belowTrans (belowTrans Hb1.out H6.out.2.2.1) (belowDrewN w5 q6)) (fun b hb => (Hblk.out b hb).1)
          have hszw : w1.heap.size ≤ wr.heap.size := by
            have h1 := HF.out.size
            have h2 := (belowTrans H6.out.2.2.1 (belowDrewN w5 q6)).size
            omega
          have hrr := Hr.out.up hbr
          have hpl : pb < wr.heap.size := by obtain ⟨cur, hc, _⟩ := hs6.hp; exact (Array.getElem?_eq_some_iff.1 hc).1
          have H7 := Lib.hid (And.intro hs6 (And.intro hbr hrr))
          have HW0 : Hid (WV wr l x 0 (.slice none 0 0) wr) := Lib.hid ⟨World.ownsRow_nil wr wr.heap.size 3 1, Below.refl _ _⟩
          obtain ⟨i0, hi, hz0, hz1, hz2⟩ := info_parts infoInt
          have Hi := Lib.hid (And.intro hi (And.intro hz0 (And.intro hz1 hz2)))
          clear hs6 hbr hrr HF hi hz0 hz1 hz2
          go_wp2_with fail
          obtain ⟨V, rfl⟩ : ∃ V : World, V = wr := ⟨_, rfl⟩
          go_loopw [13, 14] (fun ov iv wq => ∃ (k : Nat) (ow : Value), k ≤ n ∧ iv = .int .i64 k ∧ ow = ov ∧ Hid (WV V l x k ow wq)) (fun _ iv _ => n - (intOf iv).toNat)
          case atStart => exact ⟨0, _, Nat.zero_le _, rfl, rfl, HW0⟩
          case round =>
            obtain ⟨k, ow, hk, rfl, rfl, HQ⟩ := hrel
            obtain ⟨oa, oc, rfl, _⟩ := HQ.out.own.form
            have hkl : ((l.take k).map fun v => wrap64 (v + x)).length = k := by rw [List.length_map, List.length_take, ← Hn.out]; omega
            rw [hkl]
            have Hkl := Lib.hid hkl
            clear hkl
            by_cases hlt : k < n
            · obtain ⟨y, hy⟩ : ∃ y, y = l.getD k 0 := ⟨_, rfl⟩
              obtain ⟨rb, ro, rfl, hrc⟩ : ∃ rb ro, a = some ⟨rb, ro, none⟩ ∧ wr.cell? ⟨rb, ro + k, none⟩ = some (.int .i64 y) := by
                have hkl' : k < l.length := by rw [← Hn.out]; exact hlt
                rcases H7.out.2.2.up HQ.out.bel with e | ⟨rb, ro, e, h⟩
                · rw [e] at hkl'
                  simp at hkl'
                · exact ⟨rb, ro, e, by rw [hy]; exact h k hkl'⟩
              have hown2 : wr.ownsRow V.heap.size 3 1 (.slice oa k oc) k (((l.take k).map fun v => wrap64 (v + x)).map (Value.int .i64)) := by
                have h := HQ.out.own
                unfold OwnI at h
                rw [Hkl.out] at h
                exact h
              have Ho2 := Lib.hid hown2
              have hsq := HQ.out.bel.size
              have h0 : (0 : Int) ≤ (k : Int) := by omega
              have h1 : (k : Int) < (n : Int) := by omega
              clear hown2
              have Hy := Lib.hid hy
              clear hy
              go_wp2_with (at_builtin; obtain ⟨hi, hz0, hz1, hz2⟩ := Hi.out; refine wpList_append_own _ rfl (.tmp 80) (.tmp 87) 22 rfl V.heap.size 3 i0 (.int .i64 0) 1 8 Try.underlying22 hi hz0 hz1 hz2 rfl (by decide) (.slice oa k oc) _ _ rfl (Ho2.out.alloc _) ⟨wr.heap.size, 0, none⟩ 1 1 [.int .i64 (wrap64 (y + x))] rfl rfl ?c1 ?c2 ?c3 ?c4 ?c5 ?_)
              case c1 => exact World.news_of_block (cs := #[.int .i64 (wrap64 (y + x))]) (t := 3) (fr := (0, 0)) (heap_alloc_new _ _)
              case c2 => simp [Value.oneCell']
              case c3 => unfold maxLen; omega
              case c4 => omega
              case c5 => simp; omega
              intro v' w9 hown9 hgrow9 _
              obtain ⟨g3, cap3, rfl⟩ := ownsRow_succ hown9
              have HN : Hid (WV V l x (k + 1) (.slice (some ⟨g3, 0, none⟩) (k + 1) cap3) w9) := by
                refine Lib.hid ⟨?_, Below.grown (belowTrans HQ.out.bel (belowAlloc _ _)) hgrow9 (by simp; omega) (fun b hb => (World.ownsRow.lt Ho2.out b hb).1)⟩
                have hkl' : k < l.length := by rw [← Hn.out]; exact hlt
                have e : ((l.take (k + 1)).map fun v => wrap64 (v + x)) = ((l.take k).map fun v => wrap64 (v + x)) ++ [wrap64 (y + x)] := by
                  rw [take_snoc hkl', List.map_append, ← Hy.out]
                  rfl
                unfold OwnI
                rw [e, List.length_append, Hkl.out, List.map_append, List.map_map, List.map_take]
                exact hown9
              clear hown9 hgrow9 Ho2
              go_wp2_with fail
              exact ⟨⟨k + 1, _, hlt, by go_num, rfl, HN⟩, by simp [intOf]; omega⟩
            · obtain rfl : n = k := by omega
              obtain ⟨hvl, hve, hBn⟩ := Hv.out
              have htk : l.take n = l := List.take_of_length_le (by rw [Hn.out]; exact Nat.le_refl _)
              have hs9 := H7.out.1.below HQ.out.bel
              have hI : Calls Try.prog 11 #[.pointer (some ⟨s, 0, none⟩)] wr (RetIs s pb M n (vs.map fun v => wrap64 (v + x)) wr) := by
                refine ints_any s pb M n P6 _ wr hM (by omega) (by rw [List.length_map]; exact hvl) hs9 ?_
                rcases hBn with e | hB
                · exact .inl e
                · rcases H6.out.2.1 with e | h
                  · exact .inl e
                  · exact .inr ⟨hB, h⟩
              have HI := Lib.hid hI
              have hw9 : OwnI 3 wr V.heap.size (.slice oa n oc) (l.map fun v => wrap64 (v + x)) := by
                have h := HQ.out.own
                rw [Hkl.out, htk] at h
                exact h
              have HW9 := Lib.hid (And.intro hw9 (belowTrans H7.out.2.1 HQ.out.bel))
              have Hve := Lib.hid (And.intro hve hvl)
              have HwB := Lib.hid (Hb1.out.size)
              obtain ⟨z1, z2, _⟩ := Hz.out
              have hpb : w.heap.size ≤ pb := Nat.le_trans HwB.out z2
              clear hI hw9 hs9 htk hvl hve hBn HQ
              go_wp2_with fail
              refine HI.out.mono ?_
              rintro e w10 ⟨a10, c10, rfl, ho10, hon, _⟩
              have hw10 := own_on HW9.out.1 hpl hon
              have hb10 := hon.to HW9.out.2 hpb
              have hln : (vs.map fun v => wrap64 (v + x)).length = n := by rw [List.length_map]; exact Hve.out.2
              rw [hln]
              have Hb10 := Lib.hid (And.intro hb10 (And.intro ho10 hw10))
              clear ho10 hon hw10 hb10 HI hln
              go_wp2_with fail
              have HS2 := sameInts_any a10 oa c10 oc _ _ w10 Hb10.out.2.1.reads Hb10.out.2.2.reads (by rw [List.length_map, Hve.out.2]; unfold maxLen; omega)
              rw [Hve.out.1, List.length_map, ← Hn.out] at HS2
              refine HS2.mono ?_
              rintro e w11 ⟨rfl, q11, rfl⟩
              have hdec : decide ((l.map fun v => wrap64 (v + x)) = (l.map fun v => wrap64 (v + x))) = true := by simp
              rw [hdec]
              clear hdec
              go_wp2_with fail
              go_ret
              exact ⟨rfl, belowTrans Hb10.out.1 (belowDrewN _ _)⟩
end Go.Proofs.Ytnnpeblpdkeffaa.seg
