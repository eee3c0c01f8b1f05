/- Package vers: List, Set. -/
import Derived.Test.YthlcjhkelcfnoaaDoorVers
namespace Go.Proofs.YthlcjhkelcfnoaaDoor.vers
open Go.RowKit
open ral (Sp WF total elems build setS)

/-- a version, as the slice has it -/
theorem VS.at {ty B : Nat} {w : World} {b N : Nat} {vs : List Ver} (h : VS ty B w b N vs) (hl : 0 < vs.length) :
    ∃ g c, w.heap[b]? = some (.cells #[.slice (some ⟨g, 0, none⟩) vs.length c] ty (0, 0)) ∧ B ≤ g ∧ w.ownsRow B 49 2 (.slice (some ⟨g, 0, none⟩) vs.length c) vs.length (rowOf vs) ∧
      ∀ k p ts, vs[k]? = some (p, ts) → w.cell? ⟨g, k * 2, none⟩ = some (.pointer p) ∧ w.cell? ⟨g, k * 2 + 1, none⟩ = some (.int .i64 (total ts : Nat)) := by
  obtain ⟨v, hv, ho⟩ := h.box
  obtain ⟨g, c, rfl, hg, _, hc⟩ := rowCell ho hl
  exact ⟨g, c, hv, hg, ho, fun k p ts hk => ⟨hc _ _ (rowOf_at vs k p ts hk).1, hc _ _ (rowOf_at vs k p ts hk).2⟩⟩
theorem VS.form {ty B : Nat} {w : World} {b N : Nat} {vs : List Ver} (h : VS ty B w b N vs) : ∃ a c, w.heap[b]? = some (.cells #[.slice a vs.length c] ty (0, 0)) := by
  obtain ⟨v, hv, ho⟩ := h.box
  rcases ho.2 with ⟨rfl, h0⟩ | ⟨g, cap, cur, rfl, _⟩
  · exact ⟨none, 0, by rw [h0]; exact hv⟩
  · exact ⟨_, _, hv⟩

def RetErr (v : Value) (c : Int) (w : World) (e : Ending) (w' : World) : Prop := e = .returned (.tuple #[v, .iface 29 (.int .i64 c)]) ∧ Below w.heap.size w w'

set_option maxHeartbeats 2000000 in
theorem List_out (B : Nat) (w : World) (b N : Nat) (vs : List Ver) (h : VS 53 B w b N vs) (v : Int) (hv : v < 0 ∨ (vs.length : Int) ≤ v) :
    Calls Tryd.prog 12 #[.pointer (some ⟨b, 0, none⟩), .int .i64 v] w (RetErr (.slice none 0 0) 2 w) := by
  obtain ⟨a, c, hb⟩ := h.form
  have HV := Lib.hid (version_out w b vs.length a c v hb hv)
  clear hb hv h
  go_enter Tryd.func12, Tryd.ntmps12
  go_wp2_with fail
  refine HV.out.mono ?_
  rintro e w1 ⟨rfl, hb1⟩
  have Hb1 := Lib.hid hb1
  clear hb1
  go_wp2_with fail
  go_ret2
  exact ⟨rfl, belowTrans Hb1.out (belowAlloc _ _)⟩

def RetList (w : World) (xs : List Int) (e : Ending) (w' : World) : Prop :=
  ∃ a c, e = .returned (.tuple #[.slice a xs.length c, .nilIface]) ∧ OwnI 3 w' w.heap.size (.slice a xs.length c) xs ∧ Below w.heap.size w w'

set_option maxHeartbeats 2000000 in
theorem List_in (B : Nat) (w : World) (b N : Nat) (vs : List Ver) (h : VS 53 B w b N vs) (k : Nat) (p : Option Addr) (ts : List (BT Int)) (hk : vs[k]? = some (p, ts)) (hN : N ≤ 17592186044416) :
    Calls Tryd.prog 12 #[.pointer (some ⟨b, 0, none⟩), .int .i64 (k : Nat)] w (RetList w (elems ts)) := by
  have hlt : k < vs.length := (List.getElem?_eq_some_iff.1 hk).1
  have hm := List.mem_of_getElem? hk
  obtain ⟨g, c, hb, _, _, hc⟩ := h.at (by omega)
  obtain ⟨hsp, _, htot⟩ := h.sp _ hm
  have HV := Lib.hid (version_in w b vs.length g c k p (total ts : Nat) hb hlt (hc k p ts hk).1 (hc k p ts hk).2)
  have HS := Lib.hid hsp
  have hT : total ts ≤ 17592186044416 := by rw [htot]; exact hN
  clear hb hc h hsp htot hk hm
  go_enter Tryd.func12, Tryd.ntmps12
  go_wp2_with fail
  refine HV.out.mono ?_
  rintro e w1 ⟨rfl, hb1⟩
  have h2 := belowTrans hb1 (belowAlloc _ (.cells #[.pointer p, .int .i64 (total ts : Nat)] 49))
  have HI := Lib.hid (ral.ints_sp B _ p (total ts : Nat) ts (Sp.up h2 HS.out) hT)
  have H2 := Lib.hid h2
  clear hb1 h2
  go_wp2_with fail
  refine HI.out.mono ?_
  rintro e w3 ⟨a3, c3, rfl, ho3, hb3⟩
  have Ho := Lib.hid ho3
  have Hb3 := Lib.hid hb3
  clear ho3 hb3
  go_wp2_with fail
  go_ret2
  exact ⟨a3, c3, rfl, ownsRow_lower Ho.out H2.out.size, belowTrans H2.out Hb3.out⟩

set_option maxHeartbeats 2000000 in
theorem Len_vs (B : Nat) (w : World) (b N : Nat) (vs : List Ver) (h : VS 53 B w b N vs) :
    Calls Tryd.prog 11 #[.pointer (some ⟨b, 0, none⟩)] w fun e w' => e = .returned (.int .i64 (vs.length : Nat)) ∧ w = w' := by
  obtain ⟨a, c, hb⟩ := h.form
  have k0 := cell_of_one hb
  clear h hb
  go_enter Tryd.func11, Tryd.ntmps11
  go_wp2_with fail
  go_ret
  exact ⟨rfl, rfl⟩

set_option maxHeartbeats 2000000 in
theorem Set_none (B : Nat) (w : World) (b N : Nat) (vs : List Ver) (h : VS 53 B w b N vs) (v i x : Int) (hv : v < 0 ∨ (vs.length : Int) ≤ v) :
    Calls Tryd.prog 9 #[.pointer (some ⟨b, 0, none⟩), .int .i64 v, .int .i64 i, .int .i64 x] w (RetErr (.int .i64 0) 2 w) := by
  obtain ⟨a, c, hb⟩ := h.form
  have HV := Lib.hid (version_out w b vs.length a c v hb hv)
  clear hb hv h
  go_enter Tryd.func9, Tryd.ntmps9
  go_wp2_with fail
  refine HV.out.mono ?_
  rintro e w1 ⟨rfl, hb1⟩
  have Hb1 := Lib.hid hb1
  clear hb1
  go_wp2_with fail
  go_ret2
  exact ⟨rfl, belowTrans Hb1.out (belowAlloc _ _)⟩

set_option maxHeartbeats 2000000 in
theorem Set_range (B : Nat) (w : World) (b N : Nat) (vs : List Ver) (h : VS 53 B w b N vs) (k : Nat) (i x : Int) (hk : k < vs.length) (hi : i < 0 ∨ (N : Int) ≤ i) :
    Calls Tryd.prog 9 #[.pointer (some ⟨b, 0, none⟩), .int .i64 (k : Nat), .int .i64 i, .int .i64 x] w (RetErr (.int .i64 0) 1 w) := by
  obtain ⟨⟨p, ts⟩, hkv⟩ : ∃ y, vs[k]? = some y := ⟨_, List.getElem?_eq_getElem hk⟩
  have hm := List.mem_of_getElem? hkv
  obtain ⟨g, c, hb, _, _, hc⟩ := h.at (by omega)
  obtain ⟨hsp, _, htot⟩ := h.sp _ hm
  have htot' : total ts = N := htot
  have hc1 := (hc k p ts hkv).2
  rw [htot'] at hc1
  have HV := Lib.hid (version_in w b vs.length g c k p (N : Nat) hb hk (hc k p ts hkv).1 hc1)
  clear hb hc h hsp htot hkv hm htot' hc1
  go_enter Tryd.func9, Tryd.ntmps9
  go_wp2_with fail
  refine HV.out.mono ?_
  rintro e w1 ⟨rfl, hb1⟩
  have HI := Lib.hid (ral.Set_out (w1.alloc (.cells #[.pointer p, .int .i64 (N : Nat)] 49)) p N i x hi)
  have Hb1 := Lib.hid hb1
  clear hb1 hi
  go_wp2_with fail
  refine HI.out.mono ?_
  rintro e w2 ⟨rfl, hb2⟩
  have Hb2 := Lib.hid hb2
  clear hb2
  go_wp2_with fail
  go_ret2
  exact ⟨rfl, belowTrans (belowTrans (belowTrans Hb1.out (belowAlloc _ _)) Hb2.out) (belowAlloc _ _)⟩

/-- a version more: the box is laid, append writes, the versions' box is stored into -/
theorem VS.pushed {ty B : Nat} {w w4 w5 : World} {b N g c g5 cap5 : Nat} {vs : List Ver} {o : Obj} {p3 : Option Addr} {us : List (BT Int)} {sl : Value} {m : Nat} (n1 : ty ≠ 80) (n2 : ty ≠ 75) (n3 : ty ≠ 49)
    (h : VS ty B w b N vs) (hB : B ≤ w.heap.size) (h4 : Below w.heap.size w w4) (ho : w.ownsRow B 49 2 (.slice (some ⟨g, 0, none⟩) m c) vs.length (rowOf vs)) (hp : Sp B w4 p3 us) (hw : WF us) (ht : total us = N)
    (hown : w5.ownsRow B 49 2 (.slice (some ⟨g5, 0, none⟩) (vs.length + 1) cap5) (vs.length + 1) (rowOf vs ++ [.pointer p3, .int .i64 (N : Nat)])) (hk : KeepT [49] w4 w5)
    (hg : (w4.alloc o).grownBy w5 (Value.slice (some ⟨g, 0, none⟩) m c).ownBlock) (hb5 : w5.heap[b]? = some (.cells #[sl] ty (0, 0))) :
    VS ty B (w5.setCell ⟨b, 0, none⟩ (.slice (some ⟨g5, 0, none⟩) (vs.length + 1) cap5)) b N (vs ++ [(p3, us)]) ∧ Below B w (w5.setCell ⟨b, 0, none⟩ (.slice (some ⟨g5, 0, none⟩) (vs.length + 1) cap5)) ∧
      KeepT [ty, 49] w (w5.setCell ⟨b, 0, none⟩ (.slice (some ⟨g5, 0, none⟩) (vs.length + 1) cap5)) := by
  have hs4 := h4.size
  have kset : KeepT [ty] w5 (w5.setCell ⟨b, 0, none⟩ (.slice (some ⟨g5, 0, none⟩) (vs.length + 1) cap5)) := KeepT.set (a := ⟨b, 0, none⟩) hb5 (by simp) _
  have k05 : KeepT [49] w w5 := (KeepT.of (T := [49]) h4).trans hk
  have hsp : ∀ {p : Option Addr} {ts : List (BT Int)}, Sp B w5 p ts → Sp B (w5.setCell ⟨b, 0, none⟩ (.slice (some ⟨g5, 0, none⟩) (vs.length + 1) cap5)) p ts := fun hq => Sp.keep kset (by simpa using Ne.symm n1) (by simpa using Ne.symm n2) hq
  refine ⟨⟨h.hB, ⟨_, one_setCell hb5, ?_⟩, ?_⟩, ?_, ?_⟩
  · have h := rowKeep hown kset (by simpa using Ne.symm n3)
    rw [List.length_append, rowOf_append]
    simpa [rowOf, ht] using h
  · intro x hx
    rcases List.mem_append.1 hx with hx | hx
    · obtain ⟨h1, h2⟩ := h.sp x hx
      exact ⟨hsp (Sp.keep k05 (by decide) (by decide) h1), h2⟩
    · obtain rfl : x = (p3, us) := by simpa using hx
      exact ⟨hsp (Sp.keep hk (by decide) (by decide) hp), hw, ht⟩
  · have hgB : B ≤ g := by
      rcases ho.2 with ⟨e, _⟩ | ⟨g', cap, cur, e, hg', _⟩
      · cases e
      · cases e; exact hg'
    have hbg := Below.grown (((Below.refl B w).trans (h4.mono hB)).alloc (by omega) o) hg (by simp; omega) (fun k hk => by cases hk; exact hgB)
    exact hbg.setCell (p := ⟨b, 0, none⟩) h.hB _
  · exact (k05.more (by simp)).trans (kset.more (by simp))

/-- Set made a new version -/
def RetSet (B : Nat) (w : World) (b N : Nat) (vs : List Ver) (us : List (BT Int)) (e : Ending) (w' : World) : Prop :=
  ∃ p, e = .returned (.tuple #[.int .i64 (vs.length : Nat), .nilIface]) ∧ VS 53 B w' b N (vs ++ [(p, us)]) ∧ Below B w w' ∧ KeepT [53, 49] w w'

set_option maxRecDepth 100000 in
set_option maxHeartbeats 4000000 in
theorem Set_in (B : Nat) (w : World) (b N : Nat) (vs : List Ver) (h : VS 53 B w b N vs) (hB : B ≤ w.heap.size) (k i : Nat) (x : Int) (p : Option Addr) (ts : List (BT Int)) (hkv : vs[k]? = some (p, ts)) (hi : i < N) (hN : N ≤ 5000) (hl : vs.length < 5000) :
    Calls Tryd.prog 9 #[.pointer (some ⟨b, 0, none⟩), .int .i64 (k : Nat), .int .i64 (i : Nat), .int .i64 x] w (RetSet B w b N vs (setS ts i x)) := by
  have hk : k < vs.length := (List.getElem?_eq_some_iff.1 hkv).1
  have hm := List.mem_of_getElem? hkv
  obtain ⟨g, c, hb, hBg, hown, hc⟩ := h.at (by omega)
  obtain ⟨hsp, hwf, htot⟩ := h.sp _ hm
  have htot' : total ts = N := htot
  have hc1 := (hc k p ts hkv).2
  rw [htot'] at hc1
  have HV := Lib.hid (version_in w b vs.length g c k p (N : Nat) hb hk (hc k p ts hkv).1 hc1)
  have HS := Lib.hid (And.intro hsp (And.intro hwf htot'))
  have Hh := Lib.hid h
  have Hb := Lib.hid hb
  have Ho := Lib.hid hown
  obtain ⟨i0, hin, hz0, hz1, hz2⟩ := info_parts infoL
  have Hi := Lib.hid (And.intro hin (And.intro hz0 (And.intro hz1 hz2)))
  have g0 : (vs.length : Int) < 5000 := by omega
  clear hb hc h hsp htot hkv hm htot' hc1 hown hwf hin hz0 hz1 hz2
  go_enter Tryd.func9, Tryd.ntmps9
  go_wp2_with fail
  refine HV.out.mono ?_
  rintro e w1 ⟨rfl, hb1⟩
  have h2 := belowTrans hb1 (belowAlloc _ (.cells #[.pointer p, .int .i64 (N : Nat)] 49))
  have HI := Lib.hid (ral.Set_in B _ p ts N i x (szle h2 hB) (Sp.up h2 HS.out.1) HS.out.2.1 HS.out.2.2 hi (by omega))
  have H2 := Lib.hid h2
  clear hb1 h2
  go_wp2_with fail
  refine HI.out.mono ?_
  rintro e w3 ⟨p3, rfl, hp3, hb3⟩
  rw [ral.total_setS, HS.out.2.2]
  obtain ⟨w4, hw4⟩ : ∃ w4, w4 = w3.alloc (.cells #[.pointer p3, .int .i64 (N : Nat)] 49) := ⟨_, rfl⟩
  have h4 := belowTrans (belowTrans H2.out hb3) (belowAlloc w3 (.cells #[.pointer p3, .int .i64 (N : Nat)] 49))
  have hn4 := heap_alloc_new w3 (.cells #[.pointer p3, .int .i64 (N : Nat)] 49)
  have hp4 := Sp.up (belowAlloc w3 (.cells #[.pointer p3, .int .i64 (N : Nat)] 49)) hp3
  have kb3 := cell_of_one (upb h4 Hb.out)
  rw [← hw4] at h4 hn4 hp4
  have kb := cell_of_one (upb h4 Hb.out)
  have kb4a := upc (belowAlloc w4 (.cells #[.pointer p3, .int .i64 (N : Nat)] 49)) kb
  have kn0 := two_c0 hn4
  have kn1 := two_c1 hn4
  have hs4 := h4.size
  have hlen4 : vs.length ≤ 5000 := by omega
  have HW := Lib.hid hw4
  have H4 := Lib.hid h4
  have Hp4 := Lib.hid hp4
  have hbsz : b < w.heap.size := (Array.getElem?_eq_some_iff.1 Hb.out).1
  clear hw4 h4 hn4 hp4 hp3 hb3
  go_wp2_with fail
  rw [← HW.out]
  clear kb3
  go_region_law ((obtain ⟨hin, hz0, hz1, hz2⟩ := Hi.out; refine step_append_lies _ rfl (.tmp 44) (.tmp 46) 51 rfl B 49 i0 (.agg #[.pointer none, .int .i64 0]) 2 16 Tryd.underlying51 hin hz0 hz1 hz2 rfl (by decide) _ vs.length (rowOf vs) rfl (by exact ((rowUp Ho.out H4.out).alloc _).drew) ⟨w4.heap.size, 0, none⟩ 1 1 [.pointer p3, .int .i64 (N : Nat)] rfl rfl (World.news_of_block (cs := #[.pointer p3, .int .i64 (N : Nat)]) (t := 49) (fr := (0, 0)) (heap_alloc_new _ _)) (by simp [Value.oneCell']) (by omega) (by unfold maxLen; omega) (by omega) (by simp; omega) (w4.heap.size + 1) (by simp) ?_; intro g5 cap5 w5 hown5 hgrow hat hlt; clear hin hz0 hz1 hz2 hat hlt; have hg2 : (w4.alloc (.cells #[.pointer p3, .int .i64 (N : Nat)] 49)).grownBy w5 (Value.slice (some ⟨g, 0, none⟩) vs.length c).ownBlock := ⟨hgrow.os, hgrow.tape, hgrow.output, hgrow.size, hgrow.block⟩; have hK5 := KeepT.grown (rowUp Ho.out H4.out) hg2; have hb5 := hK5 _ _ _ _ (upb H4.out Hb.out) (by decide); have kb5 := cell_of_one hb5; have fb5 := free_of_one hb5; have Hown := Lib.hid hown5; have Hg := Lib.hid hg2; have Hb5 := Lib.hid hb5; have HK5 := Lib.hid hK5; clear hown5 hgrow hg2 hb5 hK5))
  all_goals
    go_wp2_with fail
    go_ret2
    have hwf2 := ral.wf_setS ts i x HS.out.2.1
    have ht2 : total (setS ts i x) = N := by rw [ral.total_setS]; exact HS.out.2.2
    exact ⟨p3, rfl, VS.pushed (by decide) (by decide) (by decide) Hh.out hB H4.out Ho.out Hp4.out hwf2 ht2 Hown.out HK5.out Hg.out Hb5.out⟩
end Go.Proofs.YthlcjhkelcfnoaaDoor.vers
