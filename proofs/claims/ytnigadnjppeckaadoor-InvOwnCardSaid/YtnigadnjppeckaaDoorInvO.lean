/- Package inv: Order. -/
import Derived.Test.YtnigadnjppeckaaDoorInvC
import Derived.Test.YtnigadnjppeckaaDoorDelI
import Derived.Laws.AppendOwn
import Derived.RangeFuncBox
namespace Go.Proofs.YtnigadnjppeckaaDoor.inv
open Go.RowKit Go

/-- what Order tells: 4: too many; 3: none of its form; else 0 -/
def ordL (n : Int) : List Int → Nat → Int
  | [], _ => 0
  | k :: r, i => if k < 0 ∨ n - i ≤ k then 3 else ordL n r (i + 1)
def ordF (p : List Int) : Int := if 20 < p.length then 4 else ordL p.length p 0
theorem ordL_bad {n : Int} {p : List Int} {k : Nat} (hk : k < p.length) (h : p.getD k 0 < 0 ∨ n - k ≤ p.getD k 0) : ordL n (p.drop k) k = 3 := by
  rw [List.drop_eq_getElem_cons hk]
  rw [List.getD_eq_getElem?_getD, List.getElem?_eq_getElem hk, Option.getD_some] at h
  rw [ordL, if_pos h]
theorem ordL_good {n : Int} {p : List Int} {k : Nat} (hk : k < p.length) (h : ¬ (p.getD k 0 < 0 ∨ n - k ≤ p.getD k 0)) : ordL n (p.drop k) k = ordL n (p.drop (k + 1)) (k + 1) := by
  rw [List.drop_eq_getElem_cons hk]
  rw [List.getD_eq_getElem?_getD, List.getElem?_eq_getElem hk, Option.getD_some] at h
  rw [ordL, if_neg h]
/-- a row of the call's own and an error: as many numbers as there were, or none -/
def RetO (w : World) (n : Nat) (code : Int) (e : Ending) (w' : World) : Prop := ∃ (a : Option Addr) (c : Nat) (xs : List Int), e = .returned (.tuple #[.slice a xs.length c, er.errV code]) ∧ OwnI 3 w' w.heap.size (.slice a xs.length c) xs ∧ xs.length = (if code = 0 then n else 0) ∧ Below w.heap.size w w'
theorem RetO.bad {w w' : World} {n : Nat} {code : Int} (hc : code ≠ 0) (hb : Below w.heap.size w w') : RetO w n code (.returned (.tuple #[.slice none 0 0, er.errV code])) w' :=
  ⟨none, 0, [], rfl, World.ownsRow_nil _ _ _ _, by rw [if_neg hc]; rfl, hb⟩
theorem rowKeep {W W' : World} {base e size n : Nat} {v : Value} {xs : List Value} (h : W.ownsRow base e size v n xs) (hk : ∀ g, v.ownBlock = some g → W'.heap[g]? = W.heap[g]?) : W'.ownsRow base e size v n xs := by
  refine ⟨h.1, ?_⟩
  rcases h.2 with h' | ⟨g, cap, cur, e1, e2, e3, r⟩
  · exact .inl h'
  · exact .inr ⟨g, cap, cur, e1, e2, (hk g (by rw [e1]; rfl)).trans e3, r⟩
structure OV (w V : World) (oa : Option Addr) (cap n i : Nat) (ov : Value) (W : World) : Prop where
  left : 0 < n → ∃ (g : Nat) (xs : List Int), oa = some ⟨g, 0, none⟩ ∧ w.heap.size ≤ g ∧ g < V.heap.size ∧ xs.length = n - i ∧ W.ownsRow w.heap.size 3 1 (.slice (some ⟨g, 0, none⟩) (n - i) cap) (n - i) (xs.map (Value.int .i64))
  out : ∃ ys : List Int, ys.length = i ∧ OwnI 3 W V.heap.size ov ys
  bel : Below w.heap.size w W
  bv : V.heap.size ≤ W.heap.size
structure LV (w : World) (k : Nat) (ov : Value) (W : World) : Prop where
  own : ∃ xs : List Int, xs.length = k ∧ OwnI 3 W w.heap.size ov xs
  bel : Below w.heap.size w W
theorem own_len' {w : World} {B n c : Nat} {a : Option Addr} {xs : List Int} (h : OwnI 3 w B (.slice a n c) xs) : n = xs.length := by
  rcases h.2 with ⟨e1, e2⟩ | ⟨g, cap, cur, e1, _, _, e3, _⟩
  · injection e1 with _ e5 _
    rw [e5, e2]
  · injection e1
set_option maxRecDepth 100000 in
set_option maxHeartbeats 4000000 in
theorem Order_any (w : World) (a : Option Addr) (c n : Nat) (p : List Int) (hl : n = p.length) (_hc : n ≤ c) (hr : Reads w a p) :
    Calls Tryd.prog 7 #[.slice a n c] w (RetO w n (ordF p)) := by
  by_cases hbig : 20 < n
  · have e : ordF p = 4 := by rw [ordF, if_pos (by omega)]
    rw [e]
    have h0 : (20 : Int) < (n : Int) := by omega
    go_enter Tryd.func7, Tryd.ntmps7
    go_wp2_with fail
    exact bodyPost_ret (v := .tuple #[.slice none 0 0, .iface 46 (.int .i64 4)]) (by simp [results, Tryd.results7, go_sem]) rfl (RetO.bad (code := 4) (by decide) (Below.refl _ _))
  · have e : ordF p = ordL (n : Int) (p.drop 0) 0 := by rw [ordF, if_neg (by omega), hl]; rfl
    have h0 : ¬ ((20 : Int) < (n : Int)) := by omega
    have Hl := Lib.hid hl
    have Hr := Lib.hid hr
    have H0 := Lib.hid e
    have HV0 : Hid (LV w 0 (.slice none 0 0) w) := Lib.hid ⟨⟨[], rfl, World.ownsRow_nil _ _ _ _⟩, Below.refl _ _⟩
    obtain ⟨i0, hi, hz0, hz1, hz2⟩ := info_parts infoInt
    have Hi := Lib.hid (And.intro hi (And.intro hz0 (And.intro hz1 hz2)))
    clear hl hr e hi hz0 hz1 hz2
    go_enter Tryd.func7, Tryd.ntmps7
    go_wp2_with fail
    go_loopw [4, 6, 15] (fun ov _ iv wr => ∃ (k : Nat) (ow : Value), k ≤ n ∧ iv = .int .i64 k ∧ ow = ov ∧ Hid (LV w k ow wr)) (fun _ _ iv _ => n - (intOf iv).toNat)
    case atStart => exact ⟨0, _, Nat.zero_le _, rfl, rfl, HV0⟩
    case round =>
      obtain ⟨k, ow, hk, rfl, rfl, HQ⟩ := hrel
      obtain ⟨xs, hxk, hox⟩ := HQ.out.own
      obtain ⟨oa, oc, rfl, _⟩ := hox.form
      rw [hxk]
      have hown : wr.ownsRow w.heap.size 3 1 (.slice oa k oc) k (xs.map (Value.int .i64)) := by
        unfold OwnI at hox
        rw [hxk] at hox
        exact hox
      have Ho := Lib.hid (And.intro hown hxk)
      have hsq := HQ.out.bel.size
      clear hown hox hxk HV0
      by_cases hlt : k < n
      · have k0 : (0 : Int) ≤ (k : Int) := by omega
        have k1 : (k : Int) < (n : Int) := by omega
        go_wp2_with (at_builtin; obtain ⟨hi, hz0, hz1, hz2⟩ := Hi.out; refine wpList_append_own _ rfl (.tmp 18) (.tmp 20) 22 rfl w.heap.size 3 i0 (.int .i64 0) 1 8 Tryd.underlying22 hi hz0 hz1 hz2 rfl (by decide) (.slice oa k oc) _ _ rfl (Ho.out.1.alloc _) ⟨wr.heap.size, 0, none⟩ 1 1 [.int .i64 (k : Int)] rfl rfl ?c1 ?c2 ?c3 ?c4 ?c5 ?_)
        case c1 => exact World.news_of_block (cs := #[.int .i64 (k : Int)]) (t := 3) (fr := (0, 0)) (heap_alloc_new _ _)
        case c2 => simp [Value.oneCell']
        case c3 => unfold maxLen; omega
        case c4 => omega
        case c5 => simp; omega
        intro v' w9 hown9 hgrow9 _
        obtain ⟨g3, cap3, rfl⟩ := ownsRow_succ hown9
        have HN : Hid (LV w (k + 1) (.slice (some ⟨g3, 0, none⟩) (k + 1) cap3) w9) := by
          refine Lib.hid ⟨⟨xs ++ [(k : Int)], by simp [Ho.out.2], ?_⟩, Below.grown (belowTrans HQ.out.bel (belowAlloc _ _)) hgrow9 (by simp; omega) (fun b hb => (World.ownsRow.lt Ho.out.1 b hb).1)⟩
          unfold OwnI
          rw [List.length_append, Ho.out.2, List.map_append]
          exact hown9
        clear hown9 hgrow9 Ho
        go_wp2_with fail
        exact ⟨⟨k + 1, _, hlt, by go_num, rfl, HN⟩, by simp [intOf]; omega⟩
      · obtain rfl : n = k := by omega
        have hwV := HQ.out.bel.size
        obtain ⟨V, rfl⟩ : ∃ V : World, V = wr := ⟨_, rfl⟩
        have HOV : Hid (OV w V oa oc n 0 (.slice none 0 0) V) := Lib.hid ⟨fun h => by
          have hx := Ho.out.1
          rcases hx.2 with ⟨e1, e2⟩ | ⟨g, cap, cur, e1, e2, e3, _⟩
          · omega
          · injection e1 with e4 _ _
            exact ⟨g, xs, e4, e2, (Array.getElem?_eq_some_iff.1 e3).1, Ho.out.2, by rw [← e4]; exact hx⟩, ⟨[], rfl, World.ownsRow_nil _ _ _ _⟩, HQ.out.bel, Nat.le_refl _⟩
        clear Ho HQ
        go_wp2_with fail
        go_loopw [4, 5, 7, 8, 25] (fun lv ov _ _ iv wr => ∃ (k : Nat) (ow : Value), k ≤ n ∧ iv = .int .i64 k ∧ lv = .slice oa (n - k) oc ∧ ow = ov ∧ Hid (OV w V oa oc n k ow wr) ∧ Hid (ordF p = ordL (n : Int) (p.drop k) k)) (fun _ _ _ _ iv _ => n - (intOf iv).toNat)
        case atStart => exact ⟨0, _, Nat.zero_le _, rfl, rfl, rfl, HOV, H0⟩
        case round =>
          obtain ⟨k, ow, hk, rfl, rfl, rfl, HS, HX⟩ := hrel
          clear HOV H0
          obtain ⟨ys, hyk, hoy⟩ := HS.out.out
          obtain ⟨pa, pc, rfl, _⟩ := hoy.form
          rw [hyk]
          have howy : wr.ownsRow V.heap.size 3 1 (.slice pa k pc) k (ys.map (Value.int .i64)) := by
            unfold OwnI at hoy
            rw [hyk] at hoy
            exact hoy
          have HY := Lib.hid (And.intro howy hyk)
          have hbv := HS.out.bv
          by_cases hlt : k < n
          · have hkp : k < p.length := by rw [← Hl.out]; exact hlt
            obtain ⟨rb, ro, rfl, hcell⟩ := reads_cell (Hr.out.up HS.out.bel) (k := k) hkp
            obtain ⟨y, hy⟩ : ∃ y, y = p.getD k 0 := ⟨_, rfl⟩
            rw [← hy] at hcell
            have hbad : (y < 0 ∨ (n : Int) - k ≤ y) → ordF p = 3 := fun h => by
              rw [HX.out]
              exact ordL_bad hkp (by rw [← hy]; exact h)
            have hgood : ¬ (y < 0 ∨ (n : Int) - k ≤ y) → ordF p = ordL (n : Int) (p.drop (k + 1)) (k + 1) := fun h => by
              rw [HX.out]
              exact ordL_good hkp (by rw [← hy]; exact h)
            have HB := Lib.hid hbad
            have HG := Lib.hid hgood
            have k0 : (0 : Int) ≤ (k : Int) := by omega
            have k1 : (k : Int) < (n : Int) := by omega
            clear hbad hgood hy hkp howy hoy hyk HX
            by_cases hneg : y < 0
            · as_aux_lemma =>
              have E3 := Lib.hid (HB.out (.inl hneg))
              have Hb := Lib.hid HS.out.bel
              clear HB HG HS HY
              go_wp2_with fail
              refine bodyPost_ret (v := .tuple #[.slice none 0 0, .iface 46 (.int .i64 3)]) (by simp [results, Tryd.results7, go_sem]) rfl ?_
              rw [E3.out]
              exact RetO.bad (code := 3) (by decide) Hb.out
            · by_cases hge : (n : Int) - k ≤ y
              · as_aux_lemma =>
                have E3 := Lib.hid (HB.out (.inr hge))
                have hd : decide (y < 0) = false := decide_eq_false (by omega)
                have Hb := Lib.hid HS.out.bel
                clear HB HG HS HY
                go_wp2_with fail
                refine bodyPost_ret (v := .tuple #[.slice none 0 0, .iface 46 (.int .i64 3)]) (by simp [results, Tryd.results7, go_sem]) rfl ?_
                rw [E3.out]
                exact RetO.bad (code := 3) (by decide) Hb.out
              · as_aux_lemma =>
                have E3 := Lib.hid (HG.out (fun h => h.elim (fun h => by omega) (fun h => by omega)))
                obtain ⟨m, rfl⟩ : ∃ m : Nat, y = (m : Int) := ⟨y.toNat, by omega⟩
                have hd : decide ((m : Int) < 0) = false := decide_eq_false (by omega)
                have hd2 : decide ((n : Int) - (k : Int) ≤ (m : Int)) = false := decide_eq_false (by omega)
                obtain ⟨g, xs, rfl, hgw, hgv, hxl, hox⟩ := HS.out.left (by omega)
                have hmk : m < n - k := by omega
                obtain ⟨z, hz⟩ : ∃ z, xs[m]? = some z := ⟨xs[m]'(by omega), List.getElem?_eq_getElem _⟩
                have hcz := World.ownsRow.cells hox (g := g) rfl m (.int .i64 z) (by rw [List.getElem?_map, hz]; rfl)
                rw [delI.addr_add, Nat.zero_add] at hcz
                have m0 : (0 : Int) ≤ (m : Int) := by omega
                have m1 : (m : Int) < ((n - k : Nat) : Int) := by omega
                have HO := Lib.hid (And.intro hox hxl)
                have Hb := Lib.hid HS.out.bel
                clear HB HG HS hox hxl hz
                go_wp2_with (at_builtin; obtain ⟨hi, hz0, hz1, hz2⟩ := Hi.out; refine wpList_append_own _ rfl (.tmp 41) (.tmp 46) 22 rfl V.heap.size 3 i0 (.int .i64 0) 1 8 Tryd.underlying22 hi hz0 hz1 hz2 rfl (by decide) (.slice pa k pc) _ _ rfl (HY.out.1.alloc _) ⟨wr.heap.size, 0, none⟩ 1 1 [.int .i64 z] rfl rfl ?c1 ?c2 ?c3 ?c4 ?c5 ?_)
                case c2 => simp [Value.oneCell']
                case c3 => unfold maxLen; omega
                case c4 => omega
                case c5 => first | omega | (simp; omega)
                intro v' w9 hown9 hgrow9 _
                obtain ⟨g3, cap3, rfl⟩ := ownsRow_succ hown9
                have hz9 : wr.heap.size + 1 ≤ w9.heap.size := by have := hgrow9.size; simpa using this
                have hgy : ∀ b, (Value.slice pa k pc).ownBlock = some b → V.heap.size ≤ b := fun b hb => (World.ownsRow.lt HY.out.1 b hb).1
                have hox9 : w9.ownsRow w.heap.size 3 1 (.slice (some ⟨g, 0, none⟩) (n - k) oc) (n - k) (xs.map (Value.int .i64)) := by
                  refine rowKeep HO.out.1 (fun b hb => ?_)
                  cases hb
                  refine (hgrow9.block g (by simp; omega) (fun e => ?_)).trans (Below.heap_alloc _ _ g (by omega))
                  have := hgy g e.symm
                  omega
                have hb9 : Below w.heap.size w w9 := by
                  refine Below.grown (belowTrans Hb.out (belowAlloc _ _)) hgrow9 (by simp; omega) (fun b hb => ?_)
                  have := hgy b hb
                  omega
                have HD' := delI.Delete_one w.heap.size (n - k) m (m + 1) g oc (xs.map (Value.int .i64)) w9 hox9 (by intro u hu; obtain ⟨y, _, rfl⟩ := List.mem_map.1 hu; rfl) (by omega) hmk rfl
                rw [show ((m + 1 : Nat) : Int) = (m : Int) + 1 by omega] at HD'
                have HD := Lib.hid HD'
                have H9 := Lib.hid (And.intro hown9 (And.intro hb9 hz9))
                clear hown9 hgrow9 hox9 hb9 HD' HO Hb hgy
                go_wp2_with fail
                refine HD.out.mono ?_
                rintro e w10 ⟨rfl, hd10, hg10⟩
                have HN : Hid (OV w V (some ⟨g, 0, none⟩) oc n (k + 1) (.slice (some ⟨g3, 0, none⟩) (k + 1) cap3) w10) := by
                  obtain ⟨hown9, hb9, hz9⟩ := H9.out
                  have hgz := hg10.size
                  refine Lib.hid ⟨fun _ => ⟨g, xs.take m ++ xs.drop (m + 1), rfl, hgw, hgv, ?_, ?_⟩, ⟨ys ++ [z], by simp [HY.out.2], ?_⟩, ⟨hg10.os.trans hb9.os, hg10.tape.trans hb9.tape, hg10.output.trans hb9.output, Nat.le_trans hb9.size hgz, fun b hb => (hg10.block b (Nat.lt_of_lt_of_le hb hb9.size) (fun e => by cases e; omega)).trans (hb9.block b hb)⟩, by omega⟩
                  · have h := hd10.1
                    simp only [Nat.mul_one, ← List.map_take, ← List.map_drop, ← List.map_append, List.length_map] at h
                    omega
                  · rw [show n - (k + 1) = n - k - 1 by omega]
                    simpa using hd10
                  · unfold OwnI
                    rw [List.length_append, HY.out.2, List.map_append]
                    refine rowKeep hown9 (fun b hb => ?_)
                    have hlb := World.ownsRow.lt hown9 b hb
                    exact hg10.block b hlb.2 (fun e => by cases e; omega)
                rw [show n - k - 1 = n - (k + 1) by omega]
                clear hd10 hg10 H9 HD HY
                go_wp2_with fail
                exact ⟨⟨k + 1, _, hlt, by go_num, rfl, rfl, HN, E3⟩, by simp [intOf]; omega⟩
          · obtain rfl : n = k := by omega
            have e0 : ordF p = 0 := by
              rw [HX.out, List.drop_eq_nil_of_le (by rw [Hl.out]; exact Nat.le_refl _)]
              rfl
            have E0 := Lib.hid e0
            have Hb := Lib.hid HS.out.bel
            clear e0 HX HS howy hoy
            go_wp2_with fail
            refine bodyPost_ret (v := .tuple #[.slice pa n pc, .nilIface]) (by simp [results, Tryd.results7, go_sem]) rfl ?_
            rw [E0.out]
            refine ⟨pa, pc, ys, by rw [hyk]; rfl, ?_, by rw [if_pos rfl, hyk], Hb.out⟩
            have := ownsRow_lower HY.out.1 hwV
            unfold OwnI
            rw [hyk]
            exact this
end Go.Proofs.YtnigadnjppeckaaDoor.inv
