/- Package seg: Ints. -/
import Derived.Test.YtnnpeblpdkeffaaSegN
import Derived.Laws.AppendOwn
import Derived.RangeFuncBox
namespace Go.Proofs.Ytnnpeblpdkeffaa.seg
open Go.RowKit Go

theorem own_on {pb base : Nat} {W W' : World} {v : Value} {xs : List Int} (h : OwnI 3 W base v xs) (hb : pb < base) (ho : On pb W W') : OwnI 3 W' base v xs := by
  refine ⟨h.1, ?_⟩
  rcases h.2 with h' | ⟨g, cap, cur, e1, e2, e3, r⟩
  · exact .inl h'
  · exact .inr ⟨g, cap, cur, e1, e2, ho.keep (by omega) e3, r⟩
theorem SM.same {s pb M n : Nat} {P : PF} {W W' : World} (h : SM s pb M n P W) (hs : W'.heap[s]? = W.heap[s]?) (hp : W'.heap[pb]? = W.heap[pb]?) : SM s pb M n P W' := by
  obtain ⟨cur, hc, hx⟩ := h.hp
  exact ⟨hs.trans h.hs, ⟨cur, hp.trans hc, hx⟩, h.ne⟩
/-- between two rounds -/
structure IV (s pb M n : Nat) (vs : List Int) (w : World) (dn : List Int) (ov : Value) (W : World) : Prop where
  own : OwnI 3 W w.heap.size ov dn
  on : On pb w W
  sm : ∃ P, SM s pb M n P W ∧ (n = 0 ∨ (Bnd 1 n M ∧ Rep P 1 vs))
/-- what Ints leaves behind -/
def RetIs (s pb M n : Nat) (vs : List Int) (w : World) (e : Ending) (w' : World) : Prop := ∃ a c, e = .returned (.slice a vs.length c) ∧ OwnI 3 w' w.heap.size (.slice a vs.length c) vs ∧ On pb w w' ∧ ∃ P, SM s pb M n P w' ∧ (n = 0 ∨ (Bnd 1 n M ∧ Rep P 1 vs))
theorem take_snoc {vs : List Int} {k : Nat} (h : k < vs.length) : vs.take (k + 1) = vs.take k ++ [vs.getD k 0] := by
  rw [List.take_succ_eq_append_getElem h, List.getD_eq_getElem?_getD, List.getElem?_eq_getElem h]
  rfl
set_option maxRecDepth 100000 in
set_option maxHeartbeats 2000000 in
theorem ints_any (s pb M n : Nat) (P : PF) (vs : List Int) (w : World) (hM : M ≤ 20000) (hn : n ≤ 5000) (hl : vs.length = n) (h : SM s pb M n P w) (hR : n = 0 ∨ (Bnd 1 n M ∧ Rep P 1 vs)) :
    Calls Try.prog 11 #[.pointer (some ⟨s, 0, none⟩)] w (RetIs s pb M n vs w) := by
  obtain ⟨g0, g1⟩ := h.head
  obtain ⟨i0, hi, hz0, hz1, hz2⟩ := info_parts infoInt
  have l1 : s < w.heap.size := (Array.getElem?_eq_some_iff.1 h.hs).1
  have l2 : pb < w.heap.size := by obtain ⟨cur, hc, _⟩ := h.hp; exact (Array.getElem?_eq_some_iff.1 hc).1
  have HI : Hid (IV s pb M n vs w (vs.take 0) (.slice none 0 0) w) := Lib.hid ⟨World.ownsRow_nil _ _ _ _, On.refl _ _, P, h, hR⟩
  have Hi := Lib.hid (And.intro hi (And.intro hz0 (And.intro hz1 hz2)))
  have Hl := Lib.hid hl
  clear h hR hi hz0 hz1 hz2 hl
  go_enter Try.func11, Try.ntmps11
  go_wp2_with fail
  go_loopw [3, 4, 5, 6, 11] (fun ov _ _ _ kv wr => ∃ (k : Nat) (ow : Value), k ≤ n ∧ kv = .int .i64 k ∧ ow = ov ∧ Hid (IV s pb M n vs w (vs.take k) ow wr)) (fun _ _ _ _ kv _ => n - (intOf kv).toNat)
  case atStart => exact ⟨0, _, Nat.zero_le _, rfl, rfl, HI⟩
  case round =>
    obtain ⟨k, ow, hk, rfl, rfl, HS⟩ := hrel
    by_cases hlt : k < n
    · obtain ⟨oa, oc, rfl, _⟩ := HS.out.own.form
      obtain ⟨P1, s1, hR1⟩ := HS.out.sm
      have hR2 : Bnd 1 n M ∧ Rep P1 1 vs := by
        rcases hR1 with e | h
        · omega
        · exact h
      have hkl : (vs.take k).length = k := by rw [List.length_take, Hl.out]; omega
      rw [hkl]
      have HT' := told_any s pb M n hM n 1 n k P1 vs wr (by rw [Hl.out]; exact Nat.le_refl _) Hl.out.symm (by omega) (Nat.le_refl _) hR2.2 hR2.1 s1 hlt
      rw [show ((1 : Nat) : Int) = 1 from rfl] at HT'
      have HT := Lib.hid HT'
      obtain ⟨d0, d1⟩ := s1.head
      have hk0 : (0 : Int) ≤ (k : Int) := by omega
      have hk1 : (k : Int) < (n : Int) := by omega
      have HB := Lib.hid hR2.1
      have Hkl := Lib.hid hkl
      clear HT' s1 hR1 hR2 HI hkl
      go_wp2_with fail
      refine HT.out.mono ?_
      rintro e w1 ⟨q, rfl, hq, ⟨P2, s2, r2, _⟩, o2⟩
      have hown : w1.ownsRow w.heap.size 3 1 (.slice oa k oc) k ((vs.take k).map (Value.int .i64)) := by
        have h := own_on HS.out.own l2 o2
        unfold OwnI at h
        rw [Hkl.out] at h
        exact h
      have Ho := Lib.hid (hown.alloc (.cells #[.int .i64 q.sum, .int .i64 q.least, .int .i64 q.most, .bool q.put, .int .i64 q.what, .int .i64 q.more] 55))
      have hsz : w.heap.size ≤ w1.heap.size := Nat.le_trans HS.out.on.size o2.size
      have H2 := Lib.hid (And.intro (s2.below (belowAlloc w1 (.cells #[.int .i64 q.sum, .int .i64 q.least, .int .i64 q.most, .bool q.put, .int .i64 q.what, .int .i64 q.more] 55))) (And.intro r2 (And.intro ((HS.out.on.trans o2).trans (On.below (belowAlloc w1 (.cells #[.int .i64 q.sum, .int .i64 q.least, .int .i64 q.most, .bool q.put, .int .i64 q.what, .int .i64 q.more] 55)))) hq)))
      clear s2 r2 o2 hq hown HS HT
      go_wp2_with (at_builtin; obtain ⟨hi, hz0, hz1, hz2⟩ := Hi.out; refine wpList_append_own _ rfl (.tmp 26) (.tmp 29) 22 rfl w.heap.size 3 i0 (.int .i64 0) 1 8 Try.underlying22 hi hz0 hz1 hz2 rfl (by decide) (.slice oa k oc) _ _ rfl (Ho.out.alloc _) ⟨w1.heap.size + 1, 0, none⟩ 1 1 [.int .i64 q.sum] rfl rfl ?c1 ?c2 ?c3 ?c4 ?c5 ?_)
      case c1 => exact World.news_of_block (cs := #[.int .i64 q.sum]) (t := 3) (fr := (0, 0)) (heapNew2 _ _ _)
      case c2 => simp [Value.oneCell']
      case c3 => unfold maxLen; omega
      case c4 => omega
      case c5 => simp; omega
      intro v' w2 hown2 hgrow2 _
      obtain ⟨g3, cap3, rfl⟩ := ownsRow_succ hown2
      have HN : Hid (IV s pb M n vs w (vs.take (k + 1)) (.slice (some ⟨g3, 0, none⟩) (k + 1) cap3) w2) := by
        obtain ⟨s2, r2, o2, hq⟩ := H2.out
        have hz := hgrow2.size
        have hkeep : ∀ b, b < w.heap.size → w2.heap[b]? = (w1.alloc (.cells #[.int .i64 q.sum, .int .i64 q.least, .int .i64 q.most, .bool q.put, .int .i64 q.what, .int .i64 q.more] 55)).heap[b]? := by
          intro b hb
          refine (hgrow2.block b (by simp; omega) ?_).trans (Below.heap_alloc _ _ b (by simp; omega))
          intro e
          have := (World.ownsRow.lt Ho.out b e.symm).1
          omega
        refine Lib.hid ⟨?_, ⟨hgrow2.os.trans o2.os, hgrow2.tape.trans o2.tape, hgrow2.output.trans o2.output, by simp at hz; omega, fun b hb hp => (hkeep b hb).trans (o2.block b hb hp)⟩, P2, s2.same (hkeep s l1) (hkeep pb l2), .inr ⟨HB.out, r2⟩⟩
        unfold OwnI
        rw [take_snoc (by rw [Hl.out]; exact hlt), List.length_append, Hkl.out, List.map_append, ← hq, List.map_take]
        exact hown2
      clear hown2 hgrow2 H2 Ho
      go_wp2_with fail
      exact ⟨⟨k + 1, _, hlt, by go_num, rfl, HN⟩, by simp [intOf]; omega⟩
    · obtain rfl : n = k := by omega
      have htk : vs.take n = vs := List.take_of_length_le (by rw [Hl.out]; exact Nat.le_refl _)
      rw [htk] at HS
      obtain ⟨oa, oc, rfl, _⟩ := HS.out.own.form
      clear HI htk
      go_wp2_with fail
      go_ret
      exact ⟨oa, oc, rfl, HS.out.own, HS.out.on, HS.out.sm⟩
end Go.Proofs.Ytnnpeblpdkeffaa.seg
