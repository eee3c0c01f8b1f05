/- Of of a heap that is a tree behind one pointer: package left. -/
import Derived.Test.YtnigadnjppeckaaLeft2
import Derived.Test.YtnigadnjppeckaaMore
import Derived.Test.YtnigadnjppeckaaCat
import Derived.Test.YtnigadnjppeckaaGather
import Derived.Test.YtnigadnjppeckaaFill
import Derived.Deep.LoopGhost
import Derived.Test.YtnigadnjppeckaaLeftM
namespace Go.Proofs.Ytnigadnjppeckaa.left
open Go.RowKit

set_option maxHeartbeats 1000000 in
theorem Of_some (w : World) (b o c : Nat) (xs : List Int) (hn : xs.length ≤ 17592186044416)
    (hc : ∀ i, i < xs.length → w.cell? ⟨b, o + i, none⟩ = some (.int .i64 (xs.getD i 0))) :
    Calls Try.prog 33 #[.slice (some ⟨b, o, none⟩) xs.length c] w (RetS w.heap.size w (OfQ xs)) := by
  obtain ⟨n, hnx⟩ : ∃ n, n = xs.length := ⟨_, rfl⟩
  rw [← hnx] at hn hc ⊢
  have Hc := Lib.hid hc
  have Hx := Lib.hid hnx
  clear hc hnx
  go_enter Try.func33, Try.ntmps33
  go_wp2_with fail
  go_loopw [5, 8] (fun _ i wr => ∃ (k : Nat) (p : Option Addr) (t : BT A), k ≤ n ∧ i = .int .i64 k ∧ Hid (OfQ (xs.take k) t) ∧ Hid (In w.heap.size wr p t) ∧ Hid (Below w.heap.size w wr) ∧ w.heap.size + 1 < wr.heap.size ∧ Hid (wr.heap[w.heap.size]? = some (.cells #[.pointer none] 80 (0, 0))) ∧ Hid (wr.heap[w.heap.size + 1]? = some (.cells #[.pointer p] 80 (0, 0)))) (fun _ i _ => n - (intOf i).toNat)
  case atStart => 
    refine ⟨0, none, .nil, Nat.zero_le _, rfl, Lib.hid OfQ_nil, Lib.hid rfl, Lib.hid (belowTrans (belowAlloc w _) (belowAlloc _ _)), by simp, Lib.hid (heapNew1 _ _ _), Lib.hid (heapNew2 _ _ _)⟩
  case round =>
    obtain ⟨k, p, t, hk, rfl, Ht, Hin, Hb, hsz, Hr, Hs⟩ := hrel
    by_cases hlt : k < n
    · have c1 := upc Hb.out (Hc.out k hlt)
      have kc := cell_of_one Hs.out
      have hP := Put_any w.heap.size wr p t (xs.getD k 0) (by omega) Hin.out (by have h := OfQ_size Ht.out; rw [List.length_take] at h; omega)
      have HP := Lib.hid hP
      clear hP
      go_wp2_with fail
      refine HP.out.mono ?_
      rintro e w1 ⟨p1, t1, rfl, hq1, hp1, hb1⟩
      have Hq1 : Hid (OfQ (xs.take (k + 1)) t1) := Lib.hid (by
        have h := OfQ_snoc Ht.out hq1
        have e : xs.take (k + 1) = xs.take k ++ [xs.getD k 0] := by
          rw [List.take_succ_eq_append_getElem (by rw [← Hx.out]; exact hlt)]
          simp [List.getD_eq_getElem?_getD, show k < xs.length by rw [← Hx.out]; exact hlt]
        rw [e]
        exact h)
      clear hq1
      have hk1 := upb hb1 Hs.out
      have hr1 := upb hb1 Hr.out
      have kc1 := cell_of_one hk1
      have fc1 := free_of_one hk1
      have hbb := belowTrans Hb.out hb1
      have hz := hb1.size
      have Hin1 := Lib.hid (hp1.store (off := 0) (u := .pointer p1) hk1 (by decide))
      have Hb1 := Lib.hid (belowSet (a := ⟨w.heap.size + 1, 0, none⟩) hbb (by simp) (.pointer p1))
      have Hk1 := Lib.hid (one_setCell (u := .pointer p1) hk1)
      have Hr1 := Lib.hid ((Below.heap_setCell w1 ⟨w.heap.size + 1, 0, none⟩ (.pointer p1) w.heap.size (by simp)).trans hr1)
      clear hk1 hr1 hbb hb1 hp1 kc
      go_wp2_with fail
      exact ⟨⟨k + 1, p1, t1, by omega, by go_num, Hq1, Hin1, Hb1, by simp [World.setCell]; omega, Hr1, Hk1⟩, by simp [intOf]; omega⟩
    · have Hkn : Hid (OfQ xs t) := Lib.hid (by
        have h := Ht.out
        rw [List.take_of_length_le (by rw [← Hx.out]; omega)] at h
        exact h)
      have kc := cell_of_one Hs.out
      have kr := cell_of_one Hr.out
      have fr := free_of_one Hr.out
      have Hin1 := Lib.hid (Hin.out.store (off := 0) (u := .pointer p) Hr.out (by decide))
      have Hb1 := Lib.hid (belowSet (a := ⟨w.heap.size, 0, none⟩) Hb.out (Nat.le_refl _) (.pointer p))
      go_wp2_with fail
      exact bodyPost_ret (v := .agg #[.pointer p]) (by simp [results, Try.results33, go_sem, kr]) rfl ⟨p, t, rfl, Hkn.out, Hin1.out, Hb1.out⟩

set_option maxHeartbeats 400000 in
theorem Of_none (w : World) : Calls Try.prog 33 #[.slice none 0 0] w (RetS w.heap.size w (OfQ [])) := by
  go_enter Try.func33, Try.ntmps33
  go_wp2_with fail
  go_loopw [5, 8] (fun _ i wr => i = .int .i64 0 ∧ wr = (w.alloc (.cells #[.pointer none] 80)).alloc (.cells #[.pointer none] 80)) (fun _ _ _ => 0)
  case atStart => exact ⟨rfl, rfl⟩
  case round =>
    obtain ⟨rfl, rfl⟩ := hrel
    go_wp2_with fail
    exact bodyPost_ret (v := .agg #[.pointer none]) (by simp [results, Try.results33, go_sem]) rfl ⟨none, .nil, rfl, OfQ_nil, rfl, (belowTrans (belowAlloc w _) (belowAlloc _ _))⟩

set_option maxHeartbeats 400000 in
theorem Of_zero (x : Addr) (c : Nat) (w : World) : Calls Try.prog 33 #[.slice (some x) 0 c] w (RetS w.heap.size w (OfQ [])) := by
  go_enter Try.func33, Try.ntmps33
  go_wp2_with fail
  go_loopw [5, 8] (fun _ i wr => i = .int .i64 0 ∧ wr = (w.alloc (.cells #[.pointer none] 80)).alloc (.cells #[.pointer none] 80)) (fun _ _ _ => 0)
  case atStart => exact ⟨rfl, rfl⟩
  case round =>
    obtain ⟨rfl, rfl⟩ := hrel
    go_wp2_with fail
    exact bodyPost_ret (v := .agg #[.pointer none]) (by simp [results, Try.results33, go_sem]) rfl ⟨none, .nil, rfl, OfQ_nil, rfl, (belowTrans (belowAlloc w _) (belowAlloc _ _))⟩

theorem Of_any (w : World) (a : Option Addr) (c : Nat) (xs : List Int) (hn : xs.length ≤ 17592186044416) (hr : Reads w a xs) (ha : a = none → c = 0) :
    Calls Try.prog 33 #[.slice a xs.length c] w (RetS w.heap.size w (OfQ xs)) := by
  cases a with
  | none =>
    rcases hr with rfl | ⟨b', o', h, _⟩
    · obtain rfl := ha rfl
      exact Of_none w
    · cases h
  | some x =>
    rcases hr with rfl | ⟨b', o', h, hc⟩
    · exact Of_zero x c w
    · cases h
      exact Of_some w b' o' c xs hn hc
end Go.Proofs.Ytnigadnjppeckaa.left
/- The walks of package left, the third part: Ints takes all, one by one. -/
namespace Go.Proofs.Ytnigadnjppeckaa.left
open Go.RowKit

/-- what a Pop hands back, of whatever heap -/
def RetPop (w : World) (u : BT A) (e : Ending) (w' : World) : Prop := ∃ (q : Option Addr) (u' : BT A) (y : Int) (hs : Bool), e = .returned (.tuple #[.int .i64 y, .agg #[.pointer q], .bool hs]) ∧
  (if hs then y :: ints u' else []) = ints u ∧ (if hs then 1 + u'.size else 0) = u.size ∧ In 0 w' q u' ∧ Below w.heap.size w w'
theorem Pop_any (w : World) (p : Option Addr) (u : BT A) (h : In 0 w p u) (hn : u.size ≤ 1152921504606844000) : Calls Try.prog 66 #[.agg #[.pointer p]] w (RetPop w u) := by
  cases u with
  | nil =>
    obtain rfl : p = none := h
    refine (Pop_nil w).mono ?_
    rintro e w' ⟨rfl, hb⟩
    exact ⟨none, .nil, 0, false, rfl, rfl, rfl, rfl, hb⟩
  | node x l r =>
    simp only [BT.size] at hn
    refine (Pop_node 0 w p x l r (Nat.zero_le _) h (by omega)).mono ?_
    rintro e w' ⟨q, rfl, hq, hb⟩
    refine ⟨q, _, x, true, rfl, ?_, ?_, hq, hb⟩
    · rw [ints_node]
      rfl
    · rw [if_pos rfl, size_mrg]
      simp only [BT.size]
      omega

/-- what holds at a round's head: what has come, what is at hand, what is still in the heap -/
def Head (w0 : World) (t : BT A) (k : Nat) (hs : Bool) (G : Nat) (q : Option Addr) (y : Int) (m : Nat) (v : Value) (wr : World) : Prop :=
  ∃ (acc : List Int) (u : BT A), acc.length = m ∧ acc ++ (if hs then y :: ints u else []) = ints t ∧ k = (if hs then 1 + u.size else 0) ∧ wr.ownsRow w0.heap.size 3 1 v m (acc.map (Value.int .i64)) ∧
    Below w0.heap.size w0 wr ∧ w0.heap.size ≤ G ∧ wr.heap[G]? = some (.cells #[.pointer q] 80 (0, 0)) ∧ In 0 wr q u ∧ v.ownBlock ≠ some G

set_option maxHeartbeats 4000000 in
theorem ints_any (B : Nat) (w : World) (p : Option Addr) (t : BT A) (h : In B w p t) (hn : t.size ≤ 17592186044416) :
    Calls Try.prog 35 #[.agg #[.pointer p]] w (RetI 3 w (ints t)) := by
  obtain ⟨W, hW⟩ : ∃ W, W = (w.alloc (.cells #[.pointer p] 80)) := ⟨_, rfl⟩
  have hbW : Below w.heap.size w W := by rw [hW]; exact belowAlloc _ _
  have hP := Pop_any W p t ((h.lower (Nat.zero_le _)).up hbW) (by omega)
  have HP := Lib.hid hP
  have HW := Lib.hid hW
  have HbW := Lib.hid hbW
  obtain ⟨i0, hi, hz0, hz1, hz2⟩ := info_parts infoInt
  have Hi := Lib.hid (And.intro hi (And.intro hz0 (And.intro hz1 hz2)))
  clear hP hW hbW h hi hz0 hz1 hz2
  go_enter Try.func35, Try.ntmps35
  go_wp2_with fail
  rw [← HW.out]
  refine HP.out.mono ?_
  rintro e w1 ⟨q, u, y, hs, rfl, he, hk, hq, hb1⟩
  have hh : Head w t t.size hs w1.heap.size q y 0 (.slice none 0 0) (w1.alloc (.cells #[.pointer q] 80)) :=
    ⟨[], u, rfl, he, hk.symm, World.ownsRow_nil _ _ _ _, (belowTrans HbW.out hb1).alloc (by have h1 := HbW.out.size; have h2 := hb1.size; omega) _, by have h1 := HbW.out.size; have h2 := hb1.size; omega, heap_alloc_new _ _, hq.up (belowAlloc _ _), by simp [Value.ownBlock]⟩
  have HH := Lib.hid hh
  clear hh he hk hq hb1
  go_wp2_with fail
  go_loopg [3, 4, 5, 6] t.size (fun k v x gp has wr => ∃ (hs : Bool) (G : Nat) (q : Option Addr) (y : Int) (m : Nat), x = .int .i64 y ∧ gp = .pointer (some ⟨G, 0, none⟩) ∧ has = .bool hs ∧ Hid (Head w t k hs G q y m v wr))
  case atStart => exact ⟨hs, w1.heap.size, q, y, 0, rfl, rfl, rfl, HH⟩
  case round =>
    obtain ⟨hs2, G, q2, y2, m, rfl, rfl, rfl, Hh⟩ := hrel
    cases hs2
    · have hfin : Hid (OwnI 3 wr w.heap.size u3 (ints t) ∧ Below w.heap.size w wr) := Lib.hid (by
        obtain ⟨acc, u', hm, hi, _, hr, hb, _⟩ := Hh.out
        have e : acc = ints t := by simpa using hi
        rw [e] at hr hm
        rw [OwnI, hm]
        exact ⟨hr, hb⟩)
      clear Hh
      go_wp2_with fail
      go_ret
      exact RetI.mk hfin.out.1 hfin.out.2
    · obtain ⟨acc, u', hm, hi, hk, hr, hb, hG, hc, hin, hne⟩ := Hh.out
      have hlen : m + 1 + u'.size = t.size := by
        have h := congrArg List.length hi
        rw [List.length_append, if_pos rfl, List.length_cons, ints_length, ints_length, hm] at h
        omega
      have hm1 : m + 1 ≤ 17592186044416 := by omega
      have hus : u'.size ≤ 1152921504606844000 := by omega
      have hi' : (acc ++ [y2]) ++ ints u' = ints t := by rw [← hi]; simp
      have hws : w.heap.size ≤ wr.heap.size := hb.size
      have Ho := Lib.hid hr
      have Hb := Lib.hid hb
      have Hc := Lib.hid hc
      have Hin := Lib.hid hin
      have Hne := Lib.hid hne
      have Hm := Lib.hid hm
      have HI := Lib.hid hi'
      have HK := Lib.hid hk
      clear hr hb hc hin hne hm hi hi' hk Hh hlen
      go_wp2_with (at_builtin; obtain ⟨hi, hz0, hz1, hz2⟩ := Hi.out; refine wpList_append_own _ rfl (.tmp 20) (.tmp 22) 22 rfl w.heap.size 3 i0 (.int .i64 0) 1 8 Try.underlying22 hi hz0 hz1 hz2 rfl (by decide) _ m _ rfl (Ho.out.alloc _) ⟨wr.heap.size, 0, none⟩ 1 1 [.int .i64 y2] rfl rfl (cell_one_new _ _ _) (by simp [Value.oneCell']) (by unfold maxLen; omega) (by omega) (by simp; omega) ?_; intro v' w2 hown' hgrow hnil; clear hnil hi hz0 hz1 hz2; have hc2 := ((hgrow.block G (by have h := (Array.getElem?_eq_some_iff.1 Hc.out).1; simp; omega) (fun e => Hne.out e.symm)).trans (Below.heap_alloc wr _ G (Array.getElem?_eq_some_iff.1 Hc.out).1)).trans Hc.out; have kc2 := cell_of_one hc2; have Hown := Lib.hid hown'; have Hgrow := Lib.hid hgrow; clear hown' hgrow hc2)
      have hgrow := Hgrow.out
      have hb2 := Below.grown (belowTrans Hb.out (belowAlloc _ _)) hgrow (by simp; omega) (fun b hb => (Ho.out.lt b hb).1)
      have hin2 := Hin.out.grown Ho.out hgrow (by decide)
      have hP2 := Pop_any (w2.alloc (.cells #[.pointer q2] 80)) q2 u' (hin2.up (belowAlloc _ _)) hus
      have hws2 : w.heap.size ≤ w2.heap.size := hb2.size
      have Hb2 := Lib.hid hb2
      have HP2 := Lib.hid hP2
      clear hb2 hin2 hP2 hgrow Hgrow
      go_wp2_with fail
      refine HP2.out.mono ?_
      rintro e w4 ⟨q4, u4, y4, hs4, rfl, he4, hk4, hq4, hb4⟩
      have hc4 := upb hb4 (heap_alloc_new w2 (.cells #[.pointer q2] 80))
      have kc4 := cell_of_one hc4
      have fc4 := free_of_one hc4
      have hlt := (fun b hb => (Hown.out.lt b hb).2)
      have hh : Head w t u'.size hs4 w2.heap.size q4 y4 (m + 1) v' (w4.setCell ⟨w2.heap.size, 0, none⟩ (.pointer q4)) := by
        refine ⟨acc ++ [y2], u4, by simp [Hm.out], ?_, hk4.symm, ?_, ?_, hws2, one_setCell hc4, hq4.store (off := 0) hc4 (by decide), fun e => by have h := hlt _ e; omega⟩
        · rw [he4]
          exact HI.out
        · rw [List.map_append]
          have h := rowUp Hown.out (belowTrans (belowAlloc w2 (.cells #[.pointer q2] 80)) hb4)
          exact ownsRow_setCell_other h (fun e => by have h := hlt _ e; simp at h) _
        · exact belowSet (a := ⟨w2.heap.size, 0, none⟩) (belowTrans Hb2.out (belowTrans (belowAlloc _ _) hb4)) hws2 _
      have Hh := Lib.hid hh
      have hk5 : u'.size < gk := by have h := HK.out; simp at h; omega
      clear hh he4 hk4 hq4 hb4 hc4 hlt kc2
      go_wp2_with fail
      go_roundg u'.size
      case measure => exact hk5
      case rel => exact ⟨hs4, w2.heap.size, q4, y4, m + 1, rfl, rfl, rfl, Hh⟩
end Go.Proofs.Ytnigadnjppeckaa.left
/- Heaps that hang to the left: what goes out of them rises, and it is of the same numbers. No program stands here. -/
namespace Go.Proofs.Ytnigadnjppeckaa.left

/-- how often a number is in a tree -/
def num (z : Int) : BT A → Nat
  | .nil => 0
  | .node x l r => (if x = z then 1 else 0) + num z l + num z r
/-- what is under a number is not below it -/
def HO : BT A → Prop
  | .nil => True
  | .node x l r => (∀ y, 0 < num y l + num y r → x ≤ y) ∧ HO l ∧ HO r
theorem lt_le {x y z : Int} (h : y < x) (e : x ≤ z) : y ≤ z := by omega
theorem lt_eq {x y z : Int} (h : y < x) (e : x = z) : y ≤ z := by omega
theorem nlt_le {x y z : Int} (h : ¬ y < x) (e : y ≤ z) : x ≤ z := by omega
theorem nlt_eq {x y z : Int} (h : ¬ y < x) (e : y = z) : x ≤ z := by omega
theorem num_mk (z x : Int) (a b : BT A) : num z (mk x a b) = (if x = z then 1 else 0) + num z a + num z b := by
  unfold mk
  split <;> simp only [num] <;> omega
theorem HO_mk {x : Int} {a b : BT A} (h : ∀ y, 0 < num y a + num y b → x ≤ y) (ha : HO a) (hb : HO b) : HO (mk x a b) := by
  unfold mk
  split
  · exact ⟨fun y hy => h y (by omega), hb, ha⟩
  · exact ⟨h, ha, hb⟩
theorem mrg_both (n : Nat) : ∀ a b : BT A, a.size + b.size ≤ n → (∀ z, num z (mrg a b) = num z a + num z b) ∧ (HO a → HO b → HO (mrg a b)) := by
  induction n with
  | zero =>
    intro a b h
    cases a with
    | node x al ar => simp only [BT.size] at h; omega
    | nil => rw [mrg_nil]; exact ⟨fun z => by simp only [num]; omega, fun _ h => h⟩
  | succ n ih =>
    intro a b h
    cases a with
    | nil => rw [mrg_nil]; exact ⟨fun z => by simp only [num]; omega, fun _ h => h⟩
    | node x al ar =>
      cases b with
      | nil => rw [mrg_nil']; exact ⟨fun z => by simp only [num]; omega, fun h _ => h⟩
      | node y bl br =>
        rw [mrg_node]
        simp only [BT.size] at h
        by_cases hlt : y < x
        · rw [if_pos hlt]
          obtain ⟨i1, i2⟩ := ih br (.node x al ar) (by simp only [BT.size]; omega)
          refine ⟨fun z => ?_, fun ha hb => HO_mk (fun z hz => ?_) hb.2.1 (i2 hb.2.2 ha)⟩
          · rw [num_mk, i1]; simp only [num]; omega
          · rw [i1] at hz
            simp only [num] at hz
            have h1 := hb.1 z
            have h2 := ha.1 z
            by_cases e : x = z
            · exact lt_eq hlt e
            · rw [if_neg e] at hz
              by_cases e2 : 0 < num z bl + num z br
              · exact h1 e2
              · exact lt_le hlt (h2 (by omega))
        · rw [if_neg hlt]
          obtain ⟨i1, i2⟩ := ih ar (.node y bl br) (by simp only [BT.size]; omega)
          refine ⟨fun z => ?_, fun ha hb => HO_mk (fun z hz => ?_) ha.2.1 (i2 ha.2.2 hb)⟩
          · rw [num_mk, i1]; simp only [num]; omega
          · rw [i1] at hz
            simp only [num] at hz
            have h1 := ha.1 z
            have h2 := hb.1 z
            by_cases e : y = z
            · exact nlt_eq hlt e
            · rw [if_neg e] at hz
              by_cases e2 : 0 < num z al + num z ar
              · exact h1 e2
              · exact nlt_le hlt (h2 (by omega))
theorem num_mrg (z : Int) (a b : BT A) : num z (mrg a b) = num z a + num z b := (mrg_both _ a b (Nat.le_refl _)).1 z
theorem HO_mrg {a b : BT A} (ha : HO a) (hb : HO b) : HO (mrg a b) := (mrg_both _ a b (Nat.le_refl _)).2 ha hb

theorem ints_both (n : Nat) : ∀ t : BT A, t.size ≤ n → HO t → (ints t).Pairwise (· ≤ ·) ∧ ∀ z, (ints t).count z = num z t := by
  induction n with
  | zero =>
    intro t h _
    cases t with
    | nil => exact ⟨List.Pairwise.nil, fun z => rfl⟩
    | node x l r => simp only [BT.size] at h; omega
  | succ n ih =>
    intro t h ht
    cases t with
    | nil => exact ⟨List.Pairwise.nil, fun z => rfl⟩
    | node x l r =>
      simp only [BT.size] at h
      obtain ⟨i1, i2⟩ := ih (mrg l r) (by rw [size_mrg]; omega) (HO_mrg ht.2.1 ht.2.2)
      rw [ints_node]
      refine ⟨List.Pairwise.cons (fun y hy => ?_) i1, fun z => ?_⟩
      · have h1 := List.count_pos_iff.2 hy
        rw [i2, num_mrg] at h1
        exact ht.1 y h1
      · rw [List.count_cons, i2, num_mrg]
        simp only [num, beq_iff_eq]
        omega

theorem ofList_both (xs : List Int) : ∀ t : BT A, HO t → HO (xs.foldl (fun t x => mrg t (.node x .nil .nil)) t) ∧ ∀ z, num z (xs.foldl (fun t x => mrg t (.node x .nil .nil)) t) = num z t + xs.count z := by
  induction xs with
  | nil => intro t h; exact ⟨h, fun z => by simp⟩
  | cons x xs ih =>
    intro t h
    obtain ⟨i1, i2⟩ := ih (mrg t (.node x .nil .nil)) (HO_mrg h ⟨fun y hy => by simp [num] at hy, trivial, trivial⟩)
    refine ⟨i1, fun z => ?_⟩
    rw [List.foldl_cons, i2, num_mrg, List.count_cons]
    simp only [num, beq_iff_eq]
    omega
theorem HO_ofList (xs : List Int) : HO (xs.foldl (fun t x => mrg t (.node x .nil .nil)) .nil) := (ofList_both xs .nil trivial).1
theorem num_ofList (z : Int) (xs : List Int) : num z (xs.foldl (fun t x => mrg t (.node x .nil .nil)) .nil) = xs.count z := by rw [(ofList_both xs .nil trivial).2 z]; simp [num]
end Go.Proofs.Ytnigadnjppeckaa.left
/- The walks of package left: Join. -/
namespace Go.Proofs.Ytnigadnjppeckaa.left
open Go.RowKit

set_option maxHeartbeats 4000000 in
theorem Join_any (B : Nat) (w : World) (p : Option Addr) (t : BT A) (q : Option Addr) (u : BT A) (hB : B ≤ w.heap.size) (h : In B w p t) (hq : In B w q u) (hn : t.size + u.size ≤ 1152921504606844000) :
    Calls Try.prog 34 #[.agg #[.pointer p], .agg #[.pointer q]] w (RetS B w (· = mrg t u)) := by
  obtain ⟨W, hW⟩ : ∃ W, W = ((w.alloc (.cells #[.pointer p] 80)).alloc (.cells #[.pointer q] 80)).alloc (.cells #[.pointer none] 80) := ⟨_, rfl⟩
  have h1 : Below w.heap.size w W := by rw [hW]; exact belowTrans (belowTrans (belowAlloc _ _) (belowAlloc _ _)) (belowAlloc _ _)
  have kz : W.cell? ⟨w.heap.size, 0, none⟩ = some (.pointer p) := by rw [hW]; exact upc (belowAlloc _ _) (cell_of_one (heapNew1 _ _ _))
  have ky : W.cell? ⟨w.heap.size + 1, 0, none⟩ = some (.pointer q) := by rw [hW]; exact upc (belowAlloc _ _) (cell_of_one (heapNew2 _ _ _))
  have hz : W.heap[w.heap.size + 2]? = some (.cells #[.pointer none] 80 (0, 0)) := by rw [hW]; have := heapNew2 (w.alloc (.cells #[.pointer p] 80)) (.cells #[.pointer q] 80) (.cells #[.pointer none] 80); simpa using this
  have HM := Lib.hid (merged_any B W p t q u (szle h1 hB) (h.up h1) (hq.up h1) (by omega))
  have HZ := Lib.hid hz
  have HW := Lib.hid hW
  have H1 := Lib.hid h1
  clear hW hz h hq hB h1
  go_enter Try.func34, Try.ntmps34
  go_wp2_with fail
  rw [← HW.out]
  go_wp2_with fail
  refine HM.out.mono ?_
  rintro e w1 ⟨p1, _, rfl, rfl, hp1, hb1⟩
  have hz1 := upb hb1 HZ.out
  have c1 := cell_of_one hz1
  have f1 := free_of_one hz1
  have HX := Lib.hid (And.intro hz1 (And.intro hp1 (belowTrans H1.out hb1)))
  clear hz1 hp1 hb1 HM
  go_wp2_with fail
  have hr1 := one_setCell (u := .pointer p1) HX.out.1
  have e1 := cell_of_one hr1
  exact bodyPost_ret (v := .agg #[.pointer p1]) (by simp [results, Try.results34, go_sem, e1]) rfl (RetS.mk rfl HX.out.2.1 HX.out.2.2 HX.out.1 (by omega))
end Go.Proofs.Ytnigadnjppeckaa.left
