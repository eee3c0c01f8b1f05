/- Of of a set that is a tree and a number: package pair. -/
import Derived.Test.YtnigadnjppeckaaPair3s
import Derived.Test.YtnigadnjppeckaaMore
import Derived.Test.YtnigadnjppeckaaCat
import Derived.Test.YtnigadnjppeckaaGather
import Derived.Test.YtnigadnjppeckaaFill
import Derived.Deep.LoopGhost
import Derived.Test.YtnigadnjppeckaaPairM
import Derived.Test.YtnigadnjppeckaaGrowT
namespace Go.Proofs.Ytnigadnjppeckaa.pair
open Go.RowKit

set_option maxHeartbeats 1000000 in
theorem Of_some (w : World) (b o c : Nat) (xs : List Int) (hn : xs.length ≤ 17592186044416)
    (hc : ∀ i, i < xs.length → w.cell? ⟨b, o + i, none⟩ = some (.int .i64 (xs.getD i 0))) :
    Calls Try.prog 36 #[.slice (some ⟨b, o, none⟩) xs.length c] w (RetS w.heap.size w (OfQ xs)) := by
  obtain ⟨n, hnx⟩ : ∃ n, n = xs.length := ⟨_, rfl⟩
  rw [← hnx] at hn hc ⊢
  have Hc := Lib.hid hc
  have Hx := Lib.hid hnx
  clear hc hnx
  go_enter Try.func36, Try.ntmps36
  go_wp2_with fail
  go_loopw [5, 8] (fun _ i wr => ∃ (k : Nat) (p : Option Addr) (nn : Int) (t : BT A), k ≤ n ∧ i = .int .i64 k ∧ Hid (OfQ (xs.take k) nn t) ∧ Hid (In w.heap.size wr p t) ∧ Hid (Below w.heap.size w wr) ∧ w.heap.size + 1 < wr.heap.size ∧ Hid (wr.heap[w.heap.size]? = some (.cells #[.pointer none, .int .i64 0] 85 (0, 0))) ∧ Hid (wr.heap[w.heap.size + 1]? = some (.cells #[.pointer p, .int .i64 nn] 85 (0, 0)))) (fun _ i _ => n - (intOf i).toNat)
  case atStart => 
    refine ⟨0, none, 0, .nil, Nat.zero_le _, rfl, Lib.hid OfQ_nil, Lib.hid rfl, Lib.hid (belowTrans (belowAlloc w _) (belowAlloc _ _)), by simp, Lib.hid (heapNew1 _ _ _), Lib.hid (heapNew2 _ _ _)⟩
  case round =>
    obtain ⟨k, p, nn, t, hk, rfl, Ht, Hin, Hb, hsz, Hr, Hs⟩ := hrel
    by_cases hlt : k < n
    · have c1 := upc Hb.out (Hc.out k hlt)
      have kc := two_c0 Hs.out
      have kd := two_c1 Hs.out
      have hnn := Ht.out.2
      rw [List.length_take, ← Hx.out] at hnn
      have hP := Put_any w.heap.size wr p nn t (xs.getD k 0) (by omega) Hin.out (by omega) (by omega)
      have HP := Lib.hid hP
      clear hP hnn
      go_wp2_with fail
      refine HP.out.mono ?_
      rintro e w1 ⟨p1, n1, t1, rfl, hq1, hp1, hb1⟩
      have Hq1 : Hid (OfQ (xs.take (k + 1)) n1 t1) := Lib.hid (by
        have h := OfQ_snoc Ht.out hq1
        have e : xs.take (k + 1) = xs.take k ++ [xs.getD k 0] := by
          rw [List.take_succ_eq_append_getElem (by rw [← Hx.out]; exact hlt)]
          simp [List.getD_eq_getElem?_getD, show k < xs.length by rw [← Hx.out]; exact hlt]
        rw [e]
        exact h)
      clear hq1
      have hk1 := upb hb1 Hs.out
      have hr1 := upb hb1 Hr.out
      have kc1 := two_c0 hk1
      have kd1 := two_c1 hk1
      have fc1 := two_f (o := 0) hk1
      have fd1 := two_f (o := 1) hk1
      have hbb := belowTrans Hb.out hb1
      have hz := hb1.size
      have Hin1 := Lib.hid (hp1.store2 (u := .pointer p1) (v := .int .i64 n1) hk1 (by decide))
      have Hb1 := Lib.hid (belowSet2 (k := w.heap.size + 1) hbb (by simp) (.pointer p1) (.int .i64 n1))
      have Hk1 := Lib.hid (two_set (u' := .pointer p1) (v' := .int .i64 n1) hk1)
      have Hr1 := Lib.hid ((heapSet2 (k := w.heap.size + 1) (u' := .pointer p1) (v' := .int .i64 n1) (by omega)).trans hr1)
      clear hk1 hr1 hbb hb1 hp1 kc kd
      go_wp2_with fail
      exact ⟨⟨k + 1, p1, n1, t1, by omega, by go_num, Hq1, Hin1, Hb1, by simp [World.setCell]; omega, Hr1, Hk1⟩, by simp [intOf]; omega⟩
    · have Hkn : Hid (OfQ xs nn t) := Lib.hid (by
        have h := Ht.out
        rw [List.take_of_length_le (by rw [← Hx.out]; omega)] at h
        exact h)
      have kc := two_c0 Hs.out
      have kd := two_c1 Hs.out
      have kr := two_c0 Hr.out
      have kri := two_c1 Hr.out
      have fr := two_f (o := 0) Hr.out
      have fr1 := two_f (o := 1) Hr.out
      have Hin1 := Lib.hid (Hin.out.store2 (u := .pointer p) (v := .int .i64 nn) Hr.out (by decide))
      have Hb1 := Lib.hid (belowSet2 (k := w.heap.size) Hb.out (Nat.le_refl _) (.pointer p) (.int .i64 nn))
      go_wp2_with fail
      have HR := two_set (u' := .pointer p) (v' := .int .i64 nn) Hr.out
      have kr0 := two_c0 HR
      have kr1 := two_c1 HR
      exact bodyPost_ret (v := .agg #[.pointer p, .int .i64 nn]) (by simp only [results, Try.results36]; simp [go_sem, kr0, kr1]) rfl ⟨p, nn, t, rfl, Hkn.out, Hin1.out, Hb1.out⟩

set_option maxHeartbeats 400000 in
theorem Of_none (w : World) : Calls Try.prog 36 #[.slice none 0 0] w (RetS w.heap.size w (OfQ [])) := by
  go_enter Try.func36, Try.ntmps36
  go_wp2_with fail
  go_loopw [5, 8] (fun _ i wr => i = .int .i64 0 ∧ wr = (w.alloc (.cells #[.pointer none, .int .i64 0] 85)).alloc (.cells #[.pointer none, .int .i64 0] 85)) (fun _ _ _ => 0)
  case atStart => exact ⟨rfl, rfl⟩
  case round =>
    obtain ⟨rfl, rfl⟩ := hrel
    go_wp2_with fail
    exact bodyPost_ret (v := .agg #[.pointer none, .int .i64 0]) (by simp [results, Try.results36, go_sem]) rfl ⟨none, 0, .nil, rfl, OfQ_nil, rfl, (belowTrans (belowAlloc w _) (belowAlloc _ _))⟩

set_option maxHeartbeats 400000 in
theorem Of_zero (x : Addr) (c : Nat) (w : World) : Calls Try.prog 36 #[.slice (some x) 0 c] w (RetS w.heap.size w (OfQ [])) := by
  go_enter Try.func36, Try.ntmps36
  go_wp2_with fail
  go_loopw [5, 8] (fun _ i wr => i = .int .i64 0 ∧ wr = (w.alloc (.cells #[.pointer none, .int .i64 0] 85)).alloc (.cells #[.pointer none, .int .i64 0] 85)) (fun _ _ _ => 0)
  case atStart => exact ⟨rfl, rfl⟩
  case round =>
    obtain ⟨rfl, rfl⟩ := hrel
    go_wp2_with fail
    exact bodyPost_ret (v := .agg #[.pointer none, .int .i64 0]) (by simp [results, Try.results36, go_sem]) rfl ⟨none, 0, .nil, rfl, OfQ_nil, rfl, (belowTrans (belowAlloc w _) (belowAlloc _ _))⟩

theorem Of_any (w : World) (a : Option Addr) (c : Nat) (xs : List Int) (hn : xs.length ≤ 17592186044416) (hr : Reads w a xs) (ha : a = none → c = 0) :
    Calls Try.prog 36 #[.slice a xs.length c] w (RetS w.heap.size w (OfQ xs)) := by
  cases a with
  | none =>
    rcases hr with rfl | ⟨b', o', h, _⟩
    · obtain rfl := ha rfl
      exact Of_none w
    · cases h
  | some x =>
    rcases hr with rfl | ⟨b', o', h, hc⟩
    · exact Of_zero x c w
    · cases h
      exact Of_some w b' o' c xs hn hc
end Go.Proofs.Ytnigadnjppeckaa.pair
/- The walks of package pair, the third part: Ints takes all, one by one. -/
namespace Go.Proofs.Ytnigadnjppeckaa.pair
open Go.RowKit

/-- what holds at a round's head: what has come, what is at hand, what is still in the heap -/
def Head (w0 : World) (t : BT A) (k : Nat) (hs : Bool) (G : Nat) (q : Option Addr) (y : Int) (m : Nat) (v : Value) (wr : World) : Prop :=
  ∃ (acc : List Int) (u : BT A), acc.length = m ∧ acc ++ (if hs then y :: ints u else []) = ints t ∧ k = (if hs then 1 + hsz u else 0) ∧ wr.ownsRow w0.heap.size 3 1 v m (acc.map (Value.int .i64)) ∧
    Below w0.heap.size w0 wr ∧ w0.heap.size ≤ G ∧ wr.heap[G]? = some (.cells #[.pointer q, .int .i64 (hsz u : Nat)] 85 (0, 0)) ∧ In 0 wr q u ∧ v.ownBlock ≠ some G

set_option maxHeartbeats 4000000 in
theorem ints_any (B : Nat) (w : World) (p : Option Addr) (t : BT A) (h : In B w p t) (hn : hsz t ≤ 17592186044416) :
    Calls Try.prog 38 #[.agg #[.pointer p, .int .i64 (hsz t : Nat)]] w (RetI 3 w (ints t)) := by
  obtain ⟨W, hW⟩ : ∃ W, W = (w.alloc (.cells #[.pointer p, .int .i64 (hsz t : Nat)] 85)) := ⟨_, rfl⟩
  have hbW : Below w.heap.size w W := by rw [hW]; exact belowAlloc _ _
  have hP := Pop_any W p _ t ((h.lower (Nat.zero_le _)).up hbW) (by omega) rfl
  have HP := Lib.hid hP
  have HW := Lib.hid hW
  have HbW := Lib.hid hbW
  obtain ⟨i0, hi, hz0, hz1, hz2⟩ := info_parts infoInt
  have Hi := Lib.hid (And.intro hi (And.intro hz0 (And.intro hz1 hz2)))
  clear hP hW hbW h hi hz0 hz1 hz2
  go_enter Try.func38, Try.ntmps38
  go_wp2_with fail
  rw [← HW.out]
  refine HP.out.mono ?_
  rintro e w1 ⟨q, n1, u, y, hs, rfl, he, hk, rfl, hq, hb1⟩
  have hh : Head w t (hsz t) hs w1.heap.size q y 0 (.slice none 0 0) (w1.alloc (.cells #[.pointer q, .int .i64 (hsz u : Nat)] 85)) :=
    ⟨[], u, rfl, he, hk.symm, World.ownsRow_nil _ _ _ _, (belowTrans HbW.out hb1).alloc (by have h1 := HbW.out.size; have h2 := hb1.size; omega) _, by have h1 := HbW.out.size; have h2 := hb1.size; omega, heap_alloc_new _ _, hq.up (belowAlloc _ _), by simp [Value.ownBlock]⟩
  have HH := Lib.hid hh
  clear hh he hk hq hb1
  go_wp2_with fail
  go_loopg [3, 4, 5, 6] (hsz t) (fun k v x gp has wr => ∃ (hs : Bool) (G : Nat) (q : Option Addr) (y : Int) (m : Nat), x = .int .i64 y ∧ gp = .pointer (some ⟨G, 0, none⟩) ∧ has = .bool hs ∧ Hid (Head w t k hs G q y m v wr))
  case atStart => exact ⟨hs, w1.heap.size, q, y, 0, rfl, rfl, rfl, HH⟩
  case round =>
    obtain ⟨hs2, G, q2, y2, m, rfl, rfl, rfl, Hh⟩ := hrel
    cases hs2
    · have hfin : Hid (OwnI 3 wr w.heap.size u3 (ints t) ∧ Below w.heap.size w wr) := Lib.hid (by
        obtain ⟨acc, u', hm, hi, _, hr, hb, _⟩ := Hh.out
        have e : acc = ints t := by simpa using hi
        rw [e] at hr hm
        rw [OwnI, hm]
        exact ⟨hr, hb⟩)
      clear Hh
      go_wp2_with fail
      go_ret
      exact RetI.mk hfin.out.1 hfin.out.2
    · obtain ⟨acc, u', hm, hi, hk, hr, hb, hG, hc, hin, hne⟩ := Hh.out
      have hlen : m + 1 + hsz u' = hsz t := by
        have h := congrArg List.length hi
        rw [List.length_append, if_pos rfl, List.length_cons, ints_length, ints_length, hm] at h
        omega
      have hm1 : m + 1 ≤ 17592186044416 := by omega
      have hus : hsz u' ≤ 17592186044416 := by omega
      have hi' : (acc ++ [y2]) ++ ints u' = ints t := by rw [← hi]; simp
      have hws : w.heap.size ≤ wr.heap.size := hb.size
      have Ho := Lib.hid hr
      have Hb := Lib.hid hb
      have Hc := Lib.hid hc
      have Hin := Lib.hid hin
      have Hne := Lib.hid hne
      have Hm := Lib.hid hm
      have HI := Lib.hid hi'
      have HK := Lib.hid hk
      clear hr hb hc hin hne hm hi hi' hk Hh hlen
      go_wp2_with (at_builtin; obtain ⟨hi, hz0, hz1, hz2⟩ := Hi.out; refine wpList_append_own _ rfl (.tmp 20) (.tmp 22) 22 rfl w.heap.size 3 i0 (.int .i64 0) 1 8 Try.underlying22 hi hz0 hz1 hz2 rfl (by decide) _ m _ rfl (Ho.out.alloc _) ⟨wr.heap.size, 0, none⟩ 1 1 [.int .i64 y2] rfl rfl (cell_one_new _ _ _) (by simp [Value.oneCell']) (by unfold maxLen; omega) (by omega) (by simp; omega) ?_; intro v' w2 hown' hgrow hnil; clear hnil hi hz0 hz1 hz2; have hc2 := ((hgrow.block G (by have h := (Array.getElem?_eq_some_iff.1 Hc.out).1; simp; omega) (fun e => Hne.out e.symm)).trans (Below.heap_alloc wr _ G (Array.getElem?_eq_some_iff.1 Hc.out).1)).trans Hc.out; have kc2 := two_c0 hc2; have kd2 := two_c1 hc2; have Hown := Lib.hid hown'; have Hgrow := Lib.hid hgrow; clear hown' hgrow hc2)
      have hgrow := Hgrow.out
      have hb2 := Below.grown (belowTrans Hb.out (belowAlloc _ _)) hgrow (by simp; omega) (fun b hb => (Ho.out.lt b hb).1)
      have hin2 := Hin.out.grown Ho.out hgrow (by decide)
      have hP2 := Pop_any (w2.alloc (.cells #[.pointer q2, .int .i64 (hsz u' : Nat)] 85)) q2 _ u' (hin2.up (belowAlloc _ _)) hus rfl
      have hws2 : w.heap.size ≤ w2.heap.size := hb2.size
      have Hb2 := Lib.hid hb2
      have HP2 := Lib.hid hP2
      clear hb2 hin2 hP2 hgrow Hgrow
      go_wp2_with fail
      refine HP2.out.mono ?_
      rintro e w4 ⟨q4, n4, u4, y4, hs4, rfl, he4, hk4, rfl, hq4, hb4⟩
      have hc4 := upb hb4 (heap_alloc_new w2 (.cells #[.pointer q2, .int .i64 (hsz u' : Nat)] 85))
      have kc4 := two_c0 hc4
      have kd4 := two_c1 hc4
      have fc4 := two_f (o := 0) hc4
      have fd4 := two_f (o := 1) hc4
      have hlt := (fun b hb => (Hown.out.lt b hb).2)
      have hh : Head w t (hsz u') hs4 w2.heap.size q4 y4 (m + 1) v' ((w4.setCell ⟨w2.heap.size, 0, none⟩ (.pointer q4)).setCell ⟨w2.heap.size, 1, none⟩ (.int .i64 (hsz u4 : Nat))) := by
        refine ⟨acc ++ [y2], u4, by simp [Hm.out], ?_, hk4.symm, ?_, ?_, hws2, two_set hc4, hq4.store2 hc4 (by decide), fun e => by have h := hlt _ e; omega⟩
        · rw [he4]
          exact HI.out
        · rw [List.map_append]
          have h := rowUp Hown.out (belowTrans (belowAlloc w2 (.cells #[.pointer q2, .int .i64 (hsz u' : Nat)] 85)) hb4)
          exact ownsRow_setCell_other (ownsRow_setCell_other h (fun e => by have h := hlt _ e; simp at h) _) (fun e => by have h := hlt _ e; simp at h) _
        · exact belowSet2 (belowTrans Hb2.out (belowTrans (belowAlloc _ _) hb4)) hws2 _ _
      have Hh := Lib.hid hh
      have hk5 : hsz u' < gk := by have h := HK.out; simp at h; omega
      clear hh he4 hk4 hq4 hb4 hc4 hlt kc2 kd2
      go_wp2_with fail
      go_roundg (hsz u')
      case measure => exact hk5
      case rel => exact ⟨hs4, w2.heap.size, q4, y4, m + 1, rfl, rfl, rfl, Hh⟩
end Go.Proofs.Ytnigadnjppeckaa.pair
/- Heaps that meet in pairs: what goes out of them rises, and it is of the same numbers. No program stands here. -/
namespace Go.Proofs.Ytnigadnjppeckaa.pair

/-- how often a number is in a row of trees -/
def cf (z : Int) : BT A → Nat
  | .nil => 0
  | .node x k n => (if x = z then 1 else 0) + cf z k + cf z n
/-- how often it is in a heap -/
def cn (z : Int) : BT A → Nat
  | .nil => 0
  | .node x k _ => (if x = z then 1 else 0) + cf z k
/-- what is under a number is not below it: of a row of trees, of a heap -/
def HF : BT A → Prop
  | .nil => True
  | .node x k n => (∀ y, 0 < cf y k → x ≤ y) ∧ HF k ∧ HF n
def HO : BT A → Prop
  | .nil => True
  | .node x k _ => (∀ y, 0 < cf y k → x ≤ y) ∧ HF k
theorem lt_le {x y z : Int} (h : y < x) (e : x ≤ z) : y ≤ z := by omega
theorem lt_eq {x y z : Int} (h : y < x) (e : x = z) : y ≤ z := by omega
theorem nlt_le {x y z : Int} (h : ¬ y < x) (e : y ≤ z) : x ≤ z := by omega
theorem nlt_eq {x y z : Int} (h : ¬ y < x) (e : y = z) : x ≤ z := by omega
theorem cn_meet (z : Int) (a b : BT A) : cn z (meet a b) = cn z a + cn z b := by
  cases a with
  | nil => simp [meet, cn]
  | node x k n =>
    cases b with
    | nil => simp [meet, cn]
    | node y k' n' =>
      simp only [meet]
      split <;> simp only [cn, cf] <;> omega
theorem HO_meet {a b : BT A} (ha : HO a) (hb : HO b) : HO (meet a b) := by
  cases a with
  | nil => exact hb
  | node x k n =>
    cases b with
    | nil => exact ha
    | node y k' n' =>
      simp only [meet]
      by_cases hlt : y < x
      · rw [if_pos hlt]
        refine ⟨fun z hz => ?_, ha.1, ha.2, hb.2⟩
        simp only [cf] at hz
        have h1 := ha.1 z
        have h2 := hb.1 z
        by_cases e : x = z
        · exact lt_eq hlt e
        · rw [if_neg e] at hz
          by_cases e2 : 0 < cf z k'
          · exact h2 e2
          · exact lt_le hlt (h1 (by omega))
      · rw [if_neg hlt]
        refine ⟨fun z hz => ?_, hb.1, hb.2, ha.2⟩
        simp only [cf] at hz
        have h1 := ha.1 z
        have h2 := hb.1 z
        by_cases e : y = z
        · exact nlt_eq hlt e
        · rw [if_neg e] at hz
          by_cases e2 : 0 < cf z k
          · exact h1 e2
          · exact nlt_le hlt (h2 (by omega))
def tot (z : Int) : List (BT A) → Nat
  | [] => 0
  | a :: l => cn z a + tot z l
theorem foldr_both (l : List (BT A)) : (∀ z, cn z (l.foldr meet .nil) = tot z l) ∧ ((∀ a ∈ l, HO a) → HO (l.foldr meet .nil)) := by
  induction l with
  | nil => exact ⟨fun z => rfl, fun _ => trivial⟩
  | cons a l ih =>
    refine ⟨fun z => ?_, fun h => ?_⟩
    · rw [List.foldr_cons, cn_meet, ih.1]; rfl
    · rw [List.foldr_cons]
      exact HO_meet (h a List.mem_cons_self) (ih.2 fun b hb => h b (List.mem_cons_of_mem _ hb))
theorem pairs_both (n : Nat) : ∀ l : BT A, l.size ≤ n → (∀ z, tot z (pairsOf l) = cf z l) ∧ (HF l → ∀ a ∈ pairsOf l, HO a) := by
  induction n with
  | zero =>
    intro l h
    cases l with
    | nil => exact ⟨fun z => rfl, fun _ a ha => by simp [pairsOf] at ha⟩
    | node x k r => simp only [BT.size] at h; omega
  | succ n ih =>
    intro l h
    cases l with
    | nil => exact ⟨fun z => rfl, fun _ a ha => by simp [pairsOf] at ha⟩
    | node x k r =>
      cases r with
      | nil =>
        refine ⟨fun z => by simp only [pairsOf, tot, cn, cf], fun hf a ha => ?_⟩
        obtain rfl : a = .node x k .nil := by simpa [pairsOf] using ha
        exact ⟨hf.1, hf.2.1⟩
      | node y k' r =>
        simp only [BT.size] at h
        obtain ⟨i1, i2⟩ := ih r (by omega)
        refine ⟨fun z => ?_, fun hf a ha => ?_⟩
        · rw [pairsOf, tot, cn_meet, i1]
          simp only [cn, cf]
          omega
        · rw [pairsOf] at ha
          rcases List.mem_cons.1 ha with rfl | ha
          · exact HO_meet ⟨hf.1, hf.2.1⟩ ⟨hf.2.2.1, hf.2.2.2.1⟩
          · exact i2 hf.2.2.2.2 a ha
theorem cn_paired (z : Int) (l : BT A) : cn z (paired l) = cf z l := by rw [paired, (foldr_both _).1, (pairs_both _ l (Nat.le_refl _)).1]
theorem HO_paired {l : BT A} (h : HF l) : HO (paired l) := (foldr_both _).2 ((pairs_both _ l (Nat.le_refl _)).2 h)

theorem ints_both (n : Nat) : ∀ t : BT A, hsz t ≤ n → HO t → (ints t).Pairwise (· ≤ ·) ∧ ∀ z, (ints t).count z = cn z t := by
  induction n with
  | zero =>
    intro t h _
    cases t with
    | nil => exact ⟨List.Pairwise.nil, fun z => rfl⟩
    | node x k r => simp only [hsz] at h; omega
  | succ n ih =>
    intro t h ht
    cases t with
    | nil => exact ⟨List.Pairwise.nil, fun z => rfl⟩
    | node x k r =>
      simp only [hsz] at h
      obtain ⟨i1, i2⟩ := ih (paired k) (by rw [hsz_paired]; omega) (HO_paired ht.2)
      rw [ints_node]
      refine ⟨List.Pairwise.cons (fun y hy => ?_) i1, fun z => ?_⟩
      · have h1 := List.count_pos_iff.2 hy
        rw [i2, cn_paired] at h1
        exact ht.1 y h1
      · rw [List.count_cons, i2, cn_paired]
        simp only [cn, beq_iff_eq]
        omega
theorem ofList_both (xs : List Int) : ∀ t : BT A, HO t → HO (xs.foldl (fun t x => meet t (.node x .nil .nil)) t) ∧ ∀ z, cn z (xs.foldl (fun t x => meet t (.node x .nil .nil)) t) = cn z t + xs.count z := by
  induction xs with
  | nil => intro t h; exact ⟨h, fun z => by simp⟩
  | cons x xs ih =>
    intro t h
    obtain ⟨i1, i2⟩ := ih (meet t (.node x .nil .nil)) (HO_meet h ⟨fun y hy => by simp [cf] at hy, trivial⟩)
    refine ⟨i1, fun z => ?_⟩
    rw [List.foldl_cons, i2, cn_meet, List.count_cons]
    simp only [cn, cf, beq_iff_eq]
    omega
theorem HO_ofList (xs : List Int) : HO (ofList xs) := (ofList_both xs .nil trivial).1
theorem cn_ofList (z : Int) (xs : List Int) : cn z (ofList xs) = xs.count z := by rw [ofList, (ofList_both xs .nil trivial).2 z]; simp [cn]
end Go.Proofs.Ytnigadnjppeckaa.pair
/- The walks of package pair: Join. (Printed by tj.py.) -/
namespace Go.Proofs.Ytnigadnjppeckaa.pair
open Go.RowKit

def kP (B : Nat) (t : BT A) : grow.Kept := ⟨fun v W => ∃ r, v = .pointer r ∧ In B W r t, fun _ _ _ hb ⟨r, h1, h2⟩ => ⟨r, h1, h2.up hb⟩⟩
def kA (B : Nat) (t : BT A) (n : Int) : grow.Kept := ⟨fun v W => ∃ r, v = .agg #[.pointer r, .int .i64 n] ∧ In B W r t, fun _ _ _ hb ⟨r, h1, h2⟩ => ⟨r, h1, h2.up hb⟩⟩
set_option maxRecDepth 100000 in
set_option maxHeartbeats 4000000 in
theorem Join_any (B : Nat) (w : World) (p : Option Addr) (t : BT A) (n : Int) (q : Option Addr) (u : BT A) (m : Int) (hB : B ≤ w.heap.size) (h : In B w p t) (hq : In B w q u) (h0 : 0 ≤ n) (h1 : 0 ≤ m) (hn : n + m ≤ 1152921504606844000) :
    Calls Try.prog 37 #[.agg #[.pointer p, .int .i64 n], .agg #[.pointer q, .int .i64 m]] w (RetS B w (fun n' t' => t' = meet t u ∧ n' = n + m)) := by
  obtain ⟨W0, hW⟩ : ∃ W0, W0 = ((w.alloc (.cells #[.pointer p, .int .i64 n] 85)).alloc (.cells #[.pointer q, .int .i64 m] 85)).alloc (.cells #[.pointer none, .int .i64 0] 85) := ⟨_, rfl⟩
  have hw1 : Below w.heap.size w W0 := by rw [hW]; exact belowTrans (belowTrans (belowAlloc _ _) (belowAlloc _ _)) (belowAlloc _ _)
  have hz0 : W0.heap[w.heap.size]? = some (.cells #[.pointer p, .int .i64 n] 85 (0, 0)) := by rw [hW]; exact upb (belowAlloc _ _) (heapNew1 _ _ _)
  have hz1 : W0.heap[w.heap.size + 1]? = some (.cells #[.pointer q, .int .i64 m] 85 (0, 0)) := by rw [hW]; exact upb (belowAlloc _ _) (heapNew2 _ _ _)
  have hz : W0.heap[w.heap.size + 2]? = some (.cells #[.pointer none, .int .i64 0] 85 (0, 0)) := by rw [hW]; have := heapNew2 (w.alloc (.cells #[.pointer p, .int .i64 n] 85)) (.cells #[.pointer q, .int .i64 m] 85) (.cells #[.pointer none, .int .i64 0] 85); simpa using this
  have kz := two_c0 hz0
  have kn := two_c1 hz0
  have ky := two_c0 hz1
  have km := two_c1 hz1
  have hwr : IntKind.i64.wrap (n + m) = n + m := IntWalk.i64_in _ (by omega)
  have HB := Lib.hid (szle hw1 hB)
  have Hi := Lib.hid (h.up hw1)
  have Hi2 := Lib.hid (hq.up hw1)
  have HZ := Lib.hid hz
  have HW := Lib.hid hW
  have H1 := Lib.hid hw1
  clear hW hz hz0 hz1 h hq hB hw1
  go_enter Try.func37, Try.ntmps37
  go_wp2_with fail
  rw [← HW.out]
  refine grow.wp_grow_tail 11 [grow.kEq (.pointer (some ⟨w.heap.size, 0, none⟩)), grow.kEq (.pointer p), grow.kEq (.pointer (some ⟨w.heap.size + 1, 0, none⟩)), grow.kEq (.pointer q), kP B (meet t u), grow.kEq (.pointer (some ⟨w.heap.size, 1, none⟩)), grow.kEq (.int .i64 n), grow.kEq (.pointer (some ⟨w.heap.size + 1, 1, none⟩)), grow.kEq (.int .i64 m), grow.kEq (.int .i64 (n + m)), kA B (meet t u) (n + m)] (of_decide_eq_true (by kernel_rfl)) (by kernel_rfl) (by kernel_rfl) (by kernel_rfl) (by kernel_rfl) (by kernel_rfl) ?step ?fin
  case step =>
    refine grow.EachT.cons ?_ ?_
    · intro A W hB hs hJ K hK
      have s0 := hs 2 (by kernel_rfl)
      simp at s0
      rw [if_pos (by rfl)]
      clear hs hJ
      go_simp
      exact hK _ _ (Below.refl _ _) rfl
    refine grow.EachT.cons ?_ ?_
    · intro A W hB hs hJ K hK
      have s0 : A.tmps.getD 5 undef = .pointer (some ⟨w.heap.size, 0, none⟩) := hJ 0 5 (by kernel_rfl) (by kernel_rfl)
      simp at s0
      have kk := upc hB kz
      rw [if_pos (by rfl)]
      clear hs hJ
      go_simp
      exact hK _ _ (Below.refl _ _) rfl
    refine grow.EachT.cons ?_ ?_
    · intro A W hB hs hJ K hK
      have s0 := hs 3 (by kernel_rfl)
      simp at s0
      rw [if_pos (by rfl)]
      clear hs hJ
      go_simp
      exact hK _ _ (Below.refl _ _) rfl
    refine grow.EachT.cons ?_ ?_
    · intro A W hB hs hJ K hK
      have s0 : A.tmps.getD 7 undef = .pointer (some ⟨w.heap.size + 1, 0, none⟩) := hJ 2 7 (by kernel_rfl) (by kernel_rfl)
      simp at s0
      have kk := upc hB ky
      rw [if_pos (by rfl)]
      clear hs hJ
      go_simp
      exact hK _ _ (Below.refl _ _) rfl
    refine grow.EachT.cons ?_ ?_
    · intro A W hB hs hJ K hK
      have s0 : A.tmps.getD 6 undef = .pointer p := hJ 1 6 (by kernel_rfl) (by kernel_rfl)
      simp at s0
      have s1 : A.tmps.getD 8 undef = .pointer q := hJ 3 8 (by kernel_rfl) (by kernel_rfl)
      simp at s1
      rw [if_pos (by rfl)]
      clear hs hJ
      go_simp
      go_at_call 68
      refine (met_any B W p t q u (szle hB HB.out) (Hi.out.up hB) (Hi2.out.up hB)).mono ?_
      rintro e W2 ⟨r, _, rfl, rfl, hr, hbn⟩
      exact hK _ _ hbn ⟨r, rfl, hr⟩
    refine grow.EachT.cons ?_ ?_
    · intro A W hB hs hJ K hK
      have s0 := hs 2 (by kernel_rfl)
      simp at s0
      rw [if_pos (by rfl)]
      clear hs hJ
      go_simp
      exact hK _ _ (Below.refl _ _) rfl
    refine grow.EachT.cons ?_ ?_
    · intro A W hB hs hJ K hK
      have s0 : A.tmps.getD 10 undef = .pointer (some ⟨w.heap.size, 1, none⟩) := hJ 5 10 (by kernel_rfl) (by kernel_rfl)
      simp at s0
      have kk := upc hB kn
      rw [if_pos (by rfl)]
      clear hs hJ
      go_simp
      exact hK _ _ (Below.refl _ _) rfl
    refine grow.EachT.cons ?_ ?_
    · intro A W hB hs hJ K hK
      have s0 := hs 3 (by kernel_rfl)
      simp at s0
      rw [if_pos (by rfl)]
      clear hs hJ
      go_simp
      exact hK _ _ (Below.refl _ _) rfl
    refine grow.EachT.cons ?_ ?_
    · intro A W hB hs hJ K hK
      have s0 : A.tmps.getD 12 undef = .pointer (some ⟨w.heap.size + 1, 1, none⟩) := hJ 7 12 (by kernel_rfl) (by kernel_rfl)
      simp at s0
      have kk := upc hB km
      rw [if_pos (by rfl)]
      clear hs hJ
      go_simp
      exact hK _ _ (Below.refl _ _) rfl
    refine grow.EachT.cons ?_ ?_
    · intro A W hB hs hJ K hK
      have s0 : A.tmps.getD 11 undef = .int .i64 n := hJ 6 11 (by kernel_rfl) (by kernel_rfl)
      simp at s0
      have s1 : A.tmps.getD 13 undef = .int .i64 m := hJ 8 13 (by kernel_rfl) (by kernel_rfl)
      simp at s1
      rw [if_pos (by rfl)]
      clear hs hJ
      go_simp
      exact hK _ _ (Below.refl _ _) rfl
    refine grow.EachT.cons ?_ ?_
    · intro A W hB hs hJ K hK
      obtain ⟨r, s0, h1⟩ := hJ 4 9 (by kernel_rfl) (by kernel_rfl)
      simp at s0
      have s1 : A.tmps.getD 14 undef = .int .i64 (n + m) := hJ 9 14 (by kernel_rfl) (by kernel_rfl)
      simp at s1
      rw [if_pos (by rfl)]
      clear hs hJ
      go_simp
      exact hK _ _ (Below.refl _ _) ⟨r, rfl, h1⟩
    exact grow.EachT.nil
  case fin =>
    intro f W hB hF
    have f0 : f 0 = .pointer (some ⟨w.heap.size, 0, none⟩) := hF 0 (by decide)
    have f1 : f 1 = .pointer p := hF 1 (by decide)
    have f2 : f 2 = .pointer (some ⟨w.heap.size + 1, 0, none⟩) := hF 2 (by decide)
    have f3 : f 3 = .pointer q := hF 3 (by decide)
    obtain ⟨r_4, f4, h1_4⟩ := hF 4 (by decide)
    have f5 : f 5 = .pointer (some ⟨w.heap.size, 1, none⟩) := hF 5 (by decide)
    have f6 : f 6 = .int .i64 n := hF 6 (by decide)
    have f7 : f 7 = .pointer (some ⟨w.heap.size + 1, 1, none⟩) := hF 7 (by decide)
    have f8 : f 8 = .int .i64 m := hF 8 (by decide)
    have f9 : f 9 = .int .i64 (n + m) := hF 9 (by decide)
    obtain ⟨r_10, f10, h1_10⟩ := hF 10 (by decide)
    clear hF
    intro A hA
    simp only [grow.puts, Act.put, List.getElem?_toArray, List.getElem?_cons_zero, List.getElem?_cons_succ, Option.bind_some, List.setIfInBounds_toArray, List.set_cons_zero, List.set_cons_succ, f0, f1, f2, f3, f4, f5, f6, f7, f8, f9, f10] at hA
    subst hA
    simp only [List.drop_succ_cons, List.drop_zero]
    have hk2 := upb hB HZ.out
    have c1 := two_c0 hk2
    have c2 := two_c1 hk2
    have f1 := two_f (o := 0) hk2
    have f2 := two_f (o := 1) hk2
    have H15 := Lib.hid h1_10
    have HK := Lib.hid hk2
    have HX := Lib.hid (belowTrans H1.out hB)
    clear hk2 hB h1_10
    go_wp2_with fail
    have HR := two_set (u' := .pointer r_10) (v' := .int .i64 (n + m)) HK.out
    have kr0 := two_c0 HR
    have kr1 := two_c1 HR
    refine bodyPost_ret (v := .agg #[.pointer r_10, .int .i64 (n + m)]) (by simp only [results, Try.results37]; simp [go_sem, kr0, kr1]) rfl ?_
    exact ⟨r_10, n + m, _, rfl, ⟨rfl, rfl⟩, H15.out.store2 HK.out (by decide), belowSet2 HX.out (by omega) _ _⟩
end Go.Proofs.Ytnigadnjppeckaa.pair
