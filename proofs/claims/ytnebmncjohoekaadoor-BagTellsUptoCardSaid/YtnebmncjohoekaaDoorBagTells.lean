/- What bags tell. -/
import Derived.Test.YtnebmncjohoekaaDoorBagSm
import Derived.Test.YtnebmncjohoekaaDoorRefI
import Derived.Test.YtnebmncjohoekaaDoorPatK
namespace Go.Proofs.YtnebmncjohoekaaDoor.bag
open Go.RowKit
open pat (PT HO OOk ocnt olist oget tk I64 lk told oput odrop ounion)

theorem HP_keep {B : Nat} {T : List Nat} {w w' : World} (hk : KeepT T w w') (ht : 64 ∉ T) : ∀ {t : PT} {b : Nat}, pat.HP B w b t → pat.HP B w' b t
  | .leaf _ _, _, ⟨hB, h⟩ => ⟨hB, hk _ _ _ _ h ht⟩
  | .node _ _ _ _, _, ⟨hB, bl, br, h, hl, hr⟩ => ⟨hB, bl, br, hk _ _ _ _ h ht, HP_keep hk ht hl, HP_keep hk ht hr⟩
theorem HO_keep {B : Nat} {T : List Nat} {w w' : World} (hk : KeepT T w w') (ht : 64 ∉ T) {p : Option Addr} {o : Option PT} (h : HO B w p o) : HO B w' p o := by
  cases o with
  | none => exact h
  | some t => obtain ⟨b, e, h⟩ := h; exact ⟨b, e, HP_keep hk ht h⟩
/-- the two bags, their boxes, their rows -/
structure TwoB (w : World) (Ga Gb : Nat) (x y : Option PT) (p q : Option Addr) (u v : Value) (W : World) : Prop where
  bel : Below w.heap.size w W
  ba : W.heap[Ga]? = some (.cells #[.pointer p] 28 (0, 0))
  bb : W.heap[Gb]? = some (.cells #[.pointer q] 28 (0, 0))
  ha : HO w.heap.size W p x
  hb : HO w.heap.size W q y
  xa : OwnP W w.heap.size u (told x)
  xb : OwnP W w.heap.size v (told y)
theorem TwoB.keep {w : World} {Ga Gb : Nat} {x y : Option PT} {p q : Option Addr} {u v : Value} {W W' : World} (h : TwoB w Ga Gb x y p q u v W) (hb : Below w.heap.size w W') (hk : KeepT [3] W W') : TwoB w Ga Gb x y p q u v W' :=
  ⟨hb, hk _ _ _ _ h.ba (by decide), hk _ _ _ _ h.bb (by decide), HO_keep hk (by decide) h.ha, HO_keep hk (by decide) h.hb, h.xa.keep hk (by decide), h.xb.keep hk (by decide)⟩
theorem TwoB.up {w : World} {Ga Gb : Nat} {x y : Option PT} {p q : Option Addr} {u v : Value} {W W' : World} (h : TwoB w Ga Gb x y p q u v W) (hb : Below W.heap.size W W') : TwoB w Ga Gb x y p q u v W' := h.keep (h.bel.trans (hb.mono h.bel.size)) (KeepT.of hb)
theorem ownP_lower {B B' : Nat} {v : Value} {xs : List (Int × Int)} {w : World} (h : OwnP w B v xs) (hb : B' ≤ B) : OwnP w B' v xs := by
  refine ⟨h.1, ?_⟩
  rcases h.2 with h | ⟨g, cap, cur, hv, hg, r⟩
  · exact .inl h
  · exact .inr ⟨g, cap, cur, hv, Nat.le_trans hb hg, r⟩
theorem Val_cnt (a : Option Addr) (c m : Nat) (o : Option PT) (k : Int) (w : World) (ho : OOk o) (hm : ocnt o = m) (hb : m ≤ 8796093022208) (hr : ReadsP w a (told o)) (hk : I64 k) (n : Int) (hn : cnt o k = n) :
    Calls Tryd.prog 16 #[.slice a m c, .int .i64 k] w fun e w' => ∃ b : Bool, e = .returned (.tuple #[.int .i64 n, .bool b]) ∧ w = w' := by
  subst hn
  refine (Valued_any a c m (told o) k w (pat.telled hm) hb hr _ (pat.valued_told ho hk)).mono ?_
  rintro e w' ⟨rfl, rfl⟩
  exact ⟨_, rfl, rfl⟩
def keysOf (o : Option PT) (j : Nat) : List Int := ((told o).take j).map Prod.fst
theorem keys_snoc {o : Option PT} {j : Nat} (h : j < (told o).length) : keysOf o (j + 1) = keysOf o j ++ [((told o).getD j (0, 0)).1] := by
  unfold keysOf
  rw [List.take_succ_eq_append_getElem h, List.map_append]
  simp [List.getD_eq_getElem?_getD, h]
theorem keys_snoc2 {x o : Option PT} {m j : Nat} (h : j < (told o).length) : keysOf x m ++ keysOf o (j + 1) = (keysOf x m ++ keysOf o j) ++ [((told o).getD j (0, 0)).1] := by rw [keys_snoc h, List.append_assoc]
theorem keys_len {o : Option PT} {j : Nat} (h : j ≤ (told o).length) : (keysOf o j).length = j := by unfold keysOf; rw [List.length_map, List.length_take]; omega
theorem keys_len2 {x o : Option PT} {m j : Nat} (hm : ocnt x = m) (h : j ≤ (told o).length) : (keysOf x m ++ keysOf o j).length = m + j := by rw [List.length_append, keys_len h, keys_len (by rw [pat.telled hm]; exact Nat.le_refl _)]
theorem keys_all {o : Option PT} {m : Nat} (hm : ocnt o = m) : keysOf o m = (told o).map Prod.fst := by unfold keysOf; rw [List.take_of_length_le (by rw [pat.telled hm]; exact Nat.le_refl _)]
theorem keys_range {o : Option PT} (ho : OOk o) {m : Nat} (hm : ocnt o = m) : ∀ k ∈ keysOf o m, I64 k := by
  intro k hk
  rw [keys_all hm] at hk
  obtain ⟨p, hp, rfl⟩ := List.mem_map.1 hk
  exact pat.told_range ho p hp
theorem keys_zero {o : Option PT} (ho : OOk o) {m : Nat} (hm : ocnt o = m) {k : Int} (hi : I64 k) (hk : k ∉ keysOf o m) : cnt o k = 0 := by
  rw [keys_all hm] at hk
  unfold cnt
  rw [← pat.valued_told ho hi, valued_none fun p hp e => hk (List.mem_map.2 ⟨p, hp, e⟩)]
  rfl
def foldG (g : Int → Int → Int) (x y : Option PT) (ks : List Int) (o : Option PT) : Option PT := ks.foldl (fun o k => withO o k (g (cnt x k) (cnt y k))) o
theorem foldG_snoc (g : Int → Int → Int) (x y : Option PT) {ks : List Int} {j : Nat} (h : j < ks.length) (o : Option PT) : foldG g x y (ks.take (j + 1)) o = withO (foldG g x y (ks.take j) o) (ks.getD j 0) (g (cnt x (ks.getD j 0)) (cnt y (ks.getD j 0))) := by
  unfold foldG
  rw [List.take_succ_eq_append_getElem h, List.foldl_append]
  have e : ks.getD j 0 = ks[j] := by simp [List.getD_eq_getElem?_getD, h]
  rw [e]
  rfl
theorem foldG_well (g : Int → Int → Int) (x y : Option PT) : ∀ (ks : List Int) (o : Option PT) (i : Nat), (∀ k ∈ ks, I64 k) → Well i o → Well (i + ks.length) (foldG g x y ks o)
  | [], _, _, _, h => h
  | k :: t, o, i, hk, h => by
    have := foldG_well g x y t (withO o k (g (cnt x k) (cnt y k))) (i + 1) (fun z hz => hk z (List.mem_cons_of_mem _ hz)) (well_next h (hk k List.mem_cons_self) _)
    rw [show i + (k :: t).length = i + 1 + t.length by simp; omega]
    exact this
theorem foldG_cnt (g : Int → Int → Int) (x y : Option PT) {k : Int} (hi : I64 k) : ∀ (ks : List Int) (o : Option PT), (∀ z ∈ ks, I64 z) → OOk o → cnt (foldG g x y ks o) k = if k ∈ ks then clamp (g (cnt x k) (cnt y k)) else cnt o k
  | [], _, _, _ => by simp [foldG]
  | z :: t, o, hk, h => by
    have ih := foldG_cnt g x y hi t (withO o z (g (cnt x z) (cnt y z))) (fun z hz => hk z (List.mem_cons_of_mem _ hz)) (with_ok h (hk z List.mem_cons_self) _)
    have e : foldG g x y (z :: t) o = foldG g x y t (withO o z (g (cnt x z) (cnt y z))) := rfl
    rw [e, ih, cnt_with h (hk z List.mem_cons_self) _ hi]
    by_cases h1 : k ∈ t
    · rw [if_pos h1, if_pos (List.mem_cons_of_mem _ h1)]
    · by_cases h2 : k = z
      · rw [if_neg h1, if_pos h2, if_pos (by rw [h2]; exact List.mem_cons_self), h2]
      · rw [if_neg h1, if_neg h2, if_neg]
        intro h3
        rcases List.mem_cons.1 h3 with h3 | h3
        · exact h2 h3
        · exact h1 h3
/-- the keys are those of both -/
structure Keys (x y : Option PT) (ks : List Int) : Prop where
  i : ∀ k ∈ ks, I64 k
  z : ∀ k, I64 k → k ∉ ks → cnt x k = 0 ∧ cnt y k = 0
theorem Keys.mk' {x y : Option PT} (hx : OOk x) (hy : OOk y) {m n : Nat} (hm : ocnt x = m) (hn : ocnt y = n) {ks : List Int} (h : ∀ z, z ∈ ks ↔ z ∈ keysOf x m ++ keysOf y n) : Keys x y ks := by
  refine ⟨fun k hk => ?_, fun k hi hk => ⟨keys_zero hx hm hi fun h1 => hk ((h k).2 (List.mem_append.2 (.inl h1))), keys_zero hy hn hi fun h1 => hk ((h k).2 (List.mem_append.2 (.inr h1)))⟩⟩
  rcases List.mem_append.1 ((h k).1 hk) with h1 | h1
  · exact keys_range hx hm k h1
  · exact keys_range hy hn k h1
theorem Keys.well {x y : Option PT} {ks : List Int} (h : Keys x y ks) (g : Int → Int → Int) (j : Nat) : Well j (foldG g x y (ks.take j) none) := by
  have hw := foldG_well g x y (ks.take j) none 0 (fun k hk => h.i k (List.mem_of_mem_take hk)) ⟨trivial, bnd_none, Nat.le_refl _⟩
  exact ⟨hw.ok, hw.bnd, Nat.le_trans hw.n (by rw [Nat.zero_add]; exact List.length_take_le _ _)⟩
theorem Keys.told {k l : Nat} {x y : Option PT} {ks : List Int} (h : Keys x y ks) (hx : Sm k x) (hy : Sm l y) (g : Int → Int → Int) (hg : g 0 0 ≤ 0) {j : Nat} (hj : ks.length ≤ j) : told (foldG g x y (ks.take j) none) = told (metO g x y) := by
  have hw := h.well g j
  refine sm_same (k := j) ⟨hw.ok, hw.bnd, hw.n⟩ (Sm.met g hx hy) fun i hi => ?_
  rw [cntm g hg hx hy hi, List.take_of_length_le hj, foldG_cnt g x y hi ks none h.i trivial]
  by_cases hk : i ∈ ks
  · rw [if_pos hk]
  · rw [if_neg hk, (h.z i hi hk).1, (h.z i hi hk).2]
    unfold clamp
    rw [if_pos hg]
    rfl
def leAll (x y : Option PT) (ks : List Int) : Bool := ks.all fun k => decide (cnt x k ≤ cnt y k)
theorem Keys.le {k l : Nat} {x y : Option PT} {ks : List Int} (h : Keys x y ks) (hx : Sm k x) (hy : Sm l y) : decide (ocnt (metO fLess x y) = 0) = leAll x y ks := by
  rw [Bool.eq_iff_iff, decide_eq_true_eq, in_iff hx hy]
  unfold leAll
  rw [List.all_eq_true]
  constructor
  · intro h1 i hi; exact decide_eq_true (h1 i (h.i i hi))
  · intro h1 i hi
    by_cases hk : i ∈ ks
    · exact of_decide_eq_true (h1 i hk)
    · rw [(h.z i hi hk).1, (h.z i hi hk).2]; exact Int.le_refl _
theorem Cnt_next (a : Option Addr) (c m m' : Nat) (o : Option PT) (k n : Int) (w : World) (ho : OOk o) (hm : ocnt o = m) (hb : m ≤ 8796093022206) (hr : ReadsP w a (told o)) (hk : I64 k) (hm' : ocnt (withO o k n) = m') :
    Calls Tryd.prog 19 #[.slice a m c, .int .i64 k, .int .i64 n] w fun e w' => ∃ a' c', e = .returned (.slice a' m' c') ∧ ReadsP w' a' (told (withO o k n)) ∧ Below w.heap.size w w' := by
  refine (Counted_any a c m m' (told o) k n w (pat.telled hm) hb hr (by rw [← told_with ho hk n]; exact pat.telled hm')).mono ?_
  rintro e w' ⟨a', c', rfl, h, hbe⟩
  exact ⟨a', c', rfl, by rw [told_with ho hk n]; exact OwnP.reads h, hbe⟩
def RowG (W : World) (g : Int → Int → Int) (x y : Option PT) (ks : List Int) (v : Value) : Prop := ∃ a c m, v = .slice a m c ∧ ocnt (foldG g x y ks none) = m ∧ ReadsP W a (told (foldG g x y ks none))
theorem RowG.start (W : World) (g : Int → Int → Int) (x y : Option PT) (ks : List Int) : RowG W g x y (ks.take 0) (.slice none 0 0) := ⟨none, 0, 0, rfl, rfl, .inl rfl⟩
theorem RowG.up {W W' : World} {g : Int → Int → Int} {x y : Option PT} {ks : List Int} {v : Value} (h : RowG W g x y ks v) (hb : Below W.heap.size W W') : RowG W' g x y ks v := by
  obtain ⟨a, c, m, h1, h2, h3⟩ := h
  exact ⟨a, c, m, h1, h2, h3.up hb⟩
/-- the four rows and the word -/
structure Four (W : World) (x y : Option PT) (ks : List Int) (j : Nat) (v1 v2 v3 v4 : Value) (b : Bool) : Prop where
  r1 : RowG W fAdd x y (ks.take j) v1
  r2 : RowG W fJoin x y (ks.take j) v2
  r3 : RowG W fMeet x y (ks.take j) v3
  r4 : RowG W fLess x y (ks.take j) v4
  b : b = leAll x y (ks.take j)
theorem le_snoc {x y : Option PT} {ks : List Int} {j : Nat} (h : j < ks.length) : leAll x y (ks.take (j + 1)) = (leAll x y (ks.take j) && decide (cnt x (ks.getD j 0) ≤ cnt y (ks.getD j 0))) := by
  unfold leAll
  rw [List.take_succ_eq_append_getElem h, List.all_append]
  have e : ks.getD j 0 = ks[j] := by simp [List.getD_eq_getElem?_getD, h]
  rw [e]
  simp
theorem bne_same (n : Int) : (n != n) = false := by simp

set_option maxRecDepth 100000 in
set_option maxHeartbeats 16000000 in
theorem tells (a0 a1 : Option Addr) (c0 n0 c1 n1 : Nat) (l m : List (Int × Int)) (x : Int) (w : World) (h0 : pat.Row w a0 n0 l) (h1 : pat.Row w a1 n1 m) (hx : I64 x) (hg : er.Handle w) :
    Calls Tryd.prog 5 #[.slice a0 n0 c0, .slice a1 n1 c1, .int .i64 x] w (pat.Yes w) := by
  have HR0 := Lib.hid h0
  have HR1 := Lib.hid h1
  have HG := Lib.hid hg
  clear hg h0 h1
  have HX := Lib.hid hx
  clear hx
  go_enter Tryd.func5, Tryd.ntmps5
  go_wp2_with fail
  refine (bagged_any w).mono ?_
  rintro e w1 ⟨rfl, hb1⟩
  have HB0 := Lib.hid hb1
  clear hb1
  go_wp2_with fail
  have HC := Lib.hid (filled_any a0 c0 n0 l w1 HR0.out.len (by have := HR0.out.le; omega) (HR0.out.r.up HB0.out) HR0.out.i (HG.out.up HB0.out))
  refine HC.out.mono ?_
  rintro e v0 ⟨oa, pa, q0, m0, d0, rfl, hWe, hHo, hOw, hcn, hbe⟩
  obtain ⟨V0, hV⟩ : ∃ V, V = v0.alloc (.cells #[.pointer pa] 28) := ⟨_, rfl⟩
  have hbV : Below v0.heap.size v0 V0 := by rw [hV]; exact belowAlloc _ _
  have Sa : Hid (Sm 1048576 oa) := Lib.hid ⟨hWe.ok, hWe.bnd, by have := hWe.n; have := HR0.out.le; omega⟩
  have hbB := belowTrans hbe hbV
  have Ha : Hid (Bx w v0.heap.size oa pa V0) := Lib.hid ⟨HB0.out.trans (hbB.mono HB0.out.size), by rw [hV]; exact heap_alloc_new _ _, (pat.HO.lower hHo HB0.out.size).up hbV⟩
  have HB0n : Hid (Below w.heap.size w V0) := Lib.hid Ha.out.bel
  have HW := Lib.hid hV
  have Ra : Hid (OwnP V0 w.heap.size (.slice q0 m0 d0) (told oa)) := Lib.hid ((ownP_lower hOw HB0.out.size).up hbV)
  have Ma : Hid (ocnt oa = m0) := Lib.hid hcn
  have Ba : m0 ≤ 1048576 := by have := Sa.out.n; omega
  clear HB0 hWe hHo hOw hcn hbe hbV hbB hV HC
  have HB0 := HB0n
  clear HB0n
  go_wp2_with fail
  try rw [← HW.out]
  have HC := Lib.hid (filled_any a1 c1 n1 m V0 HR1.out.len (by have := HR1.out.le; omega) (HR1.out.r.up HB0.out) HR1.out.i (HG.out.up HB0.out))
  refine HC.out.mono ?_
  rintro e v1 ⟨ob, pb, q1, m1, d1, rfl, hWe, hHo, hOw, hcn, hbe⟩
  obtain ⟨V1, hV⟩ : ∃ V, V = v1.alloc (.cells #[.pointer pb] 28) := ⟨_, rfl⟩
  have hbV : Below v1.heap.size v1 V1 := by rw [hV]; exact belowAlloc _ _
  have Sb : Hid (Sm 1048576 ob) := Lib.hid ⟨hWe.ok, hWe.bnd, by have := hWe.n; have := HR1.out.le; omega⟩
  have hbB := belowTrans hbe hbV
  have Hb : Hid (Bx w v1.heap.size ob pb V1) := Lib.hid ⟨HB0.out.trans (hbB.mono HB0.out.size), by rw [hV]; exact heap_alloc_new _ _, (pat.HO.lower hHo HB0.out.size).up hbV⟩
  have Han := Lib.hid (Ha.out.up hbB)
  clear Ha
  have Ha := Han
  clear Han
  have HB0n : Hid (Below w.heap.size w V1) := Lib.hid Hb.out.bel
  clear HW
  have HW := Lib.hid hV
  have Rb : Hid (OwnP V1 w.heap.size (.slice q1 m1 d1) (told ob)) := Lib.hid ((ownP_lower hOw HB0.out.size).up hbV)
  have Mb : Hid (ocnt ob = m1) := Lib.hid hcn
  have Bb : m1 ≤ 1048576 := by have := Sb.out.n; omega
  have Ran := Lib.hid (Ra.out.up hbB)
  clear Ra
  have Ra := Ran
  clear Ran
  clear HB0 hWe hHo hOw hcn hbe hbV hbB hV HC
  have HB0 := HB0n
  clear HB0n
  have ka := cell_of_one Ha.out.b
  rw [HW.out] at ka
  have kb := cell_of_one Hb.out.b
  rw [HW.out] at kb
  go_wp2_with fail
  try rw [← HW.out]
  clear ka kb
  have HT : Hid (TwoB w v0.heap.size v1.heap.size oa ob pa pb (.slice q0 m0 d0) (.slice q1 m1 d1) V1) := Lib.hid ⟨Hb.out.bel, Ha.out.b, Hb.out.b, Ha.out.h, Hb.out.h, Ra.out, Rb.out⟩
  clear Ha Hb Ra Rb HB0 HR0 HR1 HG
  obtain ⟨ca, hca⟩ : ∃ c, cnt oa x = c := ⟨_, rfl⟩
  have HCA := Lib.hid hca
  clear hca
  obtain ⟨G0, hG0⟩ : ∃ G, v0.heap.size = G := ⟨_, rfl⟩
  obtain ⟨G1, hG1⟩ : ∃ G, v1.heap.size = G := ⟨_, rfl⟩
  rw [hG0, hG1] at HT
  try rw [hG0]
  try rw [hG1]
  clear hG0 hG1 HW
  refine (Pairs_any w.heap.size V1 pa oa m0 HT.out.ha Sa.out.ok Ma.out (by omega) (told oa) rfl).mono ?_
  rintro e w2 ⟨aR, cR, rfl, hoR, hbR⟩
  have HTn := Lib.hid (HT.out.up hbR)
  clear HT
  have HT := HTn
  clear HTn
  have HRr := Lib.hid (OwnP.reads hoR)
  clear hoR hbR
  go_wp2_with fail
  refine (samePairs_any aR q0 cR d0 m0 m0 (told oa) (told oa) w2 (pat.telled Ma.out) (pat.telled Ma.out) HRr.out (OwnP.reads HT.out.xa) (by unfold maxLen; omega) true (decide_eq_true rfl)).mono ?_
  rintro e w3 ⟨rfl, nn, hU⟩
  have hb3 : Below w2.heap.size w2 w3 := by rw [hU]; exact belowDrewN _ _
  have HTn := Lib.hid (HT.out.up hb3)
  clear HT
  have HT := HTn
  clear HTn
  clear hb3 hU HRr
  go_wp2_with fail
  refine (Val_cnt q0 d0 m0 oa x w3 Sa.out.ok Ma.out (by omega) (OwnP.reads HT.out.xa) HX.out ca HCA.out).mono ?_
  rintro e w4 ⟨bv, rfl, rfl⟩
  have ka := cell_of_one HT.out.ba
  have kb := cell_of_one HT.out.bb
  go_wp2_with fail
  refine (Count_any w.heap.size w3 pa oa x HT.out.ha Sa.out.ok HX.out ca HCA.out).mono ?_
  rintro e w5 ⟨rfl, hb5⟩
  have HTn := Lib.hid (HT.out.up hb5)
  clear HT
  have HT := HTn
  clear HTn
  clear hb5 ka kb
  have ka := cell_of_one HT.out.ba
  have kb := cell_of_one HT.out.bb
  have hq : (ca == ca) = true := by simp
  have hq2 := bne_same ca
  go_wp2_with fail
  refine (Len_any w.heap.size w5 pa oa HT.out.ha m0 Ma.out).mono ?_
  rintro e w6 ⟨rfl, hb6⟩
  have HTn := Lib.hid (HT.out.up hb6)
  clear HT
  have HT := HTn
  clear HTn
  clear hb6 ka kb hq hq2
  obtain ⟨i0, hi1, hz0, hz1, hz2⟩ := info_parts infoInt
  have Hi := Lib.hid (And.intro hi1 (And.intro hz0 (And.intro hz1 hz2)))
  clear hi1 hz0 hz1 hz2
  have HI : Hid (TwoB w G0 G1 oa ob pa pb (.slice q0 m0 d0) (.slice q1 m1 d1) w6 ∧ OwnI 3 w6 w.heap.size (.slice none 0 0) (keysOf oa 0)) := Lib.hid ⟨HT.out, World.ownsRow_nil _ _ _ _⟩
  clear HT
  go_wp2_with fail
  go_loopw [17, 18] (fun kv iv wr => ∃ (j : Nat) (ov : Value), ov = kv ∧ iv = .int .i64 j ∧ j ≤ m0 ∧ Hid (TwoB w G0 G1 oa ob pa pb (.slice q0 m0 d0) (.slice q1 m1 d1) wr ∧ OwnI 3 wr w.heap.size ov (keysOf oa j))) (fun _ iv _ => m0 - (intOf iv).toNat)
  case atStart => exact ⟨0, _, rfl, rfl, Nat.zero_le _, HI⟩
  case round =>
    obtain ⟨j, ov, rfl, rfl, hj, HS⟩ := hrel
    have j0 : (0 : Int) ≤ (j : Int) := by omega
    by_cases hlt : j < m0
    · obtain ⟨b, o, hqa, z1, -⟩ := (OwnP.reads HS.out.1.xa).at (k := j) (by rw [pat.telled Ma.out]; exact hlt)
      obtain ⟨y, hy⟩ : ∃ y, y = (told oa).getD j (0, 0) := ⟨_, rfl⟩
      have hnext : keysOf oa (j + 1) = keysOf oa j ++ [y.1] := by rw [hy]; exact keys_snoc (by rw [pat.telled Ma.out]; exact hlt)
      rw [← hy] at z1
      obtain ⟨ks, hks⟩ : ∃ ks, ks = keysOf oa j := ⟨_, rfl⟩
      have HS2 : Hid (TwoB w G0 G1 oa ob pa pb (.slice q0 m0 d0) (.slice q1 m1 d1) wr ∧ OwnI 3 wr w.heap.size ov ks) := Lib.hid (by rw [hks]; exact HS.out)
      have hkl : ks.length = j := by rw [hks]; exact keys_len (by rw [pat.telled Ma.out]; exact hj)
      rw [← hks] at hnext
      have HN := Lib.hid hnext
      have j1 : (j : Int) < (m0 : Int) := by omega
      have hwS := HS2.out.1.bel.size
      clear hy hnext hks HS
      subst hqa
      go_wp2_with (at_builtin; obtain ⟨hi1, hz0, hz1, hz2⟩ := Hi.out; refine wpList_append_own _ rfl (.tmp 91) (.tmp 97) 41 rfl w.heap.size 3 i0 (.int .i64 0) 1 8 Tryd.underlying41 hi1 hz0 hz1 hz2 rfl (by decide) ov ks.length (ks.map (Value.int .i64)) rfl (World.ownsRow.alloc HS2.out.2 _) ⟨wr.heap.size, 0, none⟩ 1 1 [.int .i64 y.1] rfl rfl ?c1 ?c2 ?c3 ?c4 ?c5 ?_)
      case c1 => exact World.news_of_block (cs := #[.int .i64 y.1]) (t := 3) (fr := (0, 0)) (heap_alloc_new _ _)
      case c2 => simp [Value.oneCell']
      case c3 => unfold maxLen; omega
      case c4 => omega
      case c5 => simp; omega
      intro v5 w5 hown hgrow _
      have hb5 : Below w.heap.size w w5 := Below.grown (HS2.out.1.bel.alloc hwS _) hgrow (by simp; omega) (fun k hk => (World.ownsRow.lt HS2.out.2 k hk).1)
      have HS3 : Hid (TwoB w G0 G1 oa ob pa pb (.slice (some ⟨b, o, none⟩) m0 d0) (.slice q1 m1 d1) w5 ∧ OwnI 3 w5 w.heap.size v5 (keysOf oa (j + 1))) := by
        refine Lib.hid ⟨HS2.out.1.keep hb5 (KeepT.grown HS2.out.2 hgrow), ?_⟩
        rw [HN.out]
        unfold OwnI
        simpa [hkl] using hown
      clear hown hgrow hb5 HS2 HN z1
      go_wp2_with fail
      go_roundw
      case rel => exact ⟨j + 1, v5, rfl, by go_num, hlt, HS3⟩
      case measure => simp [intOf]; omega
    · obtain rfl : m0 = j := by omega
      have HI : Hid (TwoB w G0 G1 oa ob pa pb (.slice q0 m0 d0) (.slice q1 m1 d1) wr ∧ OwnI 3 wr w.heap.size ov ((keysOf oa m0 ++ keysOf ob 0))) := by rw [show (keysOf oa m0 ++ keysOf ob 0) = keysOf oa m0 from List.append_nil _]; exact HS
      clear HS
      go_wp2_with fail
      go_loopw [17, 19] (fun kv iv wr => ∃ (j : Nat) (ov : Value), ov = kv ∧ iv = .int .i64 j ∧ j ≤ m1 ∧ Hid (TwoB w G0 G1 oa ob pa pb (.slice q0 m0 d0) (.slice q1 m1 d1) wr ∧ OwnI 3 wr w.heap.size ov ((keysOf oa m0 ++ keysOf ob j)))) (fun _ iv _ => m1 - (intOf iv).toNat)
      case atStart => exact ⟨0, _, rfl, rfl, Nat.zero_le _, HI⟩
      case round =>
        obtain ⟨j, ov, rfl, rfl, hj, HS⟩ := hrel
        have j0 : (0 : Int) ≤ (j : Int) := by omega
        by_cases hlt : j < m1
        · obtain ⟨b, o, hqa, z1, -⟩ := (OwnP.reads HS.out.1.xb).at (k := j) (by rw [pat.telled Mb.out]; exact hlt)
          obtain ⟨y, hy⟩ : ∃ y, y = (told ob).getD j (0, 0) := ⟨_, rfl⟩
          have hnext : (keysOf oa m0 ++ keysOf ob (j + 1)) = (keysOf oa m0 ++ keysOf ob j) ++ [y.1] := by rw [hy]; exact keys_snoc2 (by rw [pat.telled Mb.out]; exact hlt)
          rw [← hy] at z1
          obtain ⟨ks, hks⟩ : ∃ ks, ks = (keysOf oa m0 ++ keysOf ob j) := ⟨_, rfl⟩
          have HS2 : Hid (TwoB w G0 G1 oa ob pa pb (.slice q0 m0 d0) (.slice q1 m1 d1) wr ∧ OwnI 3 wr w.heap.size ov ks) := Lib.hid (by rw [hks]; exact HS.out)
          have hkl : ks.length = m0 + j := by rw [hks]; exact keys_len2 Ma.out (by rw [pat.telled Mb.out]; exact hj)
          rw [← hks] at hnext
          have HN := Lib.hid hnext
          have j1 : (j : Int) < (m1 : Int) := by omega
          have hwS := HS2.out.1.bel.size
          clear hy hnext hks HS
          subst hqa
          go_wp2_with (at_builtin; obtain ⟨hi1, hz0, hz1, hz2⟩ := Hi.out; refine wpList_append_own _ rfl (.tmp 105) (.tmp 111) 41 rfl w.heap.size 3 i0 (.int .i64 0) 1 8 Tryd.underlying41 hi1 hz0 hz1 hz2 rfl (by decide) ov ks.length (ks.map (Value.int .i64)) rfl (World.ownsRow.alloc HS2.out.2 _) ⟨wr.heap.size, 0, none⟩ 1 1 [.int .i64 y.1] rfl rfl ?c1 ?c2 ?c3 ?c4 ?c5 ?_)
          case c1 => exact World.news_of_block (cs := #[.int .i64 y.1]) (t := 3) (fr := (0, 0)) (heap_alloc_new _ _)
          case c2 => simp [Value.oneCell']
          case c3 => unfold maxLen; omega
          case c4 => omega
          case c5 => simp; omega
          intro v5 w5 hown hgrow _
          have hb5 : Below w.heap.size w w5 := Below.grown (HS2.out.1.bel.alloc hwS _) hgrow (by simp; omega) (fun k hk => (World.ownsRow.lt HS2.out.2 k hk).1)
          have HS3 : Hid (TwoB w G0 G1 oa ob pa pb (.slice q0 m0 d0) (.slice (some ⟨b, o, none⟩) m1 d1) w5 ∧ OwnI 3 w5 w.heap.size v5 ((keysOf oa m0 ++ keysOf ob (j + 1)))) := by
            refine Lib.hid ⟨HS2.out.1.keep hb5 (KeepT.grown HS2.out.2 hgrow), ?_⟩
            rw [HN.out]
            unfold OwnI
            simpa [hkl] using hown
          clear hown hgrow hb5 HS2 HN z1
          go_wp2_with fail
          go_roundw
          case rel => exact ⟨j + 1, v5, rfl, by go_num, hlt, HS3⟩
          case measure => simp [intOf]; omega
        · obtain rfl : m1 = j := by omega
          have hkl : (keysOf oa m0 ++ keysOf ob m1).length = m0 + m1 := keys_len2 Ma.out (by rw [pat.telled Mb.out]; exact Nat.le_refl _)
          obtain ⟨ak, ck, hov, -⟩ := HS.out.2.form
          rw [hkl] at hov
          subst hov
          have HK := Lib.hid (And.intro HS.out.1 (And.intro HS.out.2 hkl))
          clear HS hkl
          go_wp2_with fail
          refine (Once_any ak ck (m0 + m1) (keysOf oa m0 ++ keysOf ob m1) wr HK.out.2.2 (by omega) (OwnI.reads HK.out.2.1)).mono ?_
          rintro e w7 ⟨a7, n7, c7, ks, rfl, ho7, hl7, hle7, hmem, hb7⟩
          have hn7 : n7 ≤ 2097152 := by rw [HK.out.2.2] at hle7; omega
          have HY := Lib.hid (And.intro (Keys.mk' Sa.out.ok Sb.out.ok Ma.out Mb.out hmem) hl7)
          have HI : Hid (TwoB w G0 G1 oa ob pa pb (.slice q0 m0 d0) (.slice q1 m1 d1) w7 ∧ Reads w7 a7 ks ∧ Four w7 oa ob ks 0 (.slice none 0 0) (.slice none 0 0) (.slice none 0 0) (.slice none 0 0) true) := Lib.hid ⟨HK.out.1.up hb7, OwnI.reads ho7, RowG.start _ _ _ _ _, RowG.start _ _ _ _ _, RowG.start _ _ _ _ _, RowG.start _ _ _ _ _, rfl⟩
          clear HK ho7 hl7 hle7 hmem hb7
          go_wp2_with fail
          go_loopw [20, 21, 22, 23, 24, 25] (fun z1 z2 z3 z4 zb iv wr => ∃ (j : Nat) (v1 v2 v3 v4 : Value) (ib : Bool), v1 = z1 ∧ v2 = z2 ∧ v3 = z3 ∧ v4 = z4 ∧ zb = .bool ib ∧ iv = .int .i64 j ∧ j ≤ n7 ∧ Hid (TwoB w G0 G1 oa ob pa pb (.slice q0 m0 d0) (.slice q1 m1 d1) wr ∧ Reads wr a7 ks ∧ Four wr oa ob ks j v1 v2 v3 v4 ib)) (fun _ _ _ _ _ iv _ => n7 - (intOf iv).toNat)
          case atStart => exact ⟨0, _, _, _, _, true, rfl, rfl, rfl, rfl, rfl, rfl, Nat.zero_le _, HI⟩
          case round =>
            obtain ⟨j, v1, v2, v3, v4, ib, rfl, rfl, rfl, rfl, rfl, rfl, hj, HS⟩ := hrel
            have j0 : (0 : Int) ≤ (j : Int) := by omega
            obtain ⟨⟨a1, c1, k1, rfl, e1, r1⟩, ⟨a2, c2, k2, rfl, e2, r2⟩, ⟨a3, c3, k3, rfl, e3, r3⟩, ⟨a4, c4, k4, rfl, e4, r4⟩, hib⟩ := HS.out.2.2
            have HT := Lib.hid HS.out.1
            have q1n := (HY.out.1.well fAdd j).n
            rw [e1] at q1n
            have Z1 := Lib.hid (And.intro e1 r1)
            clear e1 r1
            have q2n := (HY.out.1.well fJoin j).n
            rw [e2] at q2n
            have Z2 := Lib.hid (And.intro e2 r2)
            clear e2 r2
            have q3n := (HY.out.1.well fMeet j).n
            rw [e3] at q3n
            have Z3 := Lib.hid (And.intro e3 r3)
            clear e3 r3
            have q4n := (HY.out.1.well fLess j).n
            rw [e4] at q4n
            have Z4 := Lib.hid (And.intro e4 r4)
            clear e4 r4
            have HIB := Lib.hid hib
            clear hib
            by_cases hlt : j < n7
            · obtain ⟨b, o, hqa, z1⟩ := (HS.out.2.1).at (k := j) (by rw [HY.out.2]; exact hlt)
              have hRd := HS.out.2.1
              clear HS
              obtain ⟨y, hy⟩ : ∃ y, y = ks.getD j 0 := ⟨_, rfl⟩
              rw [← hy] at z1
              have HRd := Lib.hid hRd
              clear hRd
              have hyl : j < ks.length := by rw [HY.out.2]; exact hlt
              have hik : I64 y := by rw [hy]; exact HY.out.1.i _ (by rw [List.getD_eq_getElem?_getD, List.getElem?_eq_getElem hyl]; exact List.getElem_mem _)
              obtain ⟨cu, hcu⟩ : ∃ c, cnt oa y = c := ⟨_, rfl⟩
              obtain ⟨cv, hcv⟩ : ∃ c, cnt ob y = c := ⟨_, rfl⟩
              have hba := Sa.out.cnt y
              have hbb := Sb.out.cnt y
              rw [hcu] at hba
              rw [hcv] at hbb
              have hmost : most = 1099511627776 := rfl
              rw [hmost] at hba hbb
              obtain ⟨cu0, cu1⟩ := hba
              obtain ⟨cv0, cv1⟩ := hbb
              clear hmost
              have F1 : Hid (foldG fAdd oa ob (ks.take (j + 1)) none = withO (foldG fAdd oa ob (ks.take j) none) y (fAdd cu cv)) := Lib.hid (by rw [foldG_snoc fAdd oa ob hyl none, ← hy, hcu, hcv])
              have F2 : Hid (foldG fJoin oa ob (ks.take (j + 1)) none = withO (foldG fJoin oa ob (ks.take j) none) y (fJoin cu cv)) := Lib.hid (by rw [foldG_snoc fJoin oa ob hyl none, ← hy, hcu, hcv])
              have F3 : Hid (foldG fMeet oa ob (ks.take (j + 1)) none = withO (foldG fMeet oa ob (ks.take j) none) y (fMeet cu cv)) := Lib.hid (by rw [foldG_snoc fMeet oa ob hyl none, ← hy, hcu, hcv])
              have F4 : Hid (foldG fLess oa ob (ks.take (j + 1)) none = withO (foldG fLess oa ob (ks.take j) none) y (fLess cu cv)) := Lib.hid (by rw [foldG_snoc fLess oa ob hyl none, ← hy, hcu, hcv])
              have FB : Hid (leAll oa ob (ks.take (j + 1)) = (ib && decide (cu ≤ cv))) := Lib.hid (by rw [le_snoc hyl, ← hy, hcu, hcv, HIB.out])
              have HU := Lib.hid (And.intro hcu (And.intro hcv hik))
              have j1 : (j : Int) < (n7 : Int) := by omega
              clear hy hyl hik hcu hcv HIB
              subst hqa
              have HZ := Lib.hid (fun W (hb : Below wr.heap.size wr W) => upc hb z1)
              go_wp2_with fail
              refine (Val_cnt q0 d0 m0 oa y wr Sa.out.ok Ma.out (by omega) (OwnP.reads HT.out.xa) HU.out.2.2 cu HU.out.1).mono ?_
              rintro e w8 ⟨bu, rfl, rfl⟩
              go_wp2_with fail
              refine (Val_cnt q1 d1 m1 ob y wr Sb.out.ok Mb.out (by omega) (OwnP.reads HT.out.xb) HU.out.2.2 cv HU.out.2.1).mono ?_
              rintro e w8 ⟨bw, rfl, rfl⟩
              have hw1 : IntKind.i64.wrap (cu + cv) = cu + cv := IntWalk.i64_in _ (by omega)
              have hw2 : IntKind.i64.wrap (cu - cv) = cu - cv := IntWalk.i64_in _ (by omega)
              go_wp2_with fail
              obtain ⟨K1, hK1⟩ : ∃ K, ocnt (withO (foldG fAdd oa ob (ks.take j) none) y (cu + cv)) = K := ⟨_, rfl⟩
              have hkb1 := with_cnt (foldG fAdd oa ob (ks.take j) none) y (cu + cv)
              rw [hK1, Z1.out.1] at hkb1
              refine (Cnt_next a1 c1 k1 K1 (foldG fAdd oa ob (ks.take j) none) y (cu + cv) wr (HY.out.1.well fAdd j).ok Z1.out.1 (by omega) Z1.out.2 HU.out.2.2 hK1).mono ?_
              rintro e w9 ⟨x1, y1, rfl, s1, hbN⟩
              have S1 : Hid (RowG w9 fAdd oa ob (ks.take (j + 1)) (.slice x1 K1 y1)) := Lib.hid ⟨x1, y1, K1, rfl, by rw [F1.out]; exact hK1, by rw [F1.out]; exact s1⟩
              have Z2n := Lib.hid (And.intro Z2.out.1 (Z2.out.2.up hbN))
              clear Z2
              have Z2 := Z2n
              clear Z2n
              have Z3n := Lib.hid (And.intro Z3.out.1 (Z3.out.2.up hbN))
              clear Z3
              have Z3 := Z3n
              clear Z3n
              have Z4n := Lib.hid (And.intro Z4.out.1 (Z4.out.2.up hbN))
              clear Z4
              have Z4 := Z4n
              clear Z4n
              have HTn := Lib.hid (HT.out.up hbN)
              clear HT
              have HT := HTn
              clear HTn
              have HRdn := Lib.hid (HRd.out.up hbN)
              clear HRd
              have HRd := HRdn
              clear HRdn
              have z1n := upc hbN z1
              clear z1 s1 hbN hK1
              have z1 := z1n
              clear z1n
              clear HZ
              go_wp2_with fail
              obtain ⟨K2, hK2⟩ : ∃ K, ocnt (withO (foldG fJoin oa ob (ks.take j) none) y (max cu cv)) = K := ⟨_, rfl⟩
              have hkb2 := with_cnt (foldG fJoin oa ob (ks.take j) none) y (max cu cv)
              rw [hK2, Z2.out.1] at hkb2
              refine (Cnt_next a2 c2 k2 K2 (foldG fJoin oa ob (ks.take j) none) y (max cu cv) w9 (HY.out.1.well fJoin j).ok Z2.out.1 (by omega) Z2.out.2 HU.out.2.2 hK2).mono ?_
              rintro e w10 ⟨x2, y2, rfl, s2, hbN⟩
              have S2 : Hid (RowG w10 fJoin oa ob (ks.take (j + 1)) (.slice x2 K2 y2)) := Lib.hid ⟨x2, y2, K2, rfl, by rw [F2.out]; exact hK2, by rw [F2.out]; exact s2⟩
              have S1n : Hid (RowG w10 fAdd oa ob (ks.take (j + 1)) (.slice x1 K1 y1)) := Lib.hid (S1.out.up hbN)
              clear S1
              have S1 := S1n
              clear S1n
              have Z3n := Lib.hid (And.intro Z3.out.1 (Z3.out.2.up hbN))
              clear Z3
              have Z3 := Z3n
              clear Z3n
              have Z4n := Lib.hid (And.intro Z4.out.1 (Z4.out.2.up hbN))
              clear Z4
              have Z4 := Z4n
              clear Z4n
              have HTn := Lib.hid (HT.out.up hbN)
              clear HT
              have HT := HTn
              clear HTn
              have HRdn := Lib.hid (HRd.out.up hbN)
              clear HRd
              have HRd := HRdn
              clear HRdn
              have z1n := upc hbN z1
              clear z1 s2 hbN hK2
              have z1 := z1n
              clear z1n
              go_wp2_with fail
              obtain ⟨K3, hK3⟩ : ∃ K, ocnt (withO (foldG fMeet oa ob (ks.take j) none) y (min cu cv)) = K := ⟨_, rfl⟩
              have hkb3 := with_cnt (foldG fMeet oa ob (ks.take j) none) y (min cu cv)
              rw [hK3, Z3.out.1] at hkb3
              refine (Cnt_next a3 c3 k3 K3 (foldG fMeet oa ob (ks.take j) none) y (min cu cv) w10 (HY.out.1.well fMeet j).ok Z3.out.1 (by omega) Z3.out.2 HU.out.2.2 hK3).mono ?_
              rintro e w11 ⟨x3, y3, rfl, s3, hbN⟩
              have S3 : Hid (RowG w11 fMeet oa ob (ks.take (j + 1)) (.slice x3 K3 y3)) := Lib.hid ⟨x3, y3, K3, rfl, by rw [F3.out]; exact hK3, by rw [F3.out]; exact s3⟩
              have S1n : Hid (RowG w11 fAdd oa ob (ks.take (j + 1)) (.slice x1 K1 y1)) := Lib.hid (S1.out.up hbN)
              clear S1
              have S1 := S1n
              clear S1n
              have S2n : Hid (RowG w11 fJoin oa ob (ks.take (j + 1)) (.slice x2 K2 y2)) := Lib.hid (S2.out.up hbN)
              clear S2
              have S2 := S2n
              clear S2n
              have Z4n := Lib.hid (And.intro Z4.out.1 (Z4.out.2.up hbN))
              clear Z4
              have Z4 := Z4n
              clear Z4n
              have HTn := Lib.hid (HT.out.up hbN)
              clear HT
              have HT := HTn
              clear HTn
              have HRdn := Lib.hid (HRd.out.up hbN)
              clear HRd
              have HRd := HRdn
              clear HRdn
              have z1n := upc hbN z1
              clear z1 s3 hbN hK3
              have z1 := z1n
              clear z1n
              go_wp2_with fail
              obtain ⟨K4, hK4⟩ : ∃ K, ocnt (withO (foldG fLess oa ob (ks.take j) none) y (cu - cv)) = K := ⟨_, rfl⟩
              have hkb4 := with_cnt (foldG fLess oa ob (ks.take j) none) y (cu - cv)
              rw [hK4, Z4.out.1] at hkb4
              refine (Cnt_next a4 c4 k4 K4 (foldG fLess oa ob (ks.take j) none) y (cu - cv) w11 (HY.out.1.well fLess j).ok Z4.out.1 (by omega) Z4.out.2 HU.out.2.2 hK4).mono ?_
              rintro e w12 ⟨x4, y4, rfl, s4, hbN⟩
              have S4 : Hid (RowG w12 fLess oa ob (ks.take (j + 1)) (.slice x4 K4 y4)) := Lib.hid ⟨x4, y4, K4, rfl, by rw [F4.out]; exact hK4, by rw [F4.out]; exact s4⟩
              have S1n : Hid (RowG w12 fAdd oa ob (ks.take (j + 1)) (.slice x1 K1 y1)) := Lib.hid (S1.out.up hbN)
              clear S1
              have S1 := S1n
              clear S1n
              have S2n : Hid (RowG w12 fJoin oa ob (ks.take (j + 1)) (.slice x2 K2 y2)) := Lib.hid (S2.out.up hbN)
              clear S2
              have S2 := S2n
              clear S2n
              have S3n : Hid (RowG w12 fMeet oa ob (ks.take (j + 1)) (.slice x3 K3 y3)) := Lib.hid (S3.out.up hbN)
              clear S3
              have S3 := S3n
              clear S3n
              have HTn := Lib.hid (HT.out.up hbN)
              clear HT
              have HT := HTn
              clear HTn
              have HRdn := Lib.hid (HRd.out.up hbN)
              clear HRd
              have HRd := HRdn
              clear HRdn
              have z1n := upc hbN z1
              clear z1 s4 hbN hK4
              have z1 := z1n
              clear z1n
              by_cases hle : cu ≤ cv
              · have HS : Hid (TwoB w G0 G1 oa ob pa pb (.slice q0 m0 d0) (.slice q1 m1 d1) w12 ∧ Reads w12 (some ⟨b, o, none⟩) ks ∧ Four w12 oa ob ks (j + 1) (.slice x1 K1 y1) (.slice x2 K2 y2) (.slice x3 K3 y3) (.slice x4 K4 y4) ib) := Lib.hid ⟨HT.out, HRd.out, S1.out, S2.out, S3.out, S4.out, by rw [FB.out, decide_eq_true hle]; simp⟩
                clear HT HRd S1 S2 S3 S4 z1 FB F1 F2 F3 F4 HU hkb1 hkb2 hkb3 hkb4
                cases ib with
                | false =>
                  go_wp2_with fail
                  go_roundw
                  case rel => exact ⟨j + 1, _, _, _, _, false, rfl, rfl, rfl, rfl, by first | rfl | simp [hle], by go_num, hlt, HS⟩
                  case measure => simp [intOf]; omega
                | true =>
                  go_wp2_with fail
                  go_roundw
                  case rel => exact ⟨j + 1, _, _, _, _, true, rfl, rfl, rfl, rfl, by first | rfl | simp [hle], by go_num, hlt, HS⟩
                  case measure => simp [intOf]; omega
              · have HS : Hid (TwoB w G0 G1 oa ob pa pb (.slice q0 m0 d0) (.slice q1 m1 d1) w12 ∧ Reads w12 (some ⟨b, o, none⟩) ks ∧ Four w12 oa ob ks (j + 1) (.slice x1 K1 y1) (.slice x2 K2 y2) (.slice x3 K3 y3) (.slice x4 K4 y4) false) := Lib.hid ⟨HT.out, HRd.out, S1.out, S2.out, S3.out, S4.out, by rw [FB.out, decide_eq_false hle]; simp⟩
                have hle3 : ¬ cu ≤ cv := hle
                clear HT HRd S1 S2 S3 S4 z1 FB F1 F2 F3 F4 HU hkb1 hkb2 hkb3 hkb4
                cases ib with
                | false =>
                  go_wp2_with fail
                  go_roundw
                  case rel => exact ⟨j + 1, _, _, _, _, false, rfl, rfl, rfl, rfl, by first | rfl | simp [hle], by go_num, hlt, HS⟩
                  case measure => simp [intOf]; omega
                | true =>
                  go_wp2_with fail
                  go_roundw
                  case rel => exact ⟨j + 1, _, _, _, _, false, rfl, rfl, rfl, rfl, by first | rfl | simp [hle], by go_num, hlt, HS⟩
                  case measure => simp [intOf]; omega
            · obtain rfl : n7 = j := by omega
              have E1 := HY.out.1.told Sa.out Sb.out fAdd zeroAdd (j := n7) (Nat.le_of_eq HY.out.2)
              have Y1 : Hid (ocnt (metO fAdd oa ob) = k1 ∧ ReadsP wr a1 (told (metO fAdd oa ob))) := Lib.hid ⟨by rw [← told_ocnt E1]; exact Z1.out.1, by rw [← E1]; exact Z1.out.2⟩
              clear E1 Z1
              have E2 := HY.out.1.told Sa.out Sb.out fJoin zeroJoin (j := n7) (Nat.le_of_eq HY.out.2)
              have Y2 : Hid (ocnt (metO fJoin oa ob) = k2 ∧ ReadsP wr a2 (told (metO fJoin oa ob))) := Lib.hid ⟨by rw [← told_ocnt E2]; exact Z2.out.1, by rw [← E2]; exact Z2.out.2⟩
              clear E2 Z2
              have E3 := HY.out.1.told Sa.out Sb.out fMeet zeroMeet (j := n7) (Nat.le_of_eq HY.out.2)
              have Y3 : Hid (ocnt (metO fMeet oa ob) = k3 ∧ ReadsP wr a3 (told (metO fMeet oa ob))) := Lib.hid ⟨by rw [← told_ocnt E3]; exact Z3.out.1, by rw [← E3]; exact Z3.out.2⟩
              clear E3 Z3
              have E4 := HY.out.1.told Sa.out Sb.out fLess zeroLess (j := n7) (Nat.le_of_eq HY.out.2)
              have Y4 : Hid (ocnt (metO fLess oa ob) = k4 ∧ ReadsP wr a4 (told (metO fLess oa ob))) := Lib.hid ⟨by rw [← told_ocnt E4]; exact Z4.out.1, by rw [← E4]; exact Z4.out.2⟩
              clear E4 Z4
              have HIn : Hid (decide (ocnt (metO fLess oa ob) = 0) = ib) := Lib.hid (by rw [HY.out.1.le Sa.out Sb.out, HIB.out, List.take_of_length_le (Nat.le_of_eq HY.out.2)])
              clear HIB HS HY
              have ka := cell_of_one HT.out.ba
              have kb := cell_of_one HT.out.bb
              go_wp2_with fail
              refine (Add_sm w.heap.size wr pa pb oa ob HT.out.bel.size HT.out.ha HT.out.hb Sa.out Sb.out (by decide)).mono ?_
              rintro e W21 ⟨pR, rfl, hpR, hbR⟩
              have HpR := Lib.hid hpR
              clear hpR ka kb
              have HTn := Lib.hid (HT.out.up hbR)
              clear HT
              have HT := HTn
              clear HTn
              have Y1n := Lib.hid (And.intro Y1.out.1 (Y1.out.2.up hbR))
              clear Y1
              have Y1 := Y1n
              clear Y1n
              have Y2n := Lib.hid (And.intro Y2.out.1 (Y2.out.2.up hbR))
              clear Y2
              have Y2 := Y2n
              clear Y2n
              have Y3n := Lib.hid (And.intro Y3.out.1 (Y3.out.2.up hbR))
              clear Y3
              have Y3 := Y3n
              clear Y3n
              have Y4n := Lib.hid (And.intro Y4.out.1 (Y4.out.2.up hbR))
              clear Y4
              have Y4 := Y4n
              clear Y4n
              clear hbR
              go_wp2_with fail
              refine (Pairs_any w.heap.size W21 pR (metO fAdd oa ob) k1 HpR.out (Sm.met fAdd Sa.out Sb.out).ok Y1.out.1 (by omega) (told (metO fAdd oa ob)) rfl).mono ?_
              rintro e W22 ⟨aP, cP, rfl, hoP, hbP⟩
              have HP := Lib.hid (OwnP.reads hoP)
              clear hoP HpR
              have HTn := Lib.hid (HT.out.up hbP)
              clear HT
              have HT := HTn
              clear HTn
              have Y1n := Lib.hid (And.intro Y1.out.1 (Y1.out.2.up hbP))
              clear Y1
              have Y1 := Y1n
              clear Y1n
              have Y2n := Lib.hid (And.intro Y2.out.1 (Y2.out.2.up hbP))
              clear Y2
              have Y2 := Y2n
              clear Y2n
              have Y3n := Lib.hid (And.intro Y3.out.1 (Y3.out.2.up hbP))
              clear Y3
              have Y3 := Y3n
              clear Y3n
              have Y4n := Lib.hid (And.intro Y4.out.1 (Y4.out.2.up hbP))
              clear Y4
              have Y4 := Y4n
              clear Y4n
              clear hbP
              go_wp2_with fail
              refine (samePairs_any aP a1 cP c1 k1 k1 (told (metO fAdd oa ob)) (told (metO fAdd oa ob)) W22 (pat.telled Y1.out.1) (pat.telled Y1.out.1) HP.out Y1.out.2 (by unfold maxLen; omega) true (decide_eq_true rfl)).mono ?_
              rintro e W23 ⟨rfl, nn, hU⟩
              have hbU : Below W22.heap.size W22 W23 := by rw [hU]; exact belowDrewN _ _
              clear hU HP
              have HTn := Lib.hid (HT.out.up hbU)
              clear HT
              have HT := HTn
              clear HTn
              have Y2n := Lib.hid (And.intro Y2.out.1 (Y2.out.2.up hbU))
              clear Y2
              have Y2 := Y2n
              clear Y2n
              have Y3n := Lib.hid (And.intro Y3.out.1 (Y3.out.2.up hbU))
              clear Y3
              have Y3 := Y3n
              clear Y3n
              have Y4n := Lib.hid (And.intro Y4.out.1 (Y4.out.2.up hbU))
              clear Y4
              have Y4 := Y4n
              clear Y4n
              clear hbU
              clear Y1
              have ka := cell_of_one HT.out.ba
              have kb := cell_of_one HT.out.bb
              go_wp2_with fail
              refine (Join_sm w.heap.size W23 pa pb oa ob HT.out.bel.size HT.out.ha HT.out.hb Sa.out Sb.out (by decide)).mono ?_
              rintro e W24 ⟨pR, rfl, hpR, hbR⟩
              have HpR := Lib.hid hpR
              clear hpR ka kb
              have HTn := Lib.hid (HT.out.up hbR)
              clear HT
              have HT := HTn
              clear HTn
              have Y2n := Lib.hid (And.intro Y2.out.1 (Y2.out.2.up hbR))
              clear Y2
              have Y2 := Y2n
              clear Y2n
              have Y3n := Lib.hid (And.intro Y3.out.1 (Y3.out.2.up hbR))
              clear Y3
              have Y3 := Y3n
              clear Y3n
              have Y4n := Lib.hid (And.intro Y4.out.1 (Y4.out.2.up hbR))
              clear Y4
              have Y4 := Y4n
              clear Y4n
              clear hbR
              go_wp2_with fail
              refine (Pairs_any w.heap.size W24 pR (metO fJoin oa ob) k2 HpR.out (Sm.met fJoin Sa.out Sb.out).ok Y2.out.1 (by omega) (told (metO fJoin oa ob)) rfl).mono ?_
              rintro e W25 ⟨aP, cP, rfl, hoP, hbP⟩
              have HP := Lib.hid (OwnP.reads hoP)
              clear hoP HpR
              have HTn := Lib.hid (HT.out.up hbP)
              clear HT
              have HT := HTn
              clear HTn
              have Y2n := Lib.hid (And.intro Y2.out.1 (Y2.out.2.up hbP))
              clear Y2
              have Y2 := Y2n
              clear Y2n
              have Y3n := Lib.hid (And.intro Y3.out.1 (Y3.out.2.up hbP))
              clear Y3
              have Y3 := Y3n
              clear Y3n
              have Y4n := Lib.hid (And.intro Y4.out.1 (Y4.out.2.up hbP))
              clear Y4
              have Y4 := Y4n
              clear Y4n
              clear hbP
              go_wp2_with fail
              refine (samePairs_any aP a2 cP c2 k2 k2 (told (metO fJoin oa ob)) (told (metO fJoin oa ob)) W25 (pat.telled Y2.out.1) (pat.telled Y2.out.1) HP.out Y2.out.2 (by unfold maxLen; omega) true (decide_eq_true rfl)).mono ?_
              rintro e W26 ⟨rfl, nn, hU⟩
              have hbU : Below W25.heap.size W25 W26 := by rw [hU]; exact belowDrewN _ _
              clear hU HP
              have HTn := Lib.hid (HT.out.up hbU)
              clear HT
              have HT := HTn
              clear HTn
              have Y3n := Lib.hid (And.intro Y3.out.1 (Y3.out.2.up hbU))
              clear Y3
              have Y3 := Y3n
              clear Y3n
              have Y4n := Lib.hid (And.intro Y4.out.1 (Y4.out.2.up hbU))
              clear Y4
              have Y4 := Y4n
              clear Y4n
              clear hbU
              clear Y2
              have ka := cell_of_one HT.out.ba
              have kb := cell_of_one HT.out.bb
              go_wp2_with fail
              refine (Meet_sm w.heap.size W26 pa pb oa ob HT.out.bel.size HT.out.ha HT.out.hb Sa.out Sb.out (by decide)).mono ?_
              rintro e W27 ⟨pR, rfl, hpR, hbR⟩
              have HpR := Lib.hid hpR
              clear hpR ka kb
              have HTn := Lib.hid (HT.out.up hbR)
              clear HT
              have HT := HTn
              clear HTn
              have Y3n := Lib.hid (And.intro Y3.out.1 (Y3.out.2.up hbR))
              clear Y3
              have Y3 := Y3n
              clear Y3n
              have Y4n := Lib.hid (And.intro Y4.out.1 (Y4.out.2.up hbR))
              clear Y4
              have Y4 := Y4n
              clear Y4n
              clear hbR
              go_wp2_with fail
              refine (Pairs_any w.heap.size W27 pR (metO fMeet oa ob) k3 HpR.out (Sm.met fMeet Sa.out Sb.out).ok Y3.out.1 (by omega) (told (metO fMeet oa ob)) rfl).mono ?_
              rintro e W28 ⟨aP, cP, rfl, hoP, hbP⟩
              have HP := Lib.hid (OwnP.reads hoP)
              clear hoP HpR
              have HTn := Lib.hid (HT.out.up hbP)
              clear HT
              have HT := HTn
              clear HTn
              have Y3n := Lib.hid (And.intro Y3.out.1 (Y3.out.2.up hbP))
              clear Y3
              have Y3 := Y3n
              clear Y3n
              have Y4n := Lib.hid (And.intro Y4.out.1 (Y4.out.2.up hbP))
              clear Y4
              have Y4 := Y4n
              clear Y4n
              clear hbP
              go_wp2_with fail
              refine (samePairs_any aP a3 cP c3 k3 k3 (told (metO fMeet oa ob)) (told (metO fMeet oa ob)) W28 (pat.telled Y3.out.1) (pat.telled Y3.out.1) HP.out Y3.out.2 (by unfold maxLen; omega) true (decide_eq_true rfl)).mono ?_
              rintro e W29 ⟨rfl, nn, hU⟩
              have hbU : Below W28.heap.size W28 W29 := by rw [hU]; exact belowDrewN _ _
              clear hU HP
              have HTn := Lib.hid (HT.out.up hbU)
              clear HT
              have HT := HTn
              clear HTn
              have Y4n := Lib.hid (And.intro Y4.out.1 (Y4.out.2.up hbU))
              clear Y4
              have Y4 := Y4n
              clear Y4n
              clear hbU
              clear Y3
              have ka := cell_of_one HT.out.ba
              have kb := cell_of_one HT.out.bb
              go_wp2_with fail
              refine (Less_sm w.heap.size W29 pa pb oa ob HT.out.bel.size HT.out.ha HT.out.hb Sa.out Sb.out (by decide)).mono ?_
              rintro e W30 ⟨pR, rfl, hpR, hbR⟩
              have HpR := Lib.hid hpR
              clear hpR ka kb
              have HTn := Lib.hid (HT.out.up hbR)
              clear HT
              have HT := HTn
              clear HTn
              have Y4n := Lib.hid (And.intro Y4.out.1 (Y4.out.2.up hbR))
              clear Y4
              have Y4 := Y4n
              clear Y4n
              clear hbR
              go_wp2_with fail
              refine (Pairs_any w.heap.size W30 pR (metO fLess oa ob) k4 HpR.out (Sm.met fLess Sa.out Sb.out).ok Y4.out.1 (by omega) (told (metO fLess oa ob)) rfl).mono ?_
              rintro e W31 ⟨aP, cP, rfl, hoP, hbP⟩
              have HP := Lib.hid (OwnP.reads hoP)
              clear hoP HpR
              have HTn := Lib.hid (HT.out.up hbP)
              clear HT
              have HT := HTn
              clear HTn
              have Y4n := Lib.hid (And.intro Y4.out.1 (Y4.out.2.up hbP))
              clear Y4
              have Y4 := Y4n
              clear Y4n
              clear hbP
              go_wp2_with fail
              refine (samePairs_any aP a4 cP c4 k4 k4 (told (metO fLess oa ob)) (told (metO fLess oa ob)) W31 (pat.telled Y4.out.1) (pat.telled Y4.out.1) HP.out Y4.out.2 (by unfold maxLen; omega) true (decide_eq_true rfl)).mono ?_
              rintro e W32 ⟨rfl, nn, hU⟩
              have hbU : Below W31.heap.size W31 W32 := by rw [hU]; exact belowDrewN _ _
              clear hU HP
              have HTn := Lib.hid (HT.out.up hbU)
              clear HT
              have HT := HTn
              clear HTn
              clear hbU
              clear Y4
              have ka := cell_of_one HT.out.ba
              have kb := cell_of_one HT.out.bb
              go_wp2_with fail
              refine (In_sm w.heap.size W32 pa pb oa ob HT.out.bel.size HT.out.ha HT.out.hb Sa.out Sb.out (by decide) ib HIn.out).mono ?_
              rintro e Wz ⟨rfl, hbZ⟩
              have HF := Lib.hid (HT.out.up hbZ).bel
              clear hbZ ka kb HT HIn
              cases ib with
              | false =>
                go_wp2_with fail
                go_ret
                exact ⟨rfl, HF.out⟩
              | true =>
                go_wp2_with fail
                go_ret
                exact ⟨rfl, HF.out⟩

theorem tells_any (a0 : Option Addr) (c0 : Nat) (l0 : List (Int × Int)) (a1 : Option Addr) (c1 : Nat) (l1 : List (Int × Int)) (x : Int) (w : World)
    (b0 : l0.length ≤ 1048576) (r0 : ReadsP w a0 l0) (i0 : ∀ p ∈ l0, I64 p.1) (b1 : l1.length ≤ 1048576) (r1 : ReadsP w a1 l1) (i1 : ∀ p ∈ l1, I64 p.1) (hx : I64 x) (hg : er.Handle w) :
    Calls Tryd.prog 5 #[.slice a0 l0.length c0, .slice a1 l1.length c1, .int .i64 x] w (pat.Yes w) :=
  tells a0 a1 c0 l0.length c1 l1.length l0 l1 x w ⟨r0, rfl, i0, b0⟩ ⟨r1, rfl, i1, b1⟩ hx hg
end Go.Proofs.YtnebmncjohoekaaDoor.bag
