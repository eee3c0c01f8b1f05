/- Package prio: a queue, over many things. (Printed by pq.py.) -/
import Derived.Test.YtnigadnjppeckaaManyP6
import Derived.Test.YtnigadnjppeckaaManyP7
import Derived.Test.YtnigadnjppeckaaCat
namespace Go.Proofs.Ytnigadnjppeckaa.prio
open Go.RowKit
open manyP (RetM Is q_first findT findT_le findT_lt kTM V S sm OwnV ReadsV RetV)

abbrev In := manyP.In

set_option maxHeartbeats 400000 in
theorem Len_any (B : Nat) (w : World) (p : Option Addr) (t : BT V) (h : In B w p t) :
    Calls Try.prog 21 #[.agg #[.pointer p]] w fun e w' => e = .returned (.int .i64 (t.size : Nat)) ∧ Below w.heap.size w w' := by
  have Hc := Lib.hid (manyP.Len_any B _ p t (h.up (belowAlloc w (.cells #[.pointer p] 49))))
  clear h
  go_enter Try.func21, Try.ntmps21
  go_wp2_with fail
  refine Hc.out.mono ?_
  rintro e w1 ⟨rfl, hb⟩
  have Hb := Lib.hid (belowTrans (belowAlloc _ _) hb)
  clear hb
  go_wp2_with fail
  go_ret
  exact ⟨rfl, Hb.out⟩

set_option maxHeartbeats 1000000 in
theorem Items_any (B : Nat) (w : World) (p : Option Addr) (t : BT V) (h : In B w p t) (hn : t.size ≤ 8796093022208) :
    Calls Try.prog 22 #[.agg #[.pointer p]] w (RetV w t.inorder) := by
  have Hc := Lib.hid (manyP.all_any B _ p t (h.up (belowAlloc w (.cells #[.pointer p] 49))) hn)
  clear h
  go_enter Try.func22, Try.ntmps22
  go_wp2_with fail
  refine Hc.out.mono ?_
  rintro e w1 ⟨a, c, rfl, ho, hb⟩
  have hi : OwnV w1 w.heap.size (.slice a t.inorder.length c) t.inorder := ho.lower (by simp)
  have Hi := Lib.hid hi
  have Hb := Lib.hid (belowTrans (belowAlloc _ _) hb)
  clear ho hb hi
  go_wp2_with fail
  go_ret
  exact RetV.mk Hi.out Hb.out

theorem rankOf (W : World) (s : Bool) (y : Int) : Sem.run Try.prog (Instr.field 106 (.agg #[.bool s, .int .i64 y]) 1) W = .ok (.int .i64 y) W := by kernel_rfl
set_option maxRecDepth 100000 in
set_option maxHeartbeats 1000000 in
theorem first_any (B : Nat) (w : World) (p : Option Addr) (t : BT V) (hB : B ≤ w.heap.size) (h : In B w p t) (hs : t.size ≤ 1152921504606820000) :
    Calls Try.prog 52 #[.agg #[.pointer p]] w fun e w' => e = .returned (.int .i64 ((findT (q_first ((sm t).getD 0)) none t : Nat) : Int)) ∧ Below w.heap.size w w' := by
  have hb0 := belowAlloc w (.cells #[.pointer p] 49)
  have HS := Lib.hid (manyP.Sum_any B _ p t (h.up hb0))
  have Hh := Lib.hid (h.up hb0)
  have HB := Lib.hid (szle hb0 hB)
  have kp := cell_of_one (heap_alloc_new w (.cells #[.pointer p] 49))
  have Hb0 := Lib.hid hb0
  obtain ⟨y, hy⟩ : ∃ y, y = (sm t).getD 0 := ⟨_, rfl⟩
  obtain ⟨s, hs2⟩ : ∃ s, s = (sm t).isSome := ⟨_, rfl⟩
  rw [← hy, ← hs2] at HS
  rw [← hy]
  clear hb0 hB h hy hs2
  go_enter Try.func52, Try.ntmps52
  go_wp2_with fail
  refine HS.out.mono ?_
  rintro e w1 ⟨rfl, hb1⟩
  have hbA := belowTrans hb1 (belowAlloc w1 (.cells #[.int .i64 y] 3))
  have HF := Lib.hid (manyP.Find_first B _ p t w1.heap.size y (szle hbA HB.out) (Hh.out.up hbA) hs (heap_alloc_new w1 (.cells #[.int .i64 y] 3)))
  have kp2 := upc hbA kp
  have HbA := Lib.hid (belowTrans Hb0.out hbA)
  have hfd := rankOf w1 s y
  clear hb1 hbA HS Hh HB Hb0 kp
  go_wp2_with fail
  refine HF.out.mono ?_
  rintro e w2 ⟨rfl, hb2⟩
  have Hb2 := Lib.hid (belowTrans HbA.out hb2)
  clear hb2 HbA HF kp2
  go_wp2_with fail
  go_ret
  exact ⟨rfl, Hb2.out⟩

theorem sm_some {t : BT V} (h : 0 < t.size) : ∃ y, sm t = some y := by
  have j1 : ∀ (a : S) (b : Int), ∃ y, manyP.join a (some b) = some y := fun a b => by
    cases a with
    | none => exact ⟨b, rfl⟩
    | some a => show ∃ y, (if a < b then some b else some a) = some y; split <;> exact ⟨_, rfl⟩
  have j2 : ∀ (a : Int) (b : S), ∃ y, manyP.join (some a) b = some y := fun a b => by
    cases b with
    | none => exact ⟨a, rfl⟩
    | some b => exact j1 (some a) b
  cases t with
  | nil => simp [BT.size] at h
  | node x l r =>
    obtain ⟨y, hy⟩ := j1 (sm l) x.1
    rw [manyP.sm_node, show manyP.one x = some x.1 from rfl, hy]
    exact j2 y (sm r)
theorem first_lt {t : BT V} (h : 0 < t.size) : findT (q_first ((sm t).getD 0)) none t < t.size := by
  obtain ⟨y, hy⟩ := sm_some h
  rw [hy]
  refine findT_lt _ _ _ rfl ?_
  rw [hy]
  show (y == y) = true
  simp

theorem take_size (t : BT V) : t.inorder.take t.size = t.inorder := List.take_of_length_le (by rw [BT.length_inorder]; exact Nat.le_refl _)
theorem drop_size (t : BT V) : t.inorder.drop t.size = [] := List.drop_of_length_le (by rw [BT.length_inorder]; exact Nat.le_refl _)
set_option maxRecDepth 100000 in
set_option maxHeartbeats 2000000 in
theorem Push_any (B : Nat) (w : World) (p : Option Addr) (t : BT V) (v : V) (hB : B ≤ w.heap.size) (h : In B w p t) (hs : t.size ≤ 1152921504606820000) :
    Calls Try.prog 20 #[.agg #[.pointer p], .agg #[.int .i64 (v).1, .int .i64 (v).2]] w (RetM B w (Is (t.inorder ++ [v]) (t.size + 1))) := by
  obtain ⟨V0, hV⟩ : ∃ V0, V0 = ((w.alloc (.cells #[.pointer p] 49)).alloc (.cells #[.int .i64 (v).1, .int .i64 (v).2] 52)).alloc (.cells #[.pointer none] 49) := ⟨_, rfl⟩
  have hb0 : Below w.heap.size w V0 := by rw [hV]; exact manyP.below3 _ _ _ _
  have kp : V0.cell? ⟨w.heap.size, 0, none⟩ = some (.pointer p) := by rw [hV]; exact upc (belowTrans (belowAlloc _ (.cells #[.int .i64 (v).1, .int .i64 (v).2] 52)) (belowAlloc _ (.cells #[.pointer none] 49))) (cell_of_one (heap_alloc_new w (.cells #[.pointer p] 49)))
  have hk1 : V0.heap[w.heap.size + 1 + 1]? = some (.cells #[.pointer none] 49 (0, 0)) := by
    rw [hV]
    have h := heapNew2 (w.alloc (.cells #[.pointer p] 49)) (.cells #[.int .i64 (v).1, .int .i64 (v).2] 52) (.cells #[.pointer none] 49)
    simpa using h
  have kv0 : V0.cell? ⟨w.heap.size + 1, 0, none⟩ = some (.int .i64 (v).1) := by rw [hV]; exact upc (belowAlloc _ _) (manyP.vc0 (heapNew2 w (.cells #[.pointer p] 49) (.cells #[.int .i64 (v).1, .int .i64 (v).2] 52)))
  have kv1 : V0.cell? ⟨w.heap.size + 1, 1, none⟩ = some (.int .i64 (v).2) := by rw [hV]; exact upc (belowAlloc _ _) (manyP.vc1 (heapNew2 w (.cells #[.pointer p] 49) (.cells #[.int .i64 (v).1, .int .i64 (v).2] 52)))
  have HB := Lib.hid (szle hb0 hB)
  have Hh := Lib.hid (h.up hb0)
  have K1 := Lib.hid hk1
  have Hb := Lib.hid hb0
  have HV := Lib.hid hV
  clear hb0 hB h hk1 hV
  go_enter Try.func20, Try.ntmps20
  go_wp2_with fail
  rw [← HV.out]
  refine grow.wp_grow_tail 8 [grow.kEq (.pointer (some ⟨w.heap.size, 0, none⟩)), grow.kEq (.agg #[.pointer p]), grow.kEq (.pointer (some ⟨w.heap.size, 0, none⟩)), grow.kEq (.agg #[.pointer p]), grow.kEq (.int .i64 (t.size : Nat)), grow.kEq (.agg #[.int .i64 (v).1, .int .i64 (v).2]), kTM B (Is (t.inorder ++ [v]) (t.size + 1)), kTM B (Is (t.inorder ++ [v]) (t.size + 1))] (of_decide_eq_true (by kernel_rfl)) (by kernel_rfl) (by kernel_rfl) (by kernel_rfl) (by kernel_rfl) (by kernel_rfl) ?step ?fin
  case step =>
    refine grow.EachT.cons ?_ ?_
    · intro A W hB hs hJ K hK
      have s0 := hs 2 (by kernel_rfl)
      simp at s0
      rw [if_pos (by rfl)]
      clear hs hJ
      go_simp
      exact hK _ _ (Below.refl _ _) rfl
    refine grow.EachT.cons ?_ ?_
    · intro A W hB hs hJ K hK
      have s0 : A.tmps.getD 5 undef = .pointer (some ⟨w.heap.size, 0, none⟩) := hJ 0 5 (by kernel_rfl) (by kernel_rfl)
      simp at s0
      have kk := upc hB kp
      rw [if_pos (by rfl)]
      clear hs hJ
      go_simp
      exact hK _ _ (Below.refl _ _) rfl
    refine grow.EachT.cons ?_ ?_
    · intro A W hB hs hJ K hK
      have s0 := hs 2 (by kernel_rfl)
      simp at s0
      rw [if_pos (by rfl)]
      clear hs hJ
      go_simp
      exact hK _ _ (Below.refl _ _) rfl
    refine grow.EachT.cons ?_ ?_
    · intro A W hB hs hJ K hK
      have s0 : A.tmps.getD 7 undef = .pointer (some ⟨w.heap.size, 0, none⟩) := hJ 2 7 (by kernel_rfl) (by kernel_rfl)
      simp at s0
      have kk := upc hB kp
      rw [if_pos (by rfl)]
      clear hs hJ
      go_simp
      exact hK _ _ (Below.refl _ _) rfl
    refine grow.EachT.cons ?_ ?_
    · intro A W hB hs hJ K hK
      have s0 : A.tmps.getD 8 undef = .agg #[.pointer p] := hJ 3 8 (by kernel_rfl) (by kernel_rfl)
      simp at s0
      rw [if_pos (by rfl)]
      clear hs hJ
      go_simp
      go_at_call 50
      refine (manyP.Len_any B W p t (Hh.out.up hB)).mono ?_
      rintro e W2 ⟨rfl, hbn⟩
      exact hK _ _ hbn rfl
    refine grow.EachT.cons ?_ ?_
    · intro A W hB hs hJ K hK
      have s0 := hs 3 (by kernel_rfl)
      simp at s0
      have kk0 := upc hB kv0
      have kk1 := upc hB kv1
      rw [if_pos (by rfl)]
      clear hs hJ
      go_simp
      exact hK _ _ (Below.refl _ _) rfl
    refine grow.EachT.cons ?_ ?_
    · intro A W hB hs hJ K hK
      have s0 : A.tmps.getD 6 undef = .agg #[.pointer p] := hJ 1 6 (by kernel_rfl) (by kernel_rfl)
      simp at s0
      have s1 : A.tmps.getD 9 undef = .int .i64 (t.size : Nat) := hJ 4 9 (by kernel_rfl) (by kernel_rfl)
      simp at s1
      have s2 : A.tmps.getD 10 undef = .agg #[.int .i64 (v).1, .int .i64 (v).2] := hJ 5 10 (by kernel_rfl) (by kernel_rfl)
      simp at s2
      rw [if_pos (by rfl)]
      clear hs hJ
      go_simp
      go_at_call 49
      refine (manyP.Insert_any B W p t (t.size : Nat) v (szle hB HB.out) (Hh.out.up hB) (by omega) (Int.le_refl _) hs).mono ?_
      rintro e W2 ⟨q, u, rfl, i3, j3, hbn⟩
      exact hK _ _ hbn ⟨q, u, rfl, i3.of (by simp [take_size, drop_size]) rfl, j3⟩
    refine grow.EachT.cons ?_ ?_
    · intro A W hB hs hJ K hK
      obtain ⟨q, u, s0, i3, j3⟩ := hJ 6 11 (by kernel_rfl) (by kernel_rfl)
      simp at s0
      rw [if_pos (by rfl)]
      clear hs hJ
      go_simp
      exact hK _ _ (Below.refl _ _) ⟨q, u, rfl, i3, j3⟩
    exact grow.EachT.nil
  case fin =>
    intro f W hB hF
    have f0 : f 0 = .pointer (some ⟨w.heap.size, 0, none⟩) := hF 0 (by decide)
    have f1 : f 1 = .agg #[.pointer p] := hF 1 (by decide)
    have f2 : f 2 = .pointer (some ⟨w.heap.size, 0, none⟩) := hF 2 (by decide)
    have f3 : f 3 = .agg #[.pointer p] := hF 3 (by decide)
    have f4 : f 4 = .int .i64 (t.size : Nat) := hF 4 (by decide)
    have f5 : f 5 = .agg #[.int .i64 (v).1, .int .i64 (v).2] := hF 5 (by decide)
    obtain ⟨q_6, u_6, f6, i3_6, j3_6⟩ := hF 6 (by decide)
    obtain ⟨q_7, u_7, f7, i3_7, j3_7⟩ := hF 7 (by decide)
    clear hF
    intro A hA
    simp only [grow.puts, Act.put, List.getElem?_toArray, List.getElem?_cons_zero, List.getElem?_cons_succ, Option.bind_some, List.setIfInBounds_toArray, List.set_cons_zero, List.set_cons_succ, f0, f1, f2, f3, f4, f5, f6, f7] at hA
    subst hA
    simp only [List.drop_succ_cons, List.drop_zero]
    have hk2 := upb hB K1.out
    have c1 := cell_of_one hk2
    have f1 := free_of_one hk2
    have I3 := Lib.hid i3_7
    have J3 := Lib.hid j3_7
    have K2 := Lib.hid hk2
    have Hb2 := Lib.hid (belowTrans Hb.out hB)
    clear hk2 hB
    go_wp2_with fail
    have hr1 := one_setCell (u := .pointer q_7) K2.out
    have e1 := cell_of_one hr1
    exact bodyPost_ret (v := .agg #[.pointer q_7]) (by simp [results, Try.results20, go_sem, e1]) rfl ⟨q_7, u_7, rfl, I3.out, manyP.Holds.store1 J3.out K2.out (by decide), Hb2.out.setCell (p := ⟨w.heap.size + 1 + 1, 0, none⟩) (by show w.heap.size ≤ w.heap.size + 1 + 1; omega) _⟩

def tyOf (W : World) (b n ty : Nat) : Prop := ∃ c, W.heap[b]? = some (.cells c ty (0, 0)) ∧ c.size = n
theorem szleS {S : List Nat} {B : Nat} {w w' : World} (h : grow.BelowS S w w') (hB : B ≤ w.heap.size) : B ≤ w'.heap.size := Nat.le_trans hB h.size
theorem typS {S : List Nat} {w w' : World} {b ty : Nat} {c : Array Value} (h : grow.BelowS S w w') (hb : w.heap[b]? = some (.cells c ty (0, 0))) : tyOf w' b c.size ty := by
  obtain ⟨c', h1, h2⟩ := h.typ _ _ _ _ hb
  exact ⟨c', h1, h2⟩
theorem tyOf.upS {S : List Nat} {w w' : World} {b n ty : Nat} (h : tyOf w b n ty) (hb : grow.BelowS S w w') : tyOf w' b n ty := by
  obtain ⟨c, h1, h2⟩ := h
  obtain ⟨c', h3, h4⟩ := hb.typ _ _ _ _ h1
  exact ⟨c', h3, h4.trans h2⟩
def kTMS (B b1 b2 : Nat) (Q : BT V → Prop) : grow.Kept := ⟨fun v W => ∃ q t, v = .agg #[.pointer q] ∧ Q t ∧ In B W q t ∧ tyOf W b1 2 52 ∧ tyOf W b2 1 49, fun _ _ _ hb ⟨q, t, h1, h2, h3, h4, h5⟩ => ⟨q, t, h1, h2, h3.up hb, h4.upS (S := []) (.of hb), h5.upS (S := []) (.of hb)⟩⟩
def kStS (B b1 b2 : Nat) (Q : BT V → Prop) : grow.Kept := ⟨fun _ W => ∃ q t, W.heap[b2]? = some (.cells #[.pointer q] 49 (0, 0)) ∧ Q t ∧ In B W q t ∧ tyOf W b1 2 52, fun _ _ _ hb ⟨q, t, h1, h2, h3, h4⟩ => ⟨q, t, upb hb h1, h2, h3.up hb, h4.upS (S := []) (.of hb)⟩⟩
theorem in_upS {B b b1 b2 : Nat} {w w' : World} {p : Option Addr} {t : BT V} (h : In B w p t) (hb : b = b1 ∨ b = b2) (h1 : tyOf w b1 2 52) (h2 : tyOf w b2 1 49) (hw : grow.BelowS [b] w w') : In B w' p t :=
  manyP.InUpS h (fun x hx => by
    simp at hx
    subst hx
    rcases hb with rfl | rfl
    · obtain ⟨c, hc, _⟩ := h1; exact ⟨c, _, _, hc, by decide⟩
    · obtain ⟨c, hc, _⟩ := h2; exact ⟨c, _, _, hc, by decide⟩) hw
theorem kTMS_flat {B b b1 b2 : Nat} {Q : BT V → Prop} (hb : b = b1 ∨ b = b2) {v : Value} {W W' : World} (hw : grow.BelowS [b] W W') (h : (kTMS B b1 b2 Q).q v W) : (kTMS B b1 b2 Q).q v W' := by
  change ∃ q t, v = .agg #[.pointer q] ∧ Q t ∧ In B W q t ∧ tyOf W b1 2 52 ∧ tyOf W b2 1 49 at h
  obtain ⟨q, t, h1, h2, h3, h4, h5⟩ := h
  exact ⟨q, t, h1, h2, in_upS h3 hb h4 h5 hw, h4.upS hw, h5.upS hw⟩
theorem kStS_flat {B b b1 b2 : Nat} {Q : BT V → Prop} (hb : b = b1) (hne : b1 ≠ b2) {v : Value} {W W' : World} (hw : grow.BelowS [b] W W') (h : (kStS B b1 b2 Q).q v W) : (kStS B b1 b2 Q).q v W' := by
  change ∃ q t, W.heap[b2]? = some (.cells #[.pointer q] 49 (0, 0)) ∧ Q t ∧ In B W q t ∧ tyOf W b1 2 52 at h
  obtain ⟨q, t, h1, h2, h3, h4⟩ := h
  exact ⟨q, t, hw.up (by simp; omega) h1, h2, in_upS (b1 := b1) (b2 := b2) h3 (.inl hb) h4 ⟨_, h1, rfl⟩ hw, h4.upS hw⟩

theorem two_of {b1 b2 j b : Nat} (h : ([none, none, none, none, none, none, none, none, none, none, none, some b1, some b2, none] : List (Option Nat)).getD j none = some b) : (j = 11 ∧ b = b1) ∨ (j = 12 ∧ b = b2) := by
  match j, h with
  | 0, h | 1, h | 2, h | 3, h | 4, h | 5, h | 6, h | 7, h | 8, h | 9, h | 10, h | 13, h => simp at h
  | 11, h => exact .inl ⟨rfl, by simpa using h.symm⟩
  | 12, h => exact .inr ⟨rfl, by simpa using h.symm⟩
  | j + 14, h => simp at h
set_option maxHeartbeats 1000000 in
theorem Pop_nil (w : World) :
    Calls Try.prog 23 #[.agg #[.pointer none]] w fun e w' => e = .returned (.tuple #[.agg #[.int .i64 0, .int .i64 0], .agg #[.pointer none], .bool false]) ∧ Below w.heap.size w w' := by
  have hb0 := manyP.below3 w (.cells #[.pointer none] 49) (.cells #[.int .i64 0, .int .i64 0] 52) (.cells #[.pointer none] 49)
  have HL := Lib.hid (Len_any 0 _ none .nil (show In 0 (((w.alloc (.cells #[.pointer none] 49)).alloc (.cells #[.int .i64 0, .int .i64 0] 52)).alloc (.cells #[.pointer none] 49)) none .nil from rfl))
  have Hb0 := Lib.hid hb0
  clear hb0
  go_enter Try.func23, Try.ntmps23
  go_wp2_with fail
  refine HL.out.mono ?_
  rintro e w1 ⟨rfl, hb1⟩
  have h1 := upb hb1 (upb (belowAlloc _ (.cells #[.pointer none] 49)) (heapNew2 w (.cells #[.pointer none] 49) (.cells #[.int .i64 0, .int .i64 0] 52)))
  have h2 := upb hb1 (heapNew2 (w.alloc (.cells #[.pointer none] 49)) (.cells #[.int .i64 0, .int .i64 0] 52) (.cells #[.pointer none] 49))
  rw [World.size_alloc] at h2
  have k0 := manyP.bc0 h1; have k1 := manyP.bc1 h1; have f0 := manyP.bf (o := 0) h1; have f1 := manyP.bf (o := 1) h1
  have k2 := cell_of_one h2; have f2 := free_of_one h2
  have H1 := Lib.hid h1
  have H2 := Lib.hid h2
  have Hb1 := Lib.hid (belowTrans Hb0.out hb1)
  clear hb1 h1 h2 HL Hb0
  go_wp2_with fail
  have g1 := manyP.bset (x0 := .int .i64 0) (x1 := .int .i64 0) H1.out
  have g2 : ((w1.setCell ⟨w.heap.size + 1, 0, none⟩ (.int .i64 0)).setCell ⟨w.heap.size + 1, 1, none⟩ (.int .i64 0)).heap[w.heap.size + 1 + 1]? = some (.cells #[.pointer none] 49 (0, 0)) := (Below.heap_setCell _ _ _ _ (by simp)).trans ((Below.heap_setCell _ _ _ _ (by simp)).trans H2.out)
  have g3 := one_setCell (u := .pointer none) g2
  have g4 := (Below.heap_setCell ((w1.setCell ⟨w.heap.size + 1, 0, none⟩ (.int .i64 0)).setCell ⟨w.heap.size + 1, 1, none⟩ (.int .i64 0)) ⟨w.heap.size + 1 + 1, 0, none⟩ (.pointer none) (w.heap.size + 1) (by simp)).trans g1
  have e0 := manyP.bc0 g4; have e1 := manyP.bc1 g4; have e2 := cell_of_one g3
  exact bodyPost_ret (v := .tuple #[.agg #[.int .i64 0, .int .i64 0], .agg #[.pointer none], .bool false]) (by simp [results, Try.results23, go_sem, e0, e1, e2]) rfl ⟨rfl, belowSet (a := ⟨w.heap.size + 1 + 1, 0, none⟩) (manyP.belowSetS Hb1.out (Nat.le_succ _) _ _) (by show w.heap.size ≤ w.heap.size + 1 + 1; omega) _⟩

set_option maxRecDepth 100000 in
set_option maxHeartbeats 4000000 in
theorem Pop_some (B : Nat) (w : World) (p : Option Addr) (t : BT V) (hB : B ≤ w.heap.size) (h : In B w p t) (h0 : 0 < t.size) (hs : t.size ≤ 1152921504606810000) :
    Calls Try.prog 23 #[.agg #[.pointer p]] w fun e w' => ∃ (v : V) (q : Option Addr) (u : BT V), e = .returned (.tuple #[.agg #[.int .i64 (v).1, .int .i64 (v).2], .agg #[.pointer q], .bool true]) ∧ u.size = t.size - 1 ∧ In B w' q u ∧ Below w.heap.size w w' := by
  have hb0 := manyP.below3 w (.cells #[.pointer p] 49) (.cells #[.int .i64 0, .int .i64 0] 52) (.cells #[.pointer none] 49)
  have HL := Lib.hid (Len_any B _ p t (h.up hb0))
  have Hh := Lib.hid (h.up hb0)
  have HB := Lib.hid (szle hb0 hB)
  have Hb0 := Lib.hid hb0
  have kp := upc (belowTrans (belowAlloc _ (.cells #[.int .i64 0, .int .i64 0] 52)) (belowAlloc _ (.cells #[.pointer none] 49))) (cell_of_one (heap_alloc_new w (.cells #[.pointer p] 49)))
  clear hb0 hB h
  obtain ⟨i, hi⟩ : ∃ i, i = findT (q_first ((sm t).getD 0)) none t := ⟨_, rfl⟩
  have hil : i < t.size := by rw [hi]; exact first_lt h0
  have hc : ((t.size : Nat) : Int) ≠ 0 := by omega
  go_enter Try.func23, Try.ntmps23
  go_wp2_with fail
  refine HL.out.mono ?_
  rintro e w1 ⟨rfl, hb1⟩
  have h1 := upb hb1 (upb (belowAlloc _ (.cells #[.pointer none] 49)) (heapNew2 w (.cells #[.pointer p] 49) (.cells #[.int .i64 0, .int .i64 0] 52)))
  have h2 := upb hb1 (heapNew2 (w.alloc (.cells #[.pointer p] 49)) (.cells #[.int .i64 0, .int .i64 0] 52) (.cells #[.pointer none] 49))
  rw [World.size_alloc] at h2
  replace kp := upc hb1 kp
  have HF := Lib.hid (first_any B w1 p t (szle hb1 HB.out) (Hh.out.up hb1) (by omega))
  rw [← hi] at HF
  replace Hh := Lib.hid (Hh.out.up hb1)
  replace HB := Lib.hid (szle hb1 HB.out)
  have K1 := Lib.hid h1
  have K2 := Lib.hid h2
  have Hb := Lib.hid (belowTrans Hb0.out hb1)
  clear hb1 h1 h2 HL Hb0 hi
  have hcb : (((t.size : Nat) : Int) == 0) = false := by simpa using hc
  go_wp2_with fail
  refine HF.out.mono ?_
  rintro e w2 ⟨rfl, hb2⟩
  replace kp := upc hb2 kp
  replace Hh := Lib.hid (Hh.out.up hb2)
  replace HB := Lib.hid (szle hb2 HB.out)
  replace K1 := Lib.hid (upb hb2 K1.out)
  replace K2 := Lib.hid (upb hb2 K2.out)
  replace Hb := Lib.hid (belowTrans Hb.out hb2)
  obtain ⟨v, hv⟩ : ∃ v, t.inorder[i]? = some v := ⟨_, List.getElem?_eq_getElem (by rw [BT.length_inorder]; exact hil)⟩
  have Hv := Lib.hid hv
  have hS2 : Hid (∀ b ∈ [w.heap.size + 1, w.heap.size + 1 + 1], ∃ c ty fz, w2.heap[b]? = some (.cells c ty fz) ∧ ty ≠ 148) := Lib.hid (fun b hb => by
    simp at hb
    rcases hb with rfl | rfl
    · exact ⟨_, _, _, K1.out, by decide⟩
    · exact ⟨_, _, _, K2.out, by decide⟩)
  clear hb2 HF hv hcb
  go_wp2_with fail
  refine grow.wp_grow_dag [w.heap.size + 1, w.heap.size + 1 + 1] [grow.kEq (.pointer (some ⟨w.heap.size, 0, none⟩)), grow.kEq (.agg #[.pointer p]), grow.kEq (.int .i64 (i : Nat)), grow.kEq (.agg #[.int .i64 (v).1, .int .i64 (v).2]), grow.kEq (.pointer (some ⟨w.heap.size, 0, none⟩)), grow.kEq (.agg #[.pointer p]), grow.kEq (.int .i64 (i : Nat)), grow.kEq (.int .i64 (i : Nat)), grow.kEq (.int .i64 ((i + 1 : Nat) : Int)), kTMS B (w.heap.size + 1) (w.heap.size + 1 + 1) (fun u => u.size = t.size - 1), kTMS B (w.heap.size + 1) (w.heap.size + 1 + 1) (fun u => u.size = t.size - 1), grow.kHeap (w.heap.size + 1) (.cells #[.int .i64 (v).1, .int .i64 (v).2] 52), kStS B (w.heap.size + 1) (w.heap.size + 1 + 1) (fun u => u.size = t.size - 1), grow.kEq (.bool true)] [none, none, none, none, none, none, none, none, none, none, none, some (w.heap.size + 1), some (w.heap.size + 1 + 1), none] (grow.sps_of (by simp)) (by kernel_rfl) (by kernel_rfl) (by kernel_rfl) (by kernel_rfl) ?monoS ?step ?fin
  case monoS =>
    refine grow.monoS_of ?_
    intro i hi j b hne hsj
    match i, hi with
    | 0, _ => exact fun _ _ _ _ h => h
    | 1, _ => exact fun _ _ _ _ h => h
    | 2, _ => exact fun _ _ _ _ h => h
    | 3, _ => exact fun _ _ _ _ h => h
    | 4, _ => exact fun _ _ _ _ h => h
    | 5, _ => exact fun _ _ _ _ h => h
    | 6, _ => exact fun _ _ _ _ h => h
    | 7, _ => exact fun _ _ _ _ h => h
    | 8, _ => exact fun _ _ _ _ h => h
    | 9, _ => exact fun _ _ _ hb h => kTMS_flat (by rcases two_of hsj with ⟨_, e⟩ | ⟨_, e⟩; exact .inl e; exact .inr e) hb h
    | 10, _ => exact fun _ _ _ hb h => kTMS_flat (by rcases two_of hsj with ⟨_, e⟩ | ⟨_, e⟩; exact .inl e; exact .inr e) hb h
    | 11, _ => exact fun _ _ _ hb h => hb.up (by rcases two_of hsj with ⟨e1, _⟩ | ⟨_, e⟩; exact absurd e1 hne; simp [e]) h
    | 12, _ => exact fun _ _ _ hb h => kStS_flat (by have e := two_of hsj; rcases e with ⟨_, e⟩ | ⟨e1, _⟩; exact e; exact absurd e1 hne) (by omega) hb h
    | 13, _ => exact fun _ _ _ _ h => h
    | i + 14, hi => simp at hi; omega
  case step =>
    refine grow.EachD.cons ?_ ?_
    · intro A W hB hs hJ K hK
      have s0 := hs 1 (by kernel_rfl)
      simp at s0
      rw [if_pos (by rfl)]
      clear hs hJ
      go_simp
      exact hK _ _ (Below.refl _ _) rfl
    refine grow.EachD.cons ?_ ?_
    · intro A W hB hs hJ K hK
      have s0 : A.tmps.getD 13 undef = .pointer (some ⟨w.heap.size, 0, none⟩) := hJ 0 13 (by kernel_rfl) (by kernel_rfl)
      simp at s0
      have kk := hB.upc (by simp; try omega) kp
      rw [if_pos (by rfl)]
      clear hs hJ
      go_simp
      exact hK _ _ (Below.refl _ _) rfl
    refine grow.EachD.cons ?_ ?_
    · intro A W hB hs hJ K hK
      have s0 := hs 5 (by kernel_rfl)
      simp at s0
      rw [if_pos (by rfl)]
      clear hs hJ
      go_simp
      exact hK _ _ (Below.refl _ _) rfl
    refine grow.EachD.cons ?_ ?_
    · intro A W hB hs hJ K hK
      have s0 : A.tmps.getD 14 undef = .agg #[.pointer p] := hJ 1 14 (by kernel_rfl) (by kernel_rfl)
      simp at s0
      have s1 : A.tmps.getD 15 undef = .int .i64 (i : Nat) := hJ 2 15 (by kernel_rfl) (by kernel_rfl)
      simp at s1
      rw [if_pos (by rfl)]
      clear hs hJ
      go_simp
      go_at_call 53
      refine (manyP.At_any B W p t i v (szleS hB HB.out) (manyP.InUpS Hh.out hS2.out hB) Hv.out (by omega)).mono ?_
      rintro e W2 ⟨rfl, hbn⟩
      exact hK _ _ hbn rfl
    refine grow.EachD.cons ?_ ?_
    · intro A W hB hs hJ K hK
      have s0 := hs 1 (by kernel_rfl)
      simp at s0
      rw [if_pos (by rfl)]
      clear hs hJ
      go_simp
      exact hK _ _ (Below.refl _ _) rfl
    refine grow.EachD.cons ?_ ?_
    · intro A W hB hs hJ K hK
      have s0 : A.tmps.getD 17 undef = .pointer (some ⟨w.heap.size, 0, none⟩) := hJ 4 17 (by kernel_rfl) (by kernel_rfl)
      simp at s0
      have kk := hB.upc (by simp; try omega) kp
      rw [if_pos (by rfl)]
      clear hs hJ
      go_simp
      exact hK _ _ (Below.refl _ _) rfl
    refine grow.EachD.cons ?_ ?_
    · intro A W hB hs hJ K hK
      have s0 := hs 5 (by kernel_rfl)
      simp at s0
      rw [if_pos (by rfl)]
      clear hs hJ
      go_simp
      exact hK _ _ (Below.refl _ _) rfl
    refine grow.EachD.cons ?_ ?_
    · intro A W hB hs hJ K hK
      have s0 := hs 5 (by kernel_rfl)
      simp at s0
      rw [if_pos (by rfl)]
      clear hs hJ
      go_simp
      exact hK _ _ (Below.refl _ _) rfl
    refine grow.EachD.cons ?_ ?_
    · intro A W hB hs hJ K hK
      have s0 : A.tmps.getD 20 undef = .int .i64 (i : Nat) := hJ 7 20 (by kernel_rfl) (by kernel_rfl)
      simp at s0
      have hw : IntKind.i64.wrap ((i : Nat) + 1 : Int) = ((i + 1 : Nat) : Int) := by rw [IntWalk.i64_in _ (by omega)]; omega
      rw [if_pos (by rfl)]
      clear hs hJ
      go_simp
      exact hK _ _ (Below.refl _ _) rfl
    refine grow.EachD.cons ?_ ?_
    · intro A W hB hs hJ K hK
      have s0 : A.tmps.getD 18 undef = .agg #[.pointer p] := hJ 5 18 (by kernel_rfl) (by kernel_rfl)
      simp at s0
      have s1 : A.tmps.getD 19 undef = .int .i64 (i : Nat) := hJ 6 19 (by kernel_rfl) (by kernel_rfl)
      simp at s1
      have s2 : A.tmps.getD 21 undef = .int .i64 ((i + 1 : Nat) : Int) := hJ 8 21 (by kernel_rfl) (by kernel_rfl)
      simp at s2
      rw [if_pos (by rfl)]
      clear hs hJ
      go_simp
      go_at_call 54
      refine (manyP.Cut_any B W p t i (i + 1) (szleS hB HB.out) (manyP.InUpS Hh.out hS2.out hB) (by omega) (by omega) (by omega)).mono ?_
      rintro e W2 ⟨q, u, rfl, i3, j3, hbn⟩
      exact hK _ _ hbn ⟨q, u, rfl, by have e := i3.2; show u.size = t.size - 1; omega, j3, (typS hB K1.out).upS (S := []) (.of hbn), (typS hB K2.out).upS (S := []) (.of hbn)⟩
    refine grow.EachD.cons ?_ ?_
    · intro A W hB hs hJ K hK
      obtain ⟨q, u, s0, i3, j3, y1, y2⟩ := hJ 9 22 (by kernel_rfl) (by kernel_rfl)
      simp at s0
      rw [if_pos (by rfl)]
      clear hs hJ
      go_simp
      exact hK _ _ (Below.refl _ _) ⟨q, u, rfl, i3, j3, y1, y2⟩
    refine grow.EachD.cons ?_ ?_
    · intro A W hB hs hJ K hK
      have s0 := hs 2 (by kernel_rfl)
      simp at s0
      have s1 : A.tmps.getD 16 undef = .agg #[.int .i64 (v).1, .int .i64 (v).2] := hJ 3 16 (by kernel_rfl) (by kernel_rfl)
      simp at s1
      obtain ⟨c', hc', hcs⟩ := hB.typ _ _ _ _ K1.out
      obtain ⟨u, v', rfl⟩ := grow.size2 (show c'.size = 2 from hcs)
      have k0 := manyP.bc0 hc'; have k1 := manyP.bc1 hc'; have f0 := manyP.bf (o := 0) hc'; have f1 := manyP.bf (o := 1) hc'
      have Hc' := Lib.hid hc'
      clear hc' hcs
      rw [if_pos (by rfl)]
      clear hs hJ
      go_simp
      exact hK undef _ ((grow.BelowS.set _ _ (w.heap.size + 1) 0 (by simp) _).trans (grow.BelowS.set _ _ (w.heap.size + 1) 1 (by simp) _)) (manyP.bset Hc'.out)
    refine grow.EachD.cons ?_ ?_
    · intro A W hB hs hJ K hK
      have s0 := hs 3 (by kernel_rfl)
      simp at s0
      obtain ⟨q, u, s1, i3, j3, y1, y2⟩ := hJ 10 23 (by kernel_rfl) (by kernel_rfl)
      simp at s1
      obtain ⟨c', hc', hcs⟩ := y2
      obtain ⟨u', rfl⟩ := grow.size1 hcs
      have k0 := cell_of_one hc'; have f0 := free_of_one hc'
      have Hc' := Lib.hid hc'
      clear hc' hcs
      rw [if_pos (by rfl)]
      clear hs hJ
      go_simp
      exact hK undef _ (grow.BelowS.set _ _ (w.heap.size + 1 + 1) 0 (by simp) _) ⟨q, u, one_setCell Hc'.out, i3, manyP.Holds.store1 j3 Hc'.out (by decide), y1.upS (grow.BelowS.set [w.heap.size + 1 + 1] _ _ 0 (by simp) _)⟩
    refine grow.EachD.cons ?_ ?_
    · intro A W hB hs hJ K hK
      rw [if_pos (by rfl)]
      clear hs hJ
      go_simp
      exact hK _ _ (Below.refl _ _) rfl
    exact grow.EachD.nil
  case fin =>
    intro f W hB hF
    have f0 : f 0 = .pointer (some ⟨w.heap.size, 0, none⟩) := hF 0 (by decide)
    have f1 : f 1 = .agg #[.pointer p] := hF 1 (by decide)
    have f2 : f 2 = .int .i64 (i : Nat) := hF 2 (by decide)
    have f3 : f 3 = .agg #[.int .i64 (v).1, .int .i64 (v).2] := hF 3 (by decide)
    have f4 : f 4 = .pointer (some ⟨w.heap.size, 0, none⟩) := hF 4 (by decide)
    have f5 : f 5 = .agg #[.pointer p] := hF 5 (by decide)
    have f6 : f 6 = .int .i64 (i : Nat) := hF 6 (by decide)
    have f7 : f 7 = .int .i64 (i : Nat) := hF 7 (by decide)
    have f8 : f 8 = .int .i64 ((i + 1 : Nat) : Int) := hF 8 (by decide)
    obtain ⟨q_9, u_9, f9, i3_9, j3_9, y1_9, y2_9⟩ := hF 9 (by decide)
    obtain ⟨q_10, u_10, f10, i3_10, j3_10, y1_10, y2_10⟩ := hF 10 (by decide)
    have hst11 := hF 11 (by decide)
    have hst12 := hF 12 (by decide)
    have f13 : f 13 = .bool true := hF 13 (by decide)
    clear hF
    intro A hA
    simp only [List.length_cons, List.length_nil, Nat.reduceAdd, grow.puts, Act.put, List.getElem?_toArray, List.getElem?_cons_zero, List.getElem?_cons_succ, Option.bind_some, List.setIfInBounds_toArray, List.set_cons_zero, List.set_cons_succ, f0, f1, f2, f3, f4, f5, f6, f7, f8, f9, f10, f13] at hA
    subst hA
    have hk1 := hst11
    obtain ⟨q, u, hk2, i3, j3, y1⟩ := hst12
    have e0 := manyP.bc0 hk1; have e1 := manyP.bc1 hk1; have e2 := cell_of_one hk2
    have I3 := Lib.hid i3
    have J3 := Lib.hid j3
    have Hb9 : Hid (Below w.heap.size w W) := Lib.hid (Hb.out.trans (hB.below Hb.out.size (fun b hb => by simp at hb; omega)))
    clear hst11 hk1 hk2 i3 j3 y1 hB
    go_wp2_with fail
    exact bodyPost_ret (v := .tuple #[.agg #[.int .i64 (v).1, .int .i64 (v).2], .agg #[.pointer q], .bool true]) (by simp [results, Try.results23, go_sem, e0, e1, e2]) rfl ⟨v, q, u, rfl, I3.out, J3.out, Hb9.out⟩
end Go.Proofs.Ytnigadnjppeckaa.prio
