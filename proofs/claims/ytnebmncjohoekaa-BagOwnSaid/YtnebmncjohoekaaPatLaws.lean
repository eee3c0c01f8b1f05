/- The laws of union, of what both have, of what one has alone. -/
import Derived.Test.YtnebmncjohoekaaPatActs
import Derived.Test.YtnebmncjohoekaaPatN
import Derived.Test.YtnebmncjohoekaaPatMap3
import Derived.Test.YtnebmncjohoekaaGrow
import Derived.Deep.RegionWith
namespace Go.Proofs.Ytnebmncjohoekaa.pat
open Go.RowKit

theorem fillT (l : List (Int × Int)) (k : Nat) (h : k < l.length) : fill none (l.take (k + 1)) = some (oput (fill none (l.take k)) (tk (l.getD k (0, 0)).1) (l.getD k (0, 0)).2) := by
  rw [List.take_succ_eq_append_getElem h, fill_snoc]
  simp [List.getD_eq_getElem?_getD, h]

/-- three maps in three boxes -/
structure Tri (w : World) (G : Nat) (x y z : Option PT) (W : World) (p q r : Option Addr) : Prop where
  bel : Below w.heap.size w W
  g : w.heap.size ≤ G
  b0 : W.heap[G]? = some (.cells #[.pointer p] 25 (0, 0))
  b1 : W.heap[G + 1]? = some (.cells #[.pointer q] 25 (0, 0))
  b2 : W.heap[G + 2]? = some (.cells #[.pointer r] 25 (0, 0))
  h0 : HO w.heap.size W p x
  h1 : HO w.heap.size W q y
  h2 : HO w.heap.size W r z
theorem Tri.up {w : World} {G : Nat} {x y z : Option PT} {W W' : World} {p q r : Option Addr} (h : Tri w G x y z W p q r) (hb : Below W.heap.size W W') : Tri w G x y z W' p q r :=
  ⟨h.bel.trans (hb.mono h.bel.size), h.g, upb hb h.b0, upb hb h.b1, upb hb h.b2, h.h0.up hb, h.h1.up hb, h.h2.up hb⟩
theorem two_setCell_far {w : World} {k j off : Nat} {v : Value} {ob : Obj} (hk : w.heap[j]? = some ob) (hne : k ≠ j) : (w.setCell ⟨k, off, none⟩ v).heap[j]? = some ob := by
  exact (Below.heap_setCell w _ v j (by rintro rfl; exact hne rfl)).trans hk

theorem Tri.set0 {w : World} {G : Nat} {x y z x' : Option PT} {W : World} {p q r p' : Option Addr} (h : Tri w G x y z W p q r) (hp : HO w.heap.size W p' x') : Tri w G x' y z (W.setCell ⟨G, 0, none⟩ (.pointer p')) p' q r :=
  ⟨belowSet (a := ⟨G, 0, none⟩) h.bel (by have := h.g; show w.heap.size ≤ G; omega) _, h.g, one_setCell h.b0, two_setCell_far h.b1 (by omega), two_setCell_far h.b2 (by omega), HO.store (k := G) (off := 0) h.b0 (by decide) hp, HO.store (k := G) (off := 0) h.b0 (by decide) h.h1, HO.store (k := G) (off := 0) h.b0 (by decide) h.h2⟩
theorem Tri.set1 {w : World} {G : Nat} {x y z x' : Option PT} {W : World} {p q r p' : Option Addr} (h : Tri w G x y z W p q r) (hp : HO w.heap.size W p' x') : Tri w G x x' z (W.setCell ⟨G + 1, 0, none⟩ (.pointer p')) p p' r :=
  ⟨belowSet (a := ⟨G + 1, 0, none⟩) h.bel (by have := h.g; show w.heap.size ≤ G + 1; omega) _, h.g, two_setCell_far h.b0 (by omega), one_setCell h.b1, two_setCell_far h.b2 (by omega), HO.store (k := G + 1) (off := 0) h.b1 (by decide) h.h0, HO.store (k := G + 1) (off := 0) h.b1 (by decide) hp, HO.store (k := G + 1) (off := 0) h.b1 (by decide) h.h2⟩
theorem Tri.set2 {w : World} {G : Nat} {x y z x' : Option PT} {W : World} {p q r p' : Option Addr} (h : Tri w G x y z W p q r) (hp : HO w.heap.size W p' x') : Tri w G x y x' (W.setCell ⟨G + 2, 0, none⟩ (.pointer p')) p q p' :=
  ⟨belowSet (a := ⟨G + 2, 0, none⟩) h.bel (by have := h.g; show w.heap.size ≤ G + 2; omega) _, h.g, two_setCell_far h.b0 (by omega), two_setCell_far h.b1 (by omega), one_setCell h.b2, HO.store (k := G + 2) (off := 0) h.b2 (by decide) h.h0, HO.store (k := G + 2) (off := 0) h.b2 (by decide) h.h1, HO.store (k := G + 2) (off := 0) h.b2 (by decide) hp⟩

theorem filled_cnt (l : List (Int × Int)) (j : Nat) : ocnt (fill none (l.take j)) ≤ j := by
  have h := fill_cnt (l.take j) none
  rw [List.length_take] at h
  have e : ocnt none = 0 := rfl
  omega
/-- pairs that are read -/
structure Row (w : World) (a : Option Addr) (n : Nat) (l : List (Int × Int)) : Prop where
  r : ReadsP w a l
  len : l.length = n
  i : ∀ p ∈ l, I64 p.1
  le : n ≤ 1048576
/-- three maps, none of them great -/
structure Abc (x y z : Option PT) : Prop where
  o0 : OOk x
  o1 : OOk y
  o2 : OOk z
  c0 : ocnt x ≤ 1048576
  c1 : ocnt y ≤ 1048576
  c2 : ocnt z ≤ 1048576
theorem assoc_told {x y z : Option PT} (hx : OOk x) (hy : OOk y) (hz : OOk z) : told (ounion (ounion x y) z) = told (ounion x (ounion y z)) := by
  obtain ⟨o1, h1⟩ := ounion_spec hx hy
  obtain ⟨o2, h2⟩ := ounion_spec hy hz
  obtain ⟨o3, h3⟩ := ounion_spec o1 hz
  obtain ⟨o4, h4⟩ := ounion_spec hx o2
  exact told_ext o3 o4 (fun j => by rw [h3, h4, h1, h2, Option.or_assoc])
theorem split_told {x y : Option PT} (hx : OOk x) : told (ounion (osifted y true x) (osifted y false x)) = told x := by
  obtain ⟨o1, h1⟩ := osifted_spec (x := x) (y := y) true hx
  obtain ⟨o2, h2⟩ := osifted_spec (x := x) (y := y) false hx
  obtain ⟨o3, h3⟩ := ounion_spec o1 o2
  exact told_ext o3 hx (fun j => by
    rw [h3, h1, h2]
    cases oget y j <;> cases lk (olist x) j <;> simp)
theorem idem_told {x : Option PT} (hx : OOk x) : told (ounion x x) = told x := by
  obtain ⟨o3, h3⟩ := ounion_spec hx hx
  exact told_ext o3 hx (fun j => by rw [h3]; cases lk (olist x) j <;> rfl)
def T3 (w : World) (G : Nat) (x y z : Option PT) (W : World) : Prop := ∃ p q r, Tri w G x y z W p q r


/-- all that is known of three maps -/
structure Trio (x y z : Option PT) (xs1 xs2 : List (Int × Int)) (m1 m2 k1 k2 k3 k4 : Nat) : Prop where
  q1 : ocnt x + ocnt y ≤ 1152921504606843999
  q2 : ocnt (ounion x y) + ocnt z ≤ 1152921504606843999
  q3 : ocnt y + ocnt z ≤ 1152921504606843999
  q4 : ocnt x + ocnt (ounion y z) ≤ 1152921504606843999
  q5 : ocnt (osifted y true x) + ocnt (osifted y false x) ≤ 1152921504606843999
  q6 : ocnt x + ocnt x ≤ 1152921504606843999
  o1 : OOk (ounion x y)
  o2 : OOk (ounion (ounion x y) z)
  o3 : OOk (ounion y z)
  o4 : OOk (ounion x (ounion y z))
  o5 : OOk (osifted y true x)
  o6 : OOk (osifted y false x)
  o7 : OOk (ounion (osifted y true x) (osifted y false x))
  o8 : OOk (ounion x x)
  n1 : ocnt (ounion (ounion x y) z) = m1
  n2 : ocnt (ounion x (ounion y z)) = m1
  n3 : ocnt (ounion (osifted y true x) (osifted y false x)) = m2
  n4 : ocnt x = m2
  n5 : ocnt (ounion x x) = m2
  t1 : told (ounion (ounion x y) z) = xs1
  t2 : told (ounion x (ounion y z)) = xs1
  t3 : told (ounion (osifted y true x) (osifted y false x)) = xs2
  t4 : told x = xs2
  t5 : told (ounion x x) = xs2
  b1 : m1 ≤ 8796093022208
  b2 : m2 ≤ 8796093022208
  l1 : xs1.length = m1
  l2 : xs2.length = m2
  e1 : ocnt (ounion x y) = k1
  e2 : ocnt (osifted y true x) = k2
  e3 : ocnt x = k3
  e4 : ocnt y = k4
  b3 : k1 + k2 ≤ 10000000
  b4 : k3 + k4 ≤ 10000000
  s : k1 + k2 = k3 + k4
theorem trio_of {x y z : Option PT} (h : Abc x y z) : ∃ xs1 xs2 m1 m2 k1 k2 k3 k4, Trio x y z xs1 xs2 m1 m2 k1 k2 k3 k4 := by
  obtain ⟨h0, h1, h2, c0, c1, c2⟩ := h
  have a1 := (ounion_spec h0 h1).1
  have a2 := (ounion_spec a1 h2).1
  have a3 := (ounion_spec h1 h2).1
  have a4 := (ounion_spec h0 a3).1
  have a5 := (osifted_spec (x := x) (y := y) true h0).1
  have a6 := (osifted_spec (x := x) (y := y) false h0).1
  have a7 := (ounion_spec a5 a6).1
  have a8 := (ounion_spec h0 h0).1
  have g1 := ocnt_ounion x y
  have g2 := ocnt_ounion (ounion x y) z
  have g3 := ocnt_ounion y z
  have g5 := ocnt_osifted y true x
  have g6 := ocnt_osifted y false x
  have tt := assoc_told h0 h1 h2
  have ts := split_told (y := y) h0
  have ti := idem_told h0
  have ct : ∀ {o o' : Option PT}, told o = told o' → ocnt o = ocnt o' := fun {o o'} e => by
    have := congrArg List.length e
    rwa [told_length, told_length] at this
  have cb := cnt_both_union h0 h1
  exact ⟨told (ounion (ounion x y) z), told x, ocnt (ounion (ounion x y) z), ocnt x, ocnt (ounion x y), ocnt (osifted y true x), ocnt x, ocnt y,
    by omega, by omega, by omega, by omega, by omega, by omega, a1, a2, a3, a4, a5, a6, a7, a8, rfl, (ct tt).symm, ct ts, rfl, ct ti, rfl, tt.symm, ts, rfl, ti, by omega, by omega, told_length _, told_length _, rfl, rfl, rfl, rfl, by omega, by omega, by omega⟩
theorem abc_of {w : World} {a0 a1 a2 : Option Addr} {n0 n1 n2 : Nat} {l m n : List (Int × Int)} (h0 : Row w a0 n0 l) (h1 : Row w a1 n1 m) (h2 : Row w a2 n2 n) : Abc (fill none l) (fill none m) (fill none n) := by
  have f : ∀ {a : Option Addr} {k : Nat} {l : List (Int × Int)}, Row w a k l → ocnt (fill none l) ≤ 1048576 := fun {a k l} h => by
    have h1 := fill_cnt l none
    have e : ocnt none = 0 := rfl
    have := h.len
    have := h.le
    omega
  exact ⟨fill_ok _ _ trivial h0.i, fill_ok _ _ trivial h1.i, fill_ok _ _ trivial h2.i, f h0, f h1, f h2⟩
theorem Len_num (B : Nat) (w : World) (p : Option Addr) (o : Option PT) (k : Nat) (h : HO B w p o) (hk : ocnt o = k) :
    Calls Try.prog 10 #[.agg #[.pointer p]] w fun e w' => e = .returned (.int .i64 (k : Nat)) ∧ Below w.heap.size w w' := by
  subst hk
  exact Len_any B w p o h


set_option maxRecDepth 100000 in
set_option maxHeartbeats 8000000 in
theorem laws (a0 a1 a2 : Option Addr) (c0 c1 c2 n0 n1 n2 : Nat) (l m n : List (Int × Int)) (w : World) (h0 : Row w a0 n0 l) (h1 : Row w a1 n1 m) (h2 : Row w a2 n2 n) :
    Calls Try.prog 7 #[.slice a0 n0 c0, .slice a1 n1 c1, .slice a2 n2 c2] w (Yes w) := by
  have HR0 := Lib.hid h0
  have HR1 := Lib.hid h1
  have HR2 := Lib.hid h2
  clear h0 h1 h2
  go_enter Try.func7, Try.ntmps7
  go_wp2_with fail
  refine (pated_any w).mono ?_
  rintro e w1 ⟨rfl, hb1⟩
  obtain ⟨bx, hbx⟩ : ∃ bx, bx = Obj.cells #[.pointer none] 25 (0, 0) := ⟨_, rfl⟩
  have hI : T3 w w1.heap.size (fill none (l.take 0)) none none (((w1.alloc (.cells #[.pointer none] 25)).alloc (.cells #[.pointer none] 25)).alloc (.cells #[.pointer none] 25)) :=
    ⟨none, none, none, belowTrans hb1 (belowTrans (belowTrans (belowAlloc _ _) (belowAlloc _ _)) (belowAlloc _ _)), hb1.size, upb (belowAlloc _ _) (heapNew1 w1 _ _), upb (belowAlloc _ _) (heapNew2 w1 _ _), (by have h := heap_alloc_new ((w1.alloc (.cells #[.pointer none] 25)).alloc (.cells #[.pointer none] 25)) (.cells #[.pointer none] 25); rw [show ((w1.alloc (.cells #[.pointer none] 25)).alloc (.cells #[.pointer none] 25)).heap.size = w1.heap.size + 2 by simp] at h; exact h), rfl, rfl, rfl⟩
  have HI0 := Lib.hid hI
  clear hI hb1 hbx bx
  go_wp2_with fail
  go_loopw [11] (fun iv wr => ∃ j : Nat, iv = .int .i64 j ∧ j ≤ n0 ∧ Hid (T3 w w1.heap.size (fill none (l.take j)) none none wr)) (fun iv _ => n0 - (intOf iv).toNat)
  case atStart => exact ⟨0, rfl, Nat.zero_le _, HI0⟩
  case round =>
    obtain ⟨j0, rfl, hj0, HF0⟩ := hrel
    obtain ⟨p, q, r, hT⟩ := HF0.out
    have kb := cell_of_one hT.b0
    have j0p : (0 : Int) ≤ (j0 : Int) := by omega
    by_cases hlt : j0 < n0
    · obtain ⟨qa, oa, rfl, k1, k2⟩ := (HR0.out.r.up hT.bel).at (k := j0) (by rw [HR0.out.len]; exact hlt)
      have hok : OOk (fill none (l.take j0)) := fill_ok _ _ trivial (fun p hp => HR0.out.i p (List.mem_of_mem_take hp))
      have hcnt := filled_cnt l j0
      have hle := HR0.out.le
      have hft := fillT l j0 (by rw [HR0.out.len]; exact hlt)
      have hik : I64 (l.getD j0 (0, 0)).1 := HR0.out.i _ (by rw [List.getD_eq_getElem?_getD, List.getElem?_eq_getElem (by rw [HR0.out.len]; exact hlt)]; exact List.getElem_mem _)
      obtain ⟨y, hy⟩ : ∃ y, y = l.getD j0 (0, 0) := ⟨_, rfl⟩
      obtain ⟨y1, y2⟩ := y
      rw [← hy] at k1 k2 hft hik
      dsimp only at k1 k2 hft hik
      have jlt : (j0 : Int) < (n0 : Int) := by omega
      have HC := Lib.hid (fun W (hW : Below wr.heap.size wr W) => Put_any w.heap.size W p (fill none (l.take j0)) y1 y2 (szle hW hT.bel.size) (hT.h0.up hW) hok hik (by omega))
      have HX := Lib.hid (And.intro hT hft)
      clear hy hft hT hok hcnt hik
      go_wp2_with fail
      go_region_with (first | (go_at_call 9; refine (HC.out _ (by exact belowDrew _)).mono ?_; rintro e w3 ⟨p3, rfl, hp3, hb3⟩; replace hb3 := belowTrans (belowDrew _) hb3; have hT3 := HX.out.1.up hb3; have c0 := cell_of_one hT3.b0; have f0 := free_of_one hT3.b0))
      all_goals
        have hF2 : T3 w w1.heap.size (fill none (l.take (j0 + 1))) none none (w3.setCell ⟨w1.heap.size, 0, none⟩ (.pointer p3)) := by rw [HX.out.2]; exact ⟨p3, q, r, hT3.set0 hp3⟩
        have HF2 := Lib.hid hF2
        clear hF2 hp3 hb3 hT3 c0 f0 kb k1 k2
        go_wp2_with fail
        go_roundw
        case rel => exact ⟨j0 + 1, by go_num, hlt, HF2⟩
        case measure => simp [intOf]; omega
    · obtain rfl : j0 = n0 := by omega
      rw [show l.take j0 = l from List.take_of_length_le (by rw [HR0.out.len]; exact Nat.le_refl _)] at hT
      have HI1 : Hid (T3 w w1.heap.size (fill none l) (fill none (m.take 0)) none wr) := Lib.hid ⟨p, q, r, hT⟩
      clear hT kb HF0 hlt
      go_wp2_with fail
      go_loopw [12] (fun iv wr => ∃ j : Nat, iv = .int .i64 j ∧ j ≤ n1 ∧ Hid (T3 w w1.heap.size (fill none l) (fill none (m.take j)) none wr)) (fun iv _ => n1 - (intOf iv).toNat)
      case atStart => exact ⟨0, rfl, Nat.zero_le _, HI1⟩
      case round =>
        obtain ⟨j1, rfl, hj1, HF1⟩ := hrel
        obtain ⟨p, q, r, hT⟩ := HF1.out
        have kb := cell_of_one hT.b1
        have j1p : (0 : Int) ≤ (j1 : Int) := by omega
        by_cases hlt : j1 < n1
        · obtain ⟨qa, oa, rfl, k1, k2⟩ := (HR1.out.r.up hT.bel).at (k := j1) (by rw [HR1.out.len]; exact hlt)
          have hok : OOk (fill none (m.take j1)) := fill_ok _ _ trivial (fun p hp => HR1.out.i p (List.mem_of_mem_take hp))
          have hcnt := filled_cnt m j1
          have hle := HR1.out.le
          have hft := fillT m j1 (by rw [HR1.out.len]; exact hlt)
          have hik : I64 (m.getD j1 (0, 0)).1 := HR1.out.i _ (by rw [List.getD_eq_getElem?_getD, List.getElem?_eq_getElem (by rw [HR1.out.len]; exact hlt)]; exact List.getElem_mem _)
          obtain ⟨y, hy⟩ : ∃ y, y = m.getD j1 (0, 0) := ⟨_, rfl⟩
          obtain ⟨y1, y2⟩ := y
          rw [← hy] at k1 k2 hft hik
          dsimp only at k1 k2 hft hik
          have jlt : (j1 : Int) < (n1 : Int) := by omega
          have HC := Lib.hid (fun W (hW : Below wr.heap.size wr W) => Put_any w.heap.size W q (fill none (m.take j1)) y1 y2 (szle hW hT.bel.size) (hT.h1.up hW) hok hik (by omega))
          have HX := Lib.hid (And.intro hT hft)
          clear hy hft hT hok hcnt hik
          go_wp2_with fail
          go_region_with (first | (go_at_call 9; refine (HC.out _ (by exact belowDrew _)).mono ?_; rintro e w3 ⟨p3, rfl, hp3, hb3⟩; replace hb3 := belowTrans (belowDrew _) hb3; have hT3 := HX.out.1.up hb3; have c0 := cell_of_one hT3.b1; have f0 := free_of_one hT3.b1))
          all_goals
            have hF2 : T3 w w1.heap.size (fill none l) (fill none (m.take (j1 + 1))) none (w3.setCell ⟨w1.heap.size + 1, 0, none⟩ (.pointer p3)) := by rw [HX.out.2]; exact ⟨p, p3, r, hT3.set1 hp3⟩
            have HF2 := Lib.hid hF2
            clear hF2 hp3 hb3 hT3 c0 f0 kb k1 k2
            go_wp2_with fail
            go_roundw
            case rel => exact ⟨j1 + 1, by go_num, hlt, HF2⟩
            case measure => simp [intOf]; omega
        · obtain rfl : j1 = n1 := by omega
          rw [show m.take j1 = m from List.take_of_length_le (by rw [HR1.out.len]; exact Nat.le_refl _)] at hT
          have HI2 : Hid (T3 w w1.heap.size (fill none l) (fill none m) (fill none (n.take 0)) wr) := Lib.hid ⟨p, q, r, hT⟩
          clear hT kb HF1 hlt
          go_wp2_with fail
          go_loopw [13] (fun iv wr => ∃ j : Nat, iv = .int .i64 j ∧ j ≤ n2 ∧ Hid (T3 w w1.heap.size (fill none l) (fill none m) (fill none (n.take j)) wr)) (fun iv _ => n2 - (intOf iv).toNat)
          case atStart => exact ⟨0, rfl, Nat.zero_le _, HI2⟩
          case round =>
            obtain ⟨j2, rfl, hj2, HF2⟩ := hrel
            obtain ⟨p, q, r, hT⟩ := HF2.out
            have kb := cell_of_one hT.b2
            have j2p : (0 : Int) ≤ (j2 : Int) := by omega
            by_cases hlt : j2 < n2
            · obtain ⟨qa, oa, rfl, k1, k2⟩ := (HR2.out.r.up hT.bel).at (k := j2) (by rw [HR2.out.len]; exact hlt)
              have hok : OOk (fill none (n.take j2)) := fill_ok _ _ trivial (fun p hp => HR2.out.i p (List.mem_of_mem_take hp))
              have hcnt := filled_cnt n j2
              have hle := HR2.out.le
              have hft := fillT n j2 (by rw [HR2.out.len]; exact hlt)
              have hik : I64 (n.getD j2 (0, 0)).1 := HR2.out.i _ (by rw [List.getD_eq_getElem?_getD, List.getElem?_eq_getElem (by rw [HR2.out.len]; exact hlt)]; exact List.getElem_mem _)
              obtain ⟨y, hy⟩ : ∃ y, y = n.getD j2 (0, 0) := ⟨_, rfl⟩
              obtain ⟨y1, y2⟩ := y
              rw [← hy] at k1 k2 hft hik
              dsimp only at k1 k2 hft hik
              have jlt : (j2 : Int) < (n2 : Int) := by omega
              have HC := Lib.hid (fun W (hW : Below wr.heap.size wr W) => Put_any w.heap.size W r (fill none (n.take j2)) y1 y2 (szle hW hT.bel.size) (hT.h2.up hW) hok hik (by omega))
              have HX := Lib.hid (And.intro hT hft)
              clear hy hft hT hok hcnt hik
              go_wp2_with fail
              go_region_with (first | (go_at_call 9; refine (HC.out _ (by exact belowDrew _)).mono ?_; rintro e w3 ⟨p3, rfl, hp3, hb3⟩; replace hb3 := belowTrans (belowDrew _) hb3; have hT3 := HX.out.1.up hb3; have c0 := cell_of_one hT3.b2; have f0 := free_of_one hT3.b2))
              all_goals
                have hF2 : T3 w w1.heap.size (fill none l) (fill none m) (fill none (n.take (j2 + 1))) (w3.setCell ⟨w1.heap.size + 2, 0, none⟩ (.pointer p3)) := by rw [HX.out.2]; exact ⟨p, q, p3, hT3.set2 hp3⟩
                have HF2 := Lib.hid hF2
                clear hF2 hp3 hb3 hT3 c0 f0 kb k1 k2
                go_wp2_with fail
                go_roundw
                case rel => exact ⟨j2 + 1, by go_num, hlt, HF2⟩
                case measure => simp [intOf]; omega
            · obtain rfl : j2 = n2 := by omega
              rw [show n.take j2 = n from List.take_of_length_le (by rw [HR2.out.len]; exact Nat.le_refl _)] at hT
              have HI3 : Hid (T3 w w1.heap.size (fill none l) (fill none m) (fill none n) wr) := Lib.hid ⟨p, q, r, hT⟩
              clear hT kb HF2 hlt
              obtain ⟨x, hx⟩ : ∃ x, x = fill none l := ⟨_, rfl⟩
              obtain ⟨y, hy⟩ : ∃ y, y = fill none m := ⟨_, rfl⟩
              obtain ⟨z, hz⟩ : ∃ z, z = fill none n := ⟨_, rfl⟩
              have ha : Abc x y z := by rw [hx, hy, hz]; exact abc_of HR0.out HR1.out HR2.out
              rw [← hx, ← hy, ← hz] at HI3
              clear hx hy hz
              obtain ⟨xs1, xs2, m1, m2, k1, k2, k3, k4, hTr⟩ := trio_of ha
              have HA := Lib.hid ha
              have HK := Lib.hid hTr
              have hwr1 : IntKind.i64.wrap ((k1 : Int) + (k2 : Int)) = (k1 : Int) + (k2 : Int) := IntWalk.i64_in _ (by have := hTr.b3; omega)
              have hwr2 : IntKind.i64.wrap ((k3 : Int) + (k4 : Int)) = (k3 : Int) + (k4 : Int) := IntWalk.i64_in _ (by have := hTr.b4; omega)
              have heq : ((k1 : Int) + (k2 : Int) == (k3 : Int) + (k4 : Int)) = true := by have := hTr.s; simp; omega
              have Hw1 := Lib.hid hwr1
              have Hw2 := Lib.hid hwr2
              have Heq := Lib.hid heq
              clear ha hTr hwr1 hwr2 heq
              obtain ⟨p, q, r, hT⟩ := HI3.out
              have kx0 := cell_of_one hT.b0
              have kx1 := cell_of_one hT.b1
              have kx2 := cell_of_one hT.b2
              have HT := Lib.hid hT
              clear hT HI3
              go_wp2_with fail
              refine grow.wp_grow [grow.kEq (.agg #[.pointer p]), grow.kEq (.agg #[.pointer q]), kMap w.heap.size (ounion x y), grow.kEq (.agg #[.pointer r]), kMap w.heap.size (ounion (ounion x y) z), kRow m1 xs1, grow.kEq (.agg #[.pointer p]), grow.kEq (.agg #[.pointer q]), grow.kEq (.agg #[.pointer r]), kMap w.heap.size (ounion y z), kMap w.heap.size (ounion x (ounion y z)), kRow m1 xs1, grow.kEq (.bool true), grow.kEq (.bool true)] (by kernel_rfl) (by kernel_rfl) (by kernel_rfl) (by kernel_rfl) ?step ?fin
              case step =>
                clear kx0 kx1 kx2
                refine grow.Each.cons ?_ ?_
                · intro A W hB hs hJ K hK
                  have s0 := hs 8 (by kernel_rfl)
                  simp at s0
                  have kk := upc hB (cell_of_one HT.out.b0)
                  rw [if_pos (by rfl)]
                  clear hs hJ
                  go_simp
                  exact hK _ _ (Below.refl _ _) rfl
                refine grow.Each.cons ?_ ?_
                · intro A W hB hs hJ K hK
                  have s0 := hs 9 (by kernel_rfl)
                  simp at s0
                  have kk := upc hB (cell_of_one HT.out.b1)
                  rw [if_pos (by rfl)]
                  clear hs hJ
                  go_simp
                  exact hK _ _ (Below.refl _ _) rfl
                refine grow.Each.cons ?_ ?_
                · intro A W hB hs hJ K hK
                  have s0 : A.tmps.getD 74 undef = .agg #[.pointer p] := hJ 0 74 (by kernel_rfl) (by kernel_rfl)
                  simp at s0
                  have s1 : A.tmps.getD 75 undef = .agg #[.pointer q] := hJ 1 75 (by kernel_rfl) (by kernel_rfl)
                  simp at s1
                  rw [if_pos (by rfl)]
                  clear hs hJ
                  go_simp
                  go_at_call 20
                  refine (Union_any w.heap.size W p q x y (szle hB HT.out.bel.size) (HT.out.h0.up hB) (HT.out.h1.up hB) HA.out.o0 HA.out.o1 HK.out.q1).mono ?_
                  rintro e W2 ⟨pU, rfl, hpU, hrU⟩
                  exact hK _ _ hrU ⟨pU, rfl, hpU⟩
                refine grow.Each.cons ?_ ?_
                · intro A W hB hs hJ K hK
                  have s0 := hs 10 (by kernel_rfl)
                  simp at s0
                  have kk := upc hB (cell_of_one HT.out.b2)
                  rw [if_pos (by rfl)]
                  clear hs hJ
                  go_simp
                  exact hK _ _ (Below.refl _ _) rfl
                refine grow.Each.cons ?_ ?_
                · intro A W hB hs hJ K hK
                  obtain ⟨pPA, s0, hPA⟩ := hJ 2 76 (by kernel_rfl) (by kernel_rfl)
                  simp at s0
                  have s1 : A.tmps.getD 77 undef = .agg #[.pointer r] := hJ 3 77 (by kernel_rfl) (by kernel_rfl)
                  simp at s1
                  rw [if_pos (by rfl)]
                  clear hs hJ
                  go_simp
                  go_at_call 20
                  refine (Union_any w.heap.size W pPA r (ounion x y) z (szle hB HT.out.bel.size) hPA (HT.out.h2.up hB) HK.out.o1 HA.out.o2 HK.out.q2).mono ?_
                  rintro e W2 ⟨pU, rfl, hpU, hrU⟩
                  exact hK _ _ hrU ⟨pU, rfl, hpU⟩
                refine grow.Each.cons ?_ ?_
                · intro A W hB hs hJ K hK
                  obtain ⟨pPB, s0, hPB⟩ := hJ 4 78 (by kernel_rfl) (by kernel_rfl)
                  simp at s0
                  rw [if_pos (by rfl)]
                  clear hs hJ
                  go_simp
                  go_at_call 12
                  refine (Pairs_num w.heap.size W pPB (ounion (ounion x y) z) m1 hPB HK.out.o2 HK.out.n1 HK.out.b1 xs1 HK.out.t1).mono ?_
                  rintro e W2 ⟨a1, c1, rfl, ho1, hb1⟩
                  exact hK _ _ hb1 ⟨a1, c1, rfl, OwnP.reads ho1⟩
                refine grow.Each.cons ?_ ?_
                · intro A W hB hs hJ K hK
                  have s0 := hs 8 (by kernel_rfl)
                  simp at s0
                  have kk := upc hB (cell_of_one HT.out.b0)
                  rw [if_pos (by rfl)]
                  clear hs hJ
                  go_simp
                  exact hK _ _ (Below.refl _ _) rfl
                refine grow.Each.cons ?_ ?_
                · intro A W hB hs hJ K hK
                  have s0 := hs 9 (by kernel_rfl)
                  simp at s0
                  have kk := upc hB (cell_of_one HT.out.b1)
                  rw [if_pos (by rfl)]
                  clear hs hJ
                  go_simp
                  exact hK _ _ (Below.refl _ _) rfl
                refine grow.Each.cons ?_ ?_
                · intro A W hB hs hJ K hK
                  have s0 := hs 10 (by kernel_rfl)
                  simp at s0
                  have kk := upc hB (cell_of_one HT.out.b2)
                  rw [if_pos (by rfl)]
                  clear hs hJ
                  go_simp
                  exact hK _ _ (Below.refl _ _) rfl
                refine grow.Each.cons ?_ ?_
                · intro A W hB hs hJ K hK
                  have s0 : A.tmps.getD 81 undef = .agg #[.pointer q] := hJ 7 81 (by kernel_rfl) (by kernel_rfl)
                  simp at s0
                  have s1 : A.tmps.getD 82 undef = .agg #[.pointer r] := hJ 8 82 (by kernel_rfl) (by kernel_rfl)
                  simp at s1
                  rw [if_pos (by rfl)]
                  clear hs hJ
                  go_simp
                  go_at_call 20
                  refine (Union_any w.heap.size W q r y z (szle hB HT.out.bel.size) (HT.out.h1.up hB) (HT.out.h2.up hB) HA.out.o1 HA.out.o2 HK.out.q3).mono ?_
                  rintro e W2 ⟨pU, rfl, hpU, hrU⟩
                  exact hK _ _ hrU ⟨pU, rfl, hpU⟩
                refine grow.Each.cons ?_ ?_
                · intro A W hB hs hJ K hK
                  have s0 : A.tmps.getD 80 undef = .agg #[.pointer p] := hJ 6 80 (by kernel_rfl) (by kernel_rfl)
                  simp at s0
                  obtain ⟨pPD, s1, hPD⟩ := hJ 9 83 (by kernel_rfl) (by kernel_rfl)
                  simp at s1
                  rw [if_pos (by rfl)]
                  clear hs hJ
                  go_simp
                  go_at_call 20
                  refine (Union_any w.heap.size W p pPD x (ounion y z) (szle hB HT.out.bel.size) (HT.out.h0.up hB) hPD HA.out.o0 HK.out.o3 HK.out.q4).mono ?_
                  rintro e W2 ⟨pU, rfl, hpU, hrU⟩
                  exact hK _ _ hrU ⟨pU, rfl, hpU⟩
                refine grow.Each.cons ?_ ?_
                · intro A W hB hs hJ K hK
                  obtain ⟨pPE, s0, hPE⟩ := hJ 10 84 (by kernel_rfl) (by kernel_rfl)
                  simp at s0
                  rw [if_pos (by rfl)]
                  clear hs hJ
                  go_simp
                  go_at_call 12
                  refine (Pairs_num w.heap.size W pPE (ounion x (ounion y z)) m1 hPE HK.out.o4 HK.out.n2 HK.out.b1 xs1 HK.out.t2).mono ?_
                  rintro e W2 ⟨a1, c1, rfl, ho1, hb1⟩
                  exact hK _ _ hb1 ⟨a1, c1, rfl, OwnP.reads ho1⟩
                refine grow.Each.cons ?_ ?_
                · intro A W hB hs hJ K hK
                  obtain ⟨aRC, cRC, s0, hRC⟩ := hJ 5 79 (by kernel_rfl) (by kernel_rfl)
                  simp at s0
                  obtain ⟨aRF, cRF, s1, hRF⟩ := hJ 11 85 (by kernel_rfl) (by kernel_rfl)
                  simp at s1
                  rw [if_pos (by rfl)]
                  clear hs hJ
                  go_simp
                  go_at_call 13
                  refine (samePairs_any aRC aRF cRC cRF m1 m1 xs1 xs1 W HK.out.l1 HK.out.l1 hRC hRF (by unfold maxLen; have := HK.out.b1; omega) true (decide_eq_true rfl)).mono ?_
                  rintro e W2 ⟨rfl, qq, hU⟩
                  exact hK _ _ (by rw [hU]; exact belowDrewN _ _) rfl
                refine grow.Each.cons ?_ ?_
                · intro A W hB hs hJ K hK
                  have s0 : A.tmps.getD 86 undef = .bool true := hJ 12 86 (by kernel_rfl) (by kernel_rfl)
                  simp at s0
                  rw [if_pos (by rfl)]
                  clear hs hJ
                  go_simp
                  exact hK _ _ (Below.refl _ _) rfl
                exact grow.Each.nil
              case fin =>
                intro f W hB hF
                have f0 : f 0 = .agg #[.pointer p] := hF 0 (by decide)
                have f1 : f 1 = .agg #[.pointer q] := hF 1 (by decide)
                obtain ⟨pPA_2, f2, -⟩ := hF 2 (by decide)
                have f3 : f 3 = .agg #[.pointer r] := hF 3 (by decide)
                obtain ⟨pPB_4, f4, -⟩ := hF 4 (by decide)
                obtain ⟨aRC_5, cRC_5, f5, -⟩ := hF 5 (by decide)
                have f6 : f 6 = .agg #[.pointer p] := hF 6 (by decide)
                have f7 : f 7 = .agg #[.pointer q] := hF 7 (by decide)
                have f8 : f 8 = .agg #[.pointer r] := hF 8 (by decide)
                obtain ⟨pPD_9, f9, -⟩ := hF 9 (by decide)
                obtain ⟨pPE_10, f10, -⟩ := hF 10 (by decide)
                obtain ⟨aRF_11, cRF_11, f11, -⟩ := hF 11 (by decide)
                have f12 : f 12 = .bool true := hF 12 (by decide)
                have f13 : f 13 = .bool true := hF 13 (by decide)
                clear hF
                generalize hA : grow.puts _ _ f _ = A'
                simp only [List.length_cons, List.length_nil, Nat.reduceAdd, grow.puts, Act.put, List.getElem?_toArray, List.getElem?_cons_zero, List.getElem?_cons_succ, Option.bind_some, List.setIfInBounds_toArray, List.set_cons_zero, List.set_cons_succ, f0, f1, f2, f3, f4, f5, f6, f7, f8, f9, f10, f11, f12, f13] at hA
                subst hA
                have HTn := Lib.hid (HT.out.up hB)
                clear hB HT kx0 kx1 kx2
                obtain ⟨U, hU⟩ : ∃ U, U = W := ⟨_, rfl⟩
                rw [← hU] at HTn ⊢
                clear hU W
                have HT := HTn
                clear HTn
                have kx0 := cell_of_one HT.out.b0
                have kx1 := cell_of_one HT.out.b1
                have kx2 := cell_of_one HT.out.b2
                go_wp2_with fail
                refine grow.wp_grow [grow.kEq (.agg #[.pointer p]), grow.kEq (.agg #[.pointer q]), kMap w.heap.size (osifted y true x), grow.kEq (.agg #[.pointer p]), grow.kEq (.agg #[.pointer q]), kMap w.heap.size (osifted y false x), kMap w.heap.size (ounion (osifted y true x) (osifted y false x)), kRow m2 xs2, grow.kEq (.agg #[.pointer p]), kRow m2 xs2, grow.kEq (.bool true), grow.kEq (.bool true)] (by kernel_rfl) (by kernel_rfl) (by kernel_rfl) (by kernel_rfl) ?step ?fin
                case step =>
                  clear kx0 kx1 kx2
                  refine grow.Each.cons ?_ ?_
                  · intro A W hB hs hJ K hK
                    have s0 := hs 8 (by kernel_rfl)
                    simp at s0
                    have kk := upc hB (cell_of_one HT.out.b0)
                    rw [if_pos (by rfl)]
                    clear hs hJ
                    go_simp
                    exact hK _ _ (Below.refl _ _) rfl
                  refine grow.Each.cons ?_ ?_
                  · intro A W hB hs hJ K hK
                    have s0 := hs 9 (by kernel_rfl)
                    simp at s0
                    have kk := upc hB (cell_of_one HT.out.b1)
                    rw [if_pos (by rfl)]
                    clear hs hJ
                    go_simp
                    exact hK _ _ (Below.refl _ _) rfl
                  refine grow.Each.cons ?_ ?_
                  · intro A W hB hs hJ K hK
                    have s0 : A.tmps.getD 87 undef = .agg #[.pointer p] := hJ 0 87 (by kernel_rfl) (by kernel_rfl)
                    simp at s0
                    have s1 : A.tmps.getD 88 undef = .agg #[.pointer q] := hJ 1 88 (by kernel_rfl) (by kernel_rfl)
                    simp at s1
                    rw [if_pos (by rfl)]
                    clear hs hJ
                    go_simp
                    go_at_call 21
                    refine (Inter_any w.heap.size W p q x y (szle hB HT.out.bel.size) (HT.out.h0.up hB) (HT.out.h1.up hB) HA.out.o0 HA.out.o1 HK.out.q1).mono ?_
                    rintro e W2 ⟨pU, rfl, hpU, hrU⟩
                    exact hK _ _ hrU ⟨pU, rfl, hpU⟩
                  refine grow.Each.cons ?_ ?_
                  · intro A W hB hs hJ K hK
                    have s0 := hs 8 (by kernel_rfl)
                    simp at s0
                    have kk := upc hB (cell_of_one HT.out.b0)
                    rw [if_pos (by rfl)]
                    clear hs hJ
                    go_simp
                    exact hK _ _ (Below.refl _ _) rfl
                  refine grow.Each.cons ?_ ?_
                  · intro A W hB hs hJ K hK
                    have s0 := hs 9 (by kernel_rfl)
                    simp at s0
                    have kk := upc hB (cell_of_one HT.out.b1)
                    rw [if_pos (by rfl)]
                    clear hs hJ
                    go_simp
                    exact hK _ _ (Below.refl _ _) rfl
                  refine grow.Each.cons ?_ ?_
                  · intro A W hB hs hJ K hK
                    have s0 : A.tmps.getD 90 undef = .agg #[.pointer p] := hJ 3 90 (by kernel_rfl) (by kernel_rfl)
                    simp at s0
                    have s1 : A.tmps.getD 91 undef = .agg #[.pointer q] := hJ 4 91 (by kernel_rfl) (by kernel_rfl)
                    simp at s1
                    rw [if_pos (by rfl)]
                    clear hs hJ
                    go_simp
                    go_at_call 22
                    refine (Diff_any w.heap.size W p q x y (szle hB HT.out.bel.size) (HT.out.h0.up hB) (HT.out.h1.up hB) HA.out.o0 HA.out.o1 HK.out.q1).mono ?_
                    rintro e W2 ⟨pU, rfl, hpU, hrU⟩
                    exact hK _ _ hrU ⟨pU, rfl, hpU⟩
                  refine grow.Each.cons ?_ ?_
                  · intro A W hB hs hJ K hK
                    obtain ⟨pPA, s0, hPA⟩ := hJ 2 89 (by kernel_rfl) (by kernel_rfl)
                    simp at s0
                    obtain ⟨pPB, s1, hPB⟩ := hJ 5 92 (by kernel_rfl) (by kernel_rfl)
                    simp at s1
                    rw [if_pos (by rfl)]
                    clear hs hJ
                    go_simp
                    go_at_call 20
                    refine (Union_any w.heap.size W pPA pPB (osifted y true x) (osifted y false x) (szle hB HT.out.bel.size) hPA hPB HK.out.o5 HK.out.o6 HK.out.q5).mono ?_
                    rintro e W2 ⟨pU, rfl, hpU, hrU⟩
                    exact hK _ _ hrU ⟨pU, rfl, hpU⟩
                  refine grow.Each.cons ?_ ?_
                  · intro A W hB hs hJ K hK
                    obtain ⟨pPC, s0, hPC⟩ := hJ 6 93 (by kernel_rfl) (by kernel_rfl)
                    simp at s0
                    rw [if_pos (by rfl)]
                    clear hs hJ
                    go_simp
                    go_at_call 12
                    refine (Pairs_num w.heap.size W pPC (ounion (osifted y true x) (osifted y false x)) m2 hPC HK.out.o7 HK.out.n3 HK.out.b2 xs2 HK.out.t3).mono ?_
                    rintro e W2 ⟨a1, c1, rfl, ho1, hb1⟩
                    exact hK _ _ hb1 ⟨a1, c1, rfl, OwnP.reads ho1⟩
                  refine grow.Each.cons ?_ ?_
                  · intro A W hB hs hJ K hK
                    have s0 := hs 8 (by kernel_rfl)
                    simp at s0
                    have kk := upc hB (cell_of_one HT.out.b0)
                    rw [if_pos (by rfl)]
                    clear hs hJ
                    go_simp
                    exact hK _ _ (Below.refl _ _) rfl
                  refine grow.Each.cons ?_ ?_
                  · intro A W hB hs hJ K hK
                    have s0 : A.tmps.getD 95 undef = .agg #[.pointer p] := hJ 8 95 (by kernel_rfl) (by kernel_rfl)
                    simp at s0
                    rw [if_pos (by rfl)]
                    clear hs hJ
                    go_simp
                    go_at_call 12
                    refine (Pairs_num w.heap.size W p x m2 (HT.out.h0.up hB) HA.out.o0 HK.out.n4 HK.out.b2 xs2 HK.out.t4).mono ?_
                    rintro e W2 ⟨a1, c1, rfl, ho1, hb1⟩
                    exact hK _ _ hb1 ⟨a1, c1, rfl, OwnP.reads ho1⟩
                  refine grow.Each.cons ?_ ?_
                  · intro A W hB hs hJ K hK
                    obtain ⟨aRD, cRD, s0, hRD⟩ := hJ 7 94 (by kernel_rfl) (by kernel_rfl)
                    simp at s0
                    obtain ⟨aRE, cRE, s1, hRE⟩ := hJ 9 96 (by kernel_rfl) (by kernel_rfl)
                    simp at s1
                    rw [if_pos (by rfl)]
                    clear hs hJ
                    go_simp
                    go_at_call 13
                    refine (samePairs_any aRD aRE cRD cRE m2 m2 xs2 xs2 W HK.out.l2 HK.out.l2 hRD hRE (by unfold maxLen; have := HK.out.b2; omega) true (decide_eq_true rfl)).mono ?_
                    rintro e W2 ⟨rfl, qq, hU⟩
                    exact hK _ _ (by rw [hU]; exact belowDrewN _ _) rfl
                  refine grow.Each.cons ?_ ?_
                  · intro A W hB hs hJ K hK
                    have s0 : A.tmps.getD 97 undef = .bool true := hJ 10 97 (by kernel_rfl) (by kernel_rfl)
                    simp at s0
                    rw [if_pos (by rfl)]
                    clear hs hJ
                    go_simp
                    exact hK _ _ (Below.refl _ _) rfl
                  exact grow.Each.nil
                case fin =>
                  intro f W hB hF
                  have f0 : f 0 = .agg #[.pointer p] := hF 0 (by decide)
                  have f1 : f 1 = .agg #[.pointer q] := hF 1 (by decide)
                  obtain ⟨pPA_2, f2, -⟩ := hF 2 (by decide)
                  have f3 : f 3 = .agg #[.pointer p] := hF 3 (by decide)
                  have f4 : f 4 = .agg #[.pointer q] := hF 4 (by decide)
                  obtain ⟨pPB_5, f5, -⟩ := hF 5 (by decide)
                  obtain ⟨pPC_6, f6, -⟩ := hF 6 (by decide)
                  obtain ⟨aRD_7, cRD_7, f7, -⟩ := hF 7 (by decide)
                  have f8 : f 8 = .agg #[.pointer p] := hF 8 (by decide)
                  obtain ⟨aRE_9, cRE_9, f9, -⟩ := hF 9 (by decide)
                  have f10 : f 10 = .bool true := hF 10 (by decide)
                  have f11 : f 11 = .bool true := hF 11 (by decide)
                  clear hF
                  generalize hA : grow.puts _ _ f _ = A'
                  simp only [List.length_cons, List.length_nil, Nat.reduceAdd, grow.puts, Act.put, List.getElem?_toArray, List.getElem?_cons_zero, List.getElem?_cons_succ, Option.bind_some, List.setIfInBounds_toArray, List.set_cons_zero, List.set_cons_succ, f0, f1, f2, f3, f4, f5, f6, f7, f8, f9, f10, f11] at hA
                  subst hA
                  have HTn := Lib.hid (HT.out.up hB)
                  clear hB HT kx0 kx1 kx2
                  obtain ⟨U, hU⟩ : ∃ U, U = W := ⟨_, rfl⟩
                  rw [← hU] at HTn ⊢
                  clear hU W
                  have HT := HTn
                  clear HTn
                  have kx0 := cell_of_one HT.out.b0
                  have kx1 := cell_of_one HT.out.b1
                  have kx2 := cell_of_one HT.out.b2
                  go_wp2_with fail
                  refine grow.wp_grow [grow.kEq (.agg #[.pointer p]), grow.kEq (.agg #[.pointer p]), kMap w.heap.size (ounion x x), kRow m2 xs2, grow.kEq (.agg #[.pointer p]), kRow m2 xs2, grow.kEq (.bool true), grow.kEq (.bool true)] (by kernel_rfl) (by kernel_rfl) (by kernel_rfl) (by kernel_rfl) ?step ?fin
                  case step =>
                    clear kx0 kx1 kx2
                    refine grow.Each.cons ?_ ?_
                    · intro A W hB hs hJ K hK
                      have s0 := hs 8 (by kernel_rfl)
                      simp at s0
                      have kk := upc hB (cell_of_one HT.out.b0)
                      rw [if_pos (by rfl)]
                      clear hs hJ
                      go_simp
                      exact hK _ _ (Below.refl _ _) rfl
                    refine grow.Each.cons ?_ ?_
                    · intro A W hB hs hJ K hK
                      have s0 := hs 8 (by kernel_rfl)
                      simp at s0
                      have kk := upc hB (cell_of_one HT.out.b0)
                      rw [if_pos (by rfl)]
                      clear hs hJ
                      go_simp
                      exact hK _ _ (Below.refl _ _) rfl
                    refine grow.Each.cons ?_ ?_
                    · intro A W hB hs hJ K hK
                      have s0 : A.tmps.getD 98 undef = .agg #[.pointer p] := hJ 0 98 (by kernel_rfl) (by kernel_rfl)
                      simp at s0
                      have s1 : A.tmps.getD 99 undef = .agg #[.pointer p] := hJ 1 99 (by kernel_rfl) (by kernel_rfl)
                      simp at s1
                      rw [if_pos (by rfl)]
                      clear hs hJ
                      go_simp
                      go_at_call 20
                      refine (Union_any w.heap.size W p p x x (szle hB HT.out.bel.size) (HT.out.h0.up hB) (HT.out.h0.up hB) HA.out.o0 HA.out.o0 HK.out.q6).mono ?_
                      rintro e W2 ⟨pU, rfl, hpU, hrU⟩
                      exact hK _ _ hrU ⟨pU, rfl, hpU⟩
                    refine grow.Each.cons ?_ ?_
                    · intro A W hB hs hJ K hK
                      obtain ⟨pPA, s0, hPA⟩ := hJ 2 100 (by kernel_rfl) (by kernel_rfl)
                      simp at s0
                      rw [if_pos (by rfl)]
                      clear hs hJ
                      go_simp
                      go_at_call 12
                      refine (Pairs_num w.heap.size W pPA (ounion x x) m2 hPA HK.out.o8 HK.out.n5 HK.out.b2 xs2 HK.out.t5).mono ?_
                      rintro e W2 ⟨a1, c1, rfl, ho1, hb1⟩
                      exact hK _ _ hb1 ⟨a1, c1, rfl, OwnP.reads ho1⟩
                    refine grow.Each.cons ?_ ?_
                    · intro A W hB hs hJ K hK
                      have s0 := hs 8 (by kernel_rfl)
                      simp at s0
                      have kk := upc hB (cell_of_one HT.out.b0)
                      rw [if_pos (by rfl)]
                      clear hs hJ
                      go_simp
                      exact hK _ _ (Below.refl _ _) rfl
                    refine grow.Each.cons ?_ ?_
                    · intro A W hB hs hJ K hK
                      have s0 : A.tmps.getD 102 undef = .agg #[.pointer p] := hJ 4 102 (by kernel_rfl) (by kernel_rfl)
                      simp at s0
                      rw [if_pos (by rfl)]
                      clear hs hJ
                      go_simp
                      go_at_call 12
                      refine (Pairs_num w.heap.size W p x m2 (HT.out.h0.up hB) HA.out.o0 HK.out.n4 HK.out.b2 xs2 HK.out.t4).mono ?_
                      rintro e W2 ⟨a1, c1, rfl, ho1, hb1⟩
                      exact hK _ _ hb1 ⟨a1, c1, rfl, OwnP.reads ho1⟩
                    refine grow.Each.cons ?_ ?_
                    · intro A W hB hs hJ K hK
                      obtain ⟨aRD, cRD, s0, hRD⟩ := hJ 3 101 (by kernel_rfl) (by kernel_rfl)
                      simp at s0
                      obtain ⟨aRE, cRE, s1, hRE⟩ := hJ 5 103 (by kernel_rfl) (by kernel_rfl)
                      simp at s1
                      rw [if_pos (by rfl)]
                      clear hs hJ
                      go_simp
                      go_at_call 13
                      refine (samePairs_any aRD aRE cRD cRE m2 m2 xs2 xs2 W HK.out.l2 HK.out.l2 hRD hRE (by unfold maxLen; have := HK.out.b2; omega) true (decide_eq_true rfl)).mono ?_
                      rintro e W2 ⟨rfl, qq, hU⟩
                      exact hK _ _ (by rw [hU]; exact belowDrewN _ _) rfl
                    refine grow.Each.cons ?_ ?_
                    · intro A W hB hs hJ K hK
                      have s0 : A.tmps.getD 104 undef = .bool true := hJ 6 104 (by kernel_rfl) (by kernel_rfl)
                      simp at s0
                      rw [if_pos (by rfl)]
                      clear hs hJ
                      go_simp
                      exact hK _ _ (Below.refl _ _) rfl
                    exact grow.Each.nil
                  case fin =>
                    intro f W hB hF
                    have f0 : f 0 = .agg #[.pointer p] := hF 0 (by decide)
                    have f1 : f 1 = .agg #[.pointer p] := hF 1 (by decide)
                    obtain ⟨pPA_2, f2, -⟩ := hF 2 (by decide)
                    obtain ⟨aRD_3, cRD_3, f3, -⟩ := hF 3 (by decide)
                    have f4 : f 4 = .agg #[.pointer p] := hF 4 (by decide)
                    obtain ⟨aRE_5, cRE_5, f5, -⟩ := hF 5 (by decide)
                    have f6 : f 6 = .bool true := hF 6 (by decide)
                    have f7 : f 7 = .bool true := hF 7 (by decide)
                    clear hF
                    generalize hA : grow.puts _ _ f _ = A'
                    simp only [List.length_cons, List.length_nil, Nat.reduceAdd, grow.puts, Act.put, List.getElem?_toArray, List.getElem?_cons_zero, List.getElem?_cons_succ, Option.bind_some, List.setIfInBounds_toArray, List.set_cons_zero, List.set_cons_succ, f0, f1, f2, f3, f4, f5, f6, f7] at hA
                    subst hA
                    have HTn := Lib.hid (HT.out.up hB)
                    clear hB HT kx0 kx1 kx2
                    obtain ⟨U, hU⟩ : ∃ U, U = W := ⟨_, rfl⟩
                    rw [← hU] at HTn ⊢
                    clear hU W
                    have HT := HTn
                    clear HTn
                    have kx0 := cell_of_one HT.out.b0
                    have kx1 := cell_of_one HT.out.b1
                    have kx2 := cell_of_one HT.out.b2
                    go_wp2_with fail
                    refine grow.wp_grow [grow.kEq (.bool true), grow.kEq (.bool true), grow.kEq (.bool true), grow.kEq (.bool true), grow.kEq (.bool true), grow.kEq (.bool true), grow.kEq (.bool true), grow.kEq (.bool true), grow.kEq (.agg #[.pointer p]), grow.kEq (.agg #[.pointer q]), kMap w.heap.size (ounion x y), grow.kEq (.int .i64 (k1 : Nat)), grow.kEq (.agg #[.pointer p]), grow.kEq (.agg #[.pointer q]), kMap w.heap.size (osifted y true x), grow.kEq (.int .i64 (k2 : Nat)), grow.kEq (.int .i64 ((k1 : Int) + (k2 : Int))), grow.kEq (.agg #[.pointer p]), grow.kEq (.int .i64 (k3 : Nat)), grow.kEq (.agg #[.pointer q]), grow.kEq (.int .i64 (k4 : Nat)), grow.kEq (.int .i64 ((k3 : Int) + (k4 : Int))), grow.kEq (.bool true), grow.kEq (.bool true), grow.kEq (.bool true)] (by kernel_rfl) (by kernel_rfl) (by kernel_rfl) (by kernel_rfl) ?step ?fin
                    case step =>
                      clear kx0 kx1 kx2
                      refine grow.Each.cons ?_ ?_
                      · intro A W hB hs hJ K hK
                        have s0 := hs 14 (by kernel_rfl)
                        simp at s0
                        rw [if_pos (by rfl)]
                        clear hs hJ
                        go_simp
                        exact hK _ _ (Below.refl _ _) rfl
                      refine grow.Each.cons ?_ ?_
                      · intro A W hB hs hJ K hK
                        have s0 : A.tmps.getD 105 undef = .bool true := hJ 0 105 (by kernel_rfl) (by kernel_rfl)
                        simp at s0
                        rw [if_pos (by rfl)]
                        clear hs hJ
                        go_simp
                        exact hK _ _ (Below.refl _ _) rfl
                      refine grow.Each.cons ?_ ?_
                      · intro A W hB hs hJ K hK
                        have eg : A.tmps.getD 106 undef = .bool true := hJ 1 106 (by kernel_rfl) (by kernel_rfl)
                        have s0 := hs 15 (by kernel_rfl)
                        simp at s0
                        rw [if_pos (grow.wanted_of (j := 1) (d := 106) (b := true) rfl (by kernel_rfl) eg)]
                        clear eg
                        clear hs hJ
                        go_simp
                        exact hK _ _ (Below.refl _ _) rfl
                      refine grow.Each.cons ?_ ?_
                      · intro A W hB hs hJ K hK
                        have s0 : A.tmps.getD 106 undef = .bool true := hJ 1 106 (by kernel_rfl) (by kernel_rfl)
                        simp at s0
                        have s1 : A.tmps.getD 107 undef = .bool true := hJ 2 107 (by kernel_rfl) (by kernel_rfl)
                        simp at s1
                        rw [if_pos (by rfl)]
                        clear hs hJ
                        go_simp
                        exact hK _ _ (Below.refl _ _) rfl
                      refine grow.Each.cons ?_ ?_
                      · intro A W hB hs hJ K hK
                        have s0 : A.tmps.getD 108 undef = .bool true := hJ 3 108 (by kernel_rfl) (by kernel_rfl)
                        simp at s0
                        rw [if_pos (by rfl)]
                        clear hs hJ
                        go_simp
                        exact hK _ _ (Below.refl _ _) rfl
                      refine grow.Each.cons ?_ ?_
                      · intro A W hB hs hJ K hK
                        have eg : A.tmps.getD 109 undef = .bool true := hJ 4 109 (by kernel_rfl) (by kernel_rfl)
                        have s0 := hs 16 (by kernel_rfl)
                        simp at s0
                        rw [if_pos (grow.wanted_of (j := 4) (d := 109) (b := true) rfl (by kernel_rfl) eg)]
                        clear eg
                        clear hs hJ
                        go_simp
                        exact hK _ _ (Below.refl _ _) rfl
                      refine grow.Each.cons ?_ ?_
                      · intro A W hB hs hJ K hK
                        have s0 : A.tmps.getD 109 undef = .bool true := hJ 4 109 (by kernel_rfl) (by kernel_rfl)
                        simp at s0
                        have s1 : A.tmps.getD 110 undef = .bool true := hJ 5 110 (by kernel_rfl) (by kernel_rfl)
                        simp at s1
                        rw [if_pos (by rfl)]
                        clear hs hJ
                        go_simp
                        exact hK _ _ (Below.refl _ _) rfl
                      refine grow.Each.cons ?_ ?_
                      · intro A W hB hs hJ K hK
                        have s0 : A.tmps.getD 111 undef = .bool true := hJ 6 111 (by kernel_rfl) (by kernel_rfl)
                        simp at s0
                        rw [if_pos (by rfl)]
                        clear hs hJ
                        go_simp
                        exact hK _ _ (Below.refl _ _) rfl
                      refine grow.Each.cons ?_ ?_
                      · intro A W hB hs hJ K hK
                        have eg : A.tmps.getD 112 undef = .bool true := hJ 7 112 (by kernel_rfl) (by kernel_rfl)
                        have s0 := hs 8 (by kernel_rfl)
                        simp at s0
                        have kk := upc hB (cell_of_one HT.out.b0)
                        rw [if_pos (grow.wanted_of (j := 7) (d := 112) (b := true) rfl (by kernel_rfl) eg)]
                        clear eg
                        clear hs hJ
                        go_simp
                        exact hK _ _ (Below.refl _ _) rfl
                      refine grow.Each.cons ?_ ?_
                      · intro A W hB hs hJ K hK
                        have eg : A.tmps.getD 112 undef = .bool true := hJ 7 112 (by kernel_rfl) (by kernel_rfl)
                        have s0 := hs 9 (by kernel_rfl)
                        simp at s0
                        have kk := upc hB (cell_of_one HT.out.b1)
                        rw [if_pos (grow.wanted_of (j := 7) (d := 112) (b := true) rfl (by kernel_rfl) eg)]
                        clear eg
                        clear hs hJ
                        go_simp
                        exact hK _ _ (Below.refl _ _) rfl
                      refine grow.Each.cons ?_ ?_
                      · intro A W hB hs hJ K hK
                        have eg : A.tmps.getD 112 undef = .bool true := hJ 7 112 (by kernel_rfl) (by kernel_rfl)
                        have s0 : A.tmps.getD 113 undef = .agg #[.pointer p] := hJ 8 113 (by kernel_rfl) (by kernel_rfl)
                        simp at s0
                        have s1 : A.tmps.getD 114 undef = .agg #[.pointer q] := hJ 9 114 (by kernel_rfl) (by kernel_rfl)
                        simp at s1
                        rw [if_pos (grow.wanted_of (j := 7) (d := 112) (b := true) rfl (by kernel_rfl) eg)]
                        clear eg
                        clear hs hJ
                        go_simp
                        go_at_call 20
                        refine (Union_any w.heap.size W p q x y (szle hB HT.out.bel.size) (HT.out.h0.up hB) (HT.out.h1.up hB) HA.out.o0 HA.out.o1 HK.out.q1).mono ?_
                        rintro e W2 ⟨pU, rfl, hpU, hrU⟩
                        exact hK _ _ hrU ⟨pU, rfl, hpU⟩
                      refine grow.Each.cons ?_ ?_
                      · intro A W hB hs hJ K hK
                        have eg : A.tmps.getD 112 undef = .bool true := hJ 7 112 (by kernel_rfl) (by kernel_rfl)
                        obtain ⟨pPA, s0, hPA⟩ := hJ 10 115 (by kernel_rfl) (by kernel_rfl)
                        simp at s0
                        rw [if_pos (grow.wanted_of (j := 7) (d := 112) (b := true) rfl (by kernel_rfl) eg)]
                        clear eg
                        clear hs hJ
                        go_simp
                        go_at_call 10
                        refine (Len_num w.heap.size W pPA _ k1 hPA HK.out.e1).mono ?_
                        rintro e W2 ⟨rfl, hb1⟩
                        exact hK _ _ hb1 rfl
                      refine grow.Each.cons ?_ ?_
                      · intro A W hB hs hJ K hK
                        have eg : A.tmps.getD 112 undef = .bool true := hJ 7 112 (by kernel_rfl) (by kernel_rfl)
                        have s0 := hs 8 (by kernel_rfl)
                        simp at s0
                        have kk := upc hB (cell_of_one HT.out.b0)
                        rw [if_pos (grow.wanted_of (j := 7) (d := 112) (b := true) rfl (by kernel_rfl) eg)]
                        clear eg
                        clear hs hJ
                        go_simp
                        exact hK _ _ (Below.refl _ _) rfl
                      refine grow.Each.cons ?_ ?_
                      · intro A W hB hs hJ K hK
                        have eg : A.tmps.getD 112 undef = .bool true := hJ 7 112 (by kernel_rfl) (by kernel_rfl)
                        have s0 := hs 9 (by kernel_rfl)
                        simp at s0
                        have kk := upc hB (cell_of_one HT.out.b1)
                        rw [if_pos (grow.wanted_of (j := 7) (d := 112) (b := true) rfl (by kernel_rfl) eg)]
                        clear eg
                        clear hs hJ
                        go_simp
                        exact hK _ _ (Below.refl _ _) rfl
                      refine grow.Each.cons ?_ ?_
                      · intro A W hB hs hJ K hK
                        have eg : A.tmps.getD 112 undef = .bool true := hJ 7 112 (by kernel_rfl) (by kernel_rfl)
                        have s0 : A.tmps.getD 117 undef = .agg #[.pointer p] := hJ 12 117 (by kernel_rfl) (by kernel_rfl)
                        simp at s0
                        have s1 : A.tmps.getD 118 undef = .agg #[.pointer q] := hJ 13 118 (by kernel_rfl) (by kernel_rfl)
                        simp at s1
                        rw [if_pos (grow.wanted_of (j := 7) (d := 112) (b := true) rfl (by kernel_rfl) eg)]
                        clear eg
                        clear hs hJ
                        go_simp
                        go_at_call 21
                        refine (Inter_any w.heap.size W p q x y (szle hB HT.out.bel.size) (HT.out.h0.up hB) (HT.out.h1.up hB) HA.out.o0 HA.out.o1 HK.out.q1).mono ?_
                        rintro e W2 ⟨pU, rfl, hpU, hrU⟩
                        exact hK _ _ hrU ⟨pU, rfl, hpU⟩
                      refine grow.Each.cons ?_ ?_
                      · intro A W hB hs hJ K hK
                        have eg : A.tmps.getD 112 undef = .bool true := hJ 7 112 (by kernel_rfl) (by kernel_rfl)
                        obtain ⟨pPB, s0, hPB⟩ := hJ 14 119 (by kernel_rfl) (by kernel_rfl)
                        simp at s0
                        rw [if_pos (grow.wanted_of (j := 7) (d := 112) (b := true) rfl (by kernel_rfl) eg)]
                        clear eg
                        clear hs hJ
                        go_simp
                        go_at_call 10
                        refine (Len_num w.heap.size W pPB _ k2 hPB HK.out.e2).mono ?_
                        rintro e W2 ⟨rfl, hb1⟩
                        exact hK _ _ hb1 rfl
                      refine grow.Each.cons ?_ ?_
                      · intro A W hB hs hJ K hK
                        have eg : A.tmps.getD 112 undef = .bool true := hJ 7 112 (by kernel_rfl) (by kernel_rfl)
                        have s0 : A.tmps.getD 116 undef = .int .i64 (k1 : Nat) := hJ 11 116 (by kernel_rfl) (by kernel_rfl)
                        simp at s0
                        have s1 : A.tmps.getD 120 undef = .int .i64 (k2 : Nat) := hJ 15 120 (by kernel_rfl) (by kernel_rfl)
                        simp at s1
                        have hw := Hw1.out
                        rw [if_pos (grow.wanted_of (j := 7) (d := 112) (b := true) rfl (by kernel_rfl) eg)]
                        clear eg
                        clear hs hJ
                        go_simp
                        exact hK _ _ (Below.refl _ _) rfl
                      refine grow.Each.cons ?_ ?_
                      · intro A W hB hs hJ K hK
                        have eg : A.tmps.getD 112 undef = .bool true := hJ 7 112 (by kernel_rfl) (by kernel_rfl)
                        have s0 := hs 8 (by kernel_rfl)
                        simp at s0
                        have kk := upc hB (cell_of_one HT.out.b0)
                        rw [if_pos (grow.wanted_of (j := 7) (d := 112) (b := true) rfl (by kernel_rfl) eg)]
                        clear eg
                        clear hs hJ
                        go_simp
                        exact hK _ _ (Below.refl _ _) rfl
                      refine grow.Each.cons ?_ ?_
                      · intro A W hB hs hJ K hK
                        have eg : A.tmps.getD 112 undef = .bool true := hJ 7 112 (by kernel_rfl) (by kernel_rfl)
                        have s0 : A.tmps.getD 122 undef = .agg #[.pointer p] := hJ 17 122 (by kernel_rfl) (by kernel_rfl)
                        simp at s0
                        rw [if_pos (grow.wanted_of (j := 7) (d := 112) (b := true) rfl (by kernel_rfl) eg)]
                        clear eg
                        clear hs hJ
                        go_simp
                        go_at_call 10
                        refine (Len_num w.heap.size W p _ k3 (HT.out.h0.up hB) HK.out.e3).mono ?_
                        rintro e W2 ⟨rfl, hb1⟩
                        exact hK _ _ hb1 rfl
                      refine grow.Each.cons ?_ ?_
                      · intro A W hB hs hJ K hK
                        have eg : A.tmps.getD 112 undef = .bool true := hJ 7 112 (by kernel_rfl) (by kernel_rfl)
                        have s0 := hs 9 (by kernel_rfl)
                        simp at s0
                        have kk := upc hB (cell_of_one HT.out.b1)
                        rw [if_pos (grow.wanted_of (j := 7) (d := 112) (b := true) rfl (by kernel_rfl) eg)]
                        clear eg
                        clear hs hJ
                        go_simp
                        exact hK _ _ (Below.refl _ _) rfl
                      refine grow.Each.cons ?_ ?_
                      · intro A W hB hs hJ K hK
                        have eg : A.tmps.getD 112 undef = .bool true := hJ 7 112 (by kernel_rfl) (by kernel_rfl)
                        have s0 : A.tmps.getD 124 undef = .agg #[.pointer q] := hJ 19 124 (by kernel_rfl) (by kernel_rfl)
                        simp at s0
                        rw [if_pos (grow.wanted_of (j := 7) (d := 112) (b := true) rfl (by kernel_rfl) eg)]
                        clear eg
                        clear hs hJ
                        go_simp
                        go_at_call 10
                        refine (Len_num w.heap.size W q _ k4 (HT.out.h1.up hB) HK.out.e4).mono ?_
                        rintro e W2 ⟨rfl, hb1⟩
                        exact hK _ _ hb1 rfl
                      refine grow.Each.cons ?_ ?_
                      · intro A W hB hs hJ K hK
                        have eg : A.tmps.getD 112 undef = .bool true := hJ 7 112 (by kernel_rfl) (by kernel_rfl)
                        have s0 : A.tmps.getD 123 undef = .int .i64 (k3 : Nat) := hJ 18 123 (by kernel_rfl) (by kernel_rfl)
                        simp at s0
                        have s1 : A.tmps.getD 125 undef = .int .i64 (k4 : Nat) := hJ 20 125 (by kernel_rfl) (by kernel_rfl)
                        simp at s1
                        have hw := Hw2.out
                        rw [if_pos (grow.wanted_of (j := 7) (d := 112) (b := true) rfl (by kernel_rfl) eg)]
                        clear eg
                        clear hs hJ
                        go_simp
                        exact hK _ _ (Below.refl _ _) rfl
                      refine grow.Each.cons ?_ ?_
                      · intro A W hB hs hJ K hK
                        have eg : A.tmps.getD 112 undef = .bool true := hJ 7 112 (by kernel_rfl) (by kernel_rfl)
                        have s0 : A.tmps.getD 121 undef = .int .i64 ((k1 : Int) + (k2 : Int)) := hJ 16 121 (by kernel_rfl) (by kernel_rfl)
                        simp at s0
                        have s1 : A.tmps.getD 126 undef = .int .i64 ((k3 : Int) + (k4 : Int)) := hJ 21 126 (by kernel_rfl) (by kernel_rfl)
                        simp at s1
                        have hw := Heq.out
                        rw [if_pos (grow.wanted_of (j := 7) (d := 112) (b := true) rfl (by kernel_rfl) eg)]
                        clear eg
                        clear hs hJ
                        go_simp
                        exact hK _ _ (Below.refl _ _) rfl
                      refine grow.Each.cons ?_ ?_
                      · intro A W hB hs hJ K hK
                        have s0 : A.tmps.getD 112 undef = .bool true := hJ 7 112 (by kernel_rfl) (by kernel_rfl)
                        simp at s0
                        have s1 : A.tmps.getD 127 undef = .bool true := hJ 22 127 (by kernel_rfl) (by kernel_rfl)
                        simp at s1
                        rw [if_pos (by rfl)]
                        clear hs hJ
                        go_simp
                        exact hK _ _ (Below.refl _ _) rfl
                      refine grow.Each.cons ?_ ?_
                      · intro A W hB hs hJ K hK
                        have s0 : A.tmps.getD 128 undef = .bool true := hJ 23 128 (by kernel_rfl) (by kernel_rfl)
                        simp at s0
                        rw [if_pos (by rfl)]
                        clear hs hJ
                        go_simp
                        exact hK _ _ (Below.refl _ _) rfl
                      exact grow.Each.nil
                    case fin =>
                      intro f W hB hF
                      have f0 : f 0 = .bool true := hF 0 (by decide)
                      have f1 : f 1 = .bool true := hF 1 (by decide)
                      have f2 : f 2 = .bool true := hF 2 (by decide)
                      have f3 : f 3 = .bool true := hF 3 (by decide)
                      have f4 : f 4 = .bool true := hF 4 (by decide)
                      have f5 : f 5 = .bool true := hF 5 (by decide)
                      have f6 : f 6 = .bool true := hF 6 (by decide)
                      have f7 : f 7 = .bool true := hF 7 (by decide)
                      have f8 : f 8 = .agg #[.pointer p] := hF 8 (by decide)
                      have f9 : f 9 = .agg #[.pointer q] := hF 9 (by decide)
                      obtain ⟨pPA_10, f10, -⟩ := hF 10 (by decide)
                      have f11 : f 11 = .int .i64 (k1 : Nat) := hF 11 (by decide)
                      have f12 : f 12 = .agg #[.pointer p] := hF 12 (by decide)
                      have f13 : f 13 = .agg #[.pointer q] := hF 13 (by decide)
                      obtain ⟨pPB_14, f14, -⟩ := hF 14 (by decide)
                      have f15 : f 15 = .int .i64 (k2 : Nat) := hF 15 (by decide)
                      have f16 : f 16 = .int .i64 ((k1 : Int) + (k2 : Int)) := hF 16 (by decide)
                      have f17 : f 17 = .agg #[.pointer p] := hF 17 (by decide)
                      have f18 : f 18 = .int .i64 (k3 : Nat) := hF 18 (by decide)
                      have f19 : f 19 = .agg #[.pointer q] := hF 19 (by decide)
                      have f20 : f 20 = .int .i64 (k4 : Nat) := hF 20 (by decide)
                      have f21 : f 21 = .int .i64 ((k3 : Int) + (k4 : Int)) := hF 21 (by decide)
                      have f22 : f 22 = .bool true := hF 22 (by decide)
                      have f23 : f 23 = .bool true := hF 23 (by decide)
                      have f24 : f 24 = .bool true := hF 24 (by decide)
                      clear hF
                      generalize hA : grow.puts _ _ f _ = A'
                      simp only [List.length_cons, List.length_nil, Nat.reduceAdd, grow.puts, Act.put, List.getElem?_toArray, List.getElem?_cons_zero, List.getElem?_cons_succ, Option.bind_some, List.setIfInBounds_toArray, List.set_cons_zero, List.set_cons_succ, f0, f1, f2, f3, f4, f5, f6, f7, f8, f9, f10, f11, f12, f13, f14, f15, f16, f17, f18, f19, f20, f21, f22, f23, f24] at hA
                      subst hA
                      have Hf := Lib.hid (HT.out.bel.trans (hB.mono HT.out.bel.size))
                      clear hB HT kx0 kx1 kx2
                      go_wp2_with fail
                      go_ret
                      exact ⟨rfl, Hf.out⟩

theorem laws_any (a0 : Option Addr) (c0 : Nat) (l0 : List (Int × Int)) (a1 : Option Addr) (c1 : Nat) (l1 : List (Int × Int)) (a2 : Option Addr) (c2 : Nat) (l2 : List (Int × Int)) (w : World)
    (b0 : l0.length ≤ 1048576) (r0 : ReadsP w a0 l0) (i0 : ∀ p ∈ l0, I64 p.1) (b1 : l1.length ≤ 1048576) (r1 : ReadsP w a1 l1) (i1 : ∀ p ∈ l1, I64 p.1) (b2 : l2.length ≤ 1048576) (r2 : ReadsP w a2 l2) (i2 : ∀ p ∈ l2, I64 p.1) :
    Calls Try.prog 7 #[.slice a0 l0.length c0, .slice a1 l1.length c1, .slice a2 l2.length c2] w (Yes w) :=
  laws a0 a1 a2 c0 c1 c2 l0.length l1.length l2.length l0 l1 l2 w ⟨r0, rfl, i0, b0⟩ ⟨r1, rfl, i1, b1⟩ ⟨r2, rfl, i2, b2⟩

end Go.Proofs.Ytnebmncjohoekaa.pat
