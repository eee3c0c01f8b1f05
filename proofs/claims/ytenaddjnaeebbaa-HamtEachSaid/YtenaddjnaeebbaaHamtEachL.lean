/- The law of what a function makes of each pair. (Printed by hl.py.) -/
import Derived.Test.YtenaddjnaeebbaaHamtEachF
import Derived.Test.YtenaddjnaeebbaaHamted
import Derived.Deep.RegionWith
namespace Go.Proofs.Ytenaddjnaeebbaa.hamt
open Go.RowKit
open pat (PT OOk ocnt olist oput odrop oget tk I64 tk_lt tk_inj lk told Yes fill fill_snoc fill_ok fill_cnt oput_spec valued_told told_eq told_rising told_range told_length oget_eq kRow)

theorem fill_take (l : List (Int × Int)) (k : Nat) (h : k < l.length) : fill none (l.take (k + 1)) = some (oput (fill none (l.take k)) (tk (l.getD k (0, 0)).1) (l.getD k (0, 0)).2) := by
  rw [List.take_succ_eq_append_getElem h, fill_snoc]
  simp [List.getD_eq_getElem?_getD, h]
/-- what holds at a round's head -/
def Filling (w : World) (G : Nat) (o : Option PT) (wr : World) : Prop := ∃ p, HO w.heap.size wr p o ∧ Below w.heap.size w wr ∧ w.heap.size ≤ G ∧ wr.heap[G]? = some (.cells #[.pointer p] 25 (0, 0))
theorem valued_mkE (fu : Int → Int → Int) (l : PL) (k : Int) : valued (mkE fu l) k = (valued l k).map (fu k) := by
  induction l with
  | nil => rfl
  | cons p r ih =>
    unfold mkE at ih ⊢
    rw [List.map_cons, valued, valued]
    by_cases e : p.1 = k
    · simp [e]
    · simp [e, ih]
theorem mkE_rising {fu : Int → Int → Int} : ∀ {l : PL}, RisingI l → RisingI (mkE fu l)
  | [], _ => trivial
  | p :: r, h => by
    unfold mkE
    rw [List.map_cons]
    exact ⟨fun q hq => by
      obtain ⟨x, hx, rfl⟩ := List.mem_map.1 hq
      exact h.1 x hx, mkE_rising h.2⟩
theorem EachOf.comp {f g : Int → Int → Int} {o o1 o2 : Option PT} (h1 : EachOf f o o1) (h2 : EachOf g o1 o2) : EachOf (fun k v => g k (f k v)) o o2 :=
  ⟨h2.1, Nat.le_trans h2.2.1 h1.2.1, fun k hk => by
    rw [h2.2.2 k hk, h1.2.2 k hk]
    cases lk (olist o) (tk k) <;> rfl⟩
theorem EachOf.told {h : Int → Int → Int} {o o' : Option PT} (ho : OOk o) (he : EachOf h o o') : told o' = mkE h (told o) := by
  refine told_eq he.1 ?_ ?_ fun k hk => ?_
  · exact mkE_rising (told_rising ho)
  · intro p hp
    obtain ⟨q, hq, rfl⟩ := List.mem_map.1 hp
    exact told_range ho q hq
  · rw [he.2.2 k hk, valued_mkE, valued_told ho hk, oget_eq ho]
theorem EachOf.cnt {h : Int → Int → Int} {o o' : Option PT} (ho : OOk o) (he : EachOf h o o') : ocnt o' = ocnt o := by
  have e := congrArg List.length (he.told ho)
  rw [told_length] at e
  rw [e]
  unfold mkE
  rw [List.length_map, told_length]
theorem EachOf.get {h : Int → Int → Int} {o o' : Option PT} (ho : OOk o) (he : EachOf h o o') {k : Int} (hk : I64 k) : oget o' (tk k) = (oget o (tk k)).map (h k) := by
  rw [oget_eq he.1, oget_eq ho, he.2.2 k hk]
/-- the three boxes of numbers -/
structure ABC (w : World) (a b c : Int) (Z : World) : Prop where
  bel : Below w.heap.size w Z
  cA : Z.heap[w.heap.size]? = some (.cells #[.int .i64 a] 3 (0, 0))
  cB : Z.heap[w.heap.size + 1]? = some (.cells #[.int .i64 b] 3 (0, 0))
  cC : Z.heap[w.heap.size + 1 + 1]? = some (.cells #[.int .i64 c] 3 (0, 0))
theorem ABC.of (w : World) (a b c : Int) : ABC w a b c (((w.alloc (.cells #[.int .i64 a] 3)).alloc (.cells #[.int .i64 b] 3)).alloc (.cells #[.int .i64 c] 3)) := by
  refine ⟨belowTrans (belowAlloc w _) (belowTrans (belowAlloc _ _) (belowAlloc _ _)), upb (belowTrans (belowAlloc _ _) (belowAlloc _ _)) (heap_alloc_new w _), upb (belowAlloc _ _) ?_, ?_⟩
  · have h := heap_alloc_new (w.alloc (.cells #[.int .i64 a] 3)) (.cells #[.int .i64 b] 3)
    simpa using h
  · have h := heap_alloc_new ((w.alloc (.cells #[.int .i64 a] 3)).alloc (.cells #[.int .i64 b] 3)) (.cells #[.int .i64 c] 3)
    simpa using h
theorem ABC.up {w : World} {a b c : Int} {Z W : World} (h : ABC w a b c Z) (hb : Below Z.heap.size Z W) : ABC w a b c W := ⟨h.bel.trans (hb.mono h.bel.size), upb hb h.cA, upb hb h.cB, upb hb h.cC⟩
def fAB (a b c : Int) (k v : Int) : Int := fB b c k (fA a k v)
def FFv (w : World) : Value := .func (.func 15) #[] #[.pointer (some ⟨w.heap.size, 0, none⟩)]
def FGv (w : World) : Value := .func (.func 16) #[] #[.pointer (some ⟨w.heap.size + 1, 0, none⟩), .pointer (some ⟨w.heap.size + 1 + 1, 0, none⟩)]
/-- what is at hand ahead of the maps that are made -/
structure HE (w : World) (a b c : Int) (G0 gF gG : Nat) (p : Option Addr) (om : Option PT) (W : World) : Prop where
  abc : ABC w a b c W
  cF : W.heap[gF]? = some (.cells #[FFv w] 36 (0, 0))
  cG : W.heap[gG]? = some (.cells #[FGv w] 36 (0, 0))
  b0 : W.heap[G0]? = some (.cells #[.pointer p] 25 (0, 0))
  h0 : HO w.heap.size W p om
theorem HE.up {w : World} {a b c : Int} {G0 gF gG : Nat} {p : Option Addr} {om : Option PT} {W W' : World} (h : HE w a b c G0 gF gG p om W) (hb : Below W.heap.size W W') : HE w a b c G0 gF gG p om W' := ⟨h.abc.up hb, upb hb h.cF, upb hb h.cG, upb hb h.b0, h.h0.up hb⟩
theorem HE.f1 {w : World} {a b c : Int} {G0 gF gG : Nat} {p : Option Addr} {om : Option PT} {W : World} (h : HE w a b c G0 gF gG p om W) : Fun W 15 #[.pointer (some ⟨w.heap.size, 0, none⟩)] (fA a) := f1_any _ a W h.abc.cA
theorem HE.f2 {w : World} {a b c : Int} {G0 gF gG : Nat} {p : Option Addr} {om : Option PT} {W : World} (h : HE w a b c G0 gF gG p om W) : Fun W 16 #[.pointer (some ⟨w.heap.size + 1, 0, none⟩), .pointer (some ⟨w.heap.size + 1 + 1, 0, none⟩)] (fB b c) := f2_any _ _ b c W h.abc.cB h.abc.cC
theorem HE.f3 {w : World} {a b c : Int} {G0 gF gG : Nat} {p : Option Addr} {om : Option PT} {W : World} (h : HE w a b c G0 gF gG p om W) : Fun W 18 #[.pointer (some ⟨gG, 0, none⟩), .pointer (some ⟨gF, 0, none⟩)] (fAB a b c) :=
  f3_any w.heap.size (w.heap.size + 1) (w.heap.size + 1 + 1) gF gG a b c W h.abc.cA h.abc.cB h.abc.cC h.cF h.cG
/-- a map made key by key -/
def kEach (B : Nat) (h : Int → Int → Int) (o : Option PT) : grow.Kept := ⟨fun v W => ∃ q o', v = .agg #[.pointer q] ∧ HO B W q o' ∧ EachOf h o o', fun _ _ _ hb ⟨q, o', e, h1, h2⟩ => ⟨q, o', e, h1.up hb, h2⟩⟩
set_option maxRecDepth 100000 in
set_option maxHeartbeats 8000000 in
theorem each_law (a0 : Option Addr) (c0 n : Nat) (l : List (Int × Int)) (a b c k : Int) (w : World) (hl : l.length = n) (hn : n ≤ 8796093021952) (hr : ReadsP w a0 l) (hi : ∀ p ∈ l, I64 p.1) (hk : I64 k) :
    Calls Try.prog 4 #[.slice a0 n c0, .int .i64 a, .int .i64 b, .int .i64 c, .int .i64 k] w (Yes w) := by
  have HK := Lib.hid hk
  obtain ⟨Z, hZ⟩ : ∃ Z, Z = (((w.alloc (.cells #[.int .i64 a] 3)).alloc (.cells #[.int .i64 b] 3)).alloc (.cells #[.int .i64 c] 3)) := ⟨_, rfl⟩
  have hABC : ABC w a b c Z := by rw [hZ]; exact ABC.of w a b c
  have HR := Lib.hid (And.intro (hr.up hABC.bel) (And.intro hl hi))
  have HZ := Lib.hid hZ
  have HABC := Lib.hid hABC
  clear hr hl hi hk hZ hABC
  go_enter Try.func4, Try.ntmps4
  go_wp2_with fail
  rw [← HZ.out]
  refine (hamted_any Z).mono ?_
  rintro e w1 ⟨rfl, hb1⟩
  have hI : Filling Z w1.heap.size (fill none (l.take 0)) (w1.alloc (.cells #[.pointer none] 25)) := ⟨none, HO.nil _ _, belowTrans hb1 (belowAlloc _ _), hb1.size, heap_alloc_new _ _⟩
  have HI := Lib.hid hI
  clear hI hb1
  go_wp2_with fail
  go_loopw [13] (fun iv wr => ∃ j : Nat, iv = .int .i64 j ∧ j ≤ n ∧ Hid (Filling Z w1.heap.size (fill none (l.take j)) wr)) (fun iv _ => n - (intOf iv).toNat)
  case atStart => exact ⟨0, rfl, Nat.zero_le _, HI⟩
  case round =>
    obtain ⟨j, rfl, hj, HF⟩ := hrel
    have hok : OOk (fill none (l.take j)) := fill_ok _ _ trivial (fun p hp => HR.out.2.2 p (List.mem_of_mem_take hp))
    have hcnt : ocnt (fill none (l.take j)) ≤ j := by
      have h := fill_cnt (l.take j) none
      rw [List.length_take] at h
      have e : ocnt none = 0 := rfl
      omega
    obtain ⟨p, hp, hb, hG, hbx⟩ := HF.out
    have kb := cell_of_one hbx
    have j0 : (0 : Int) ≤ (j : Int) := by omega
    by_cases hlt : j < n
    · obtain ⟨q, o, rfl, k1, k2⟩ := (HR.out.1.up hb).at (k := j) (by rw [HR.out.2.1]; exact hlt)
      have hft := fill_take l j (by rw [HR.out.2.1]; exact hlt)
      have hik : I64 (l.getD j (0, 0)).1 := HR.out.2.2 _ (by rw [List.getD_eq_getElem?_getD, List.getElem?_eq_getElem (by rw [HR.out.2.1]; exact hlt)]; exact List.getElem_mem _)
      obtain ⟨y, hy⟩ : ∃ y, y = l.getD j (0, 0) := ⟨_, rfl⟩
      obtain ⟨y1, y2⟩ := y
      rw [← hy] at k1 k2 hft hik
      dsimp only at k1 k2 hft hik
      have j1 : (j : Int) < (n : Int) := by omega
      have HC := Lib.hid (fun W (hW : Below wr.heap.size wr W) => Put_any Z.heap.size W p (fill none (l.take j)) y1 y2 (szle hW hb.size) (hp.up hW) hok hik (by omega))
      have HX := Lib.hid (And.intro hb (And.intro hft hbx))
      clear hy hft hb hp hok hcnt hik hbx
      go_wp2_with fail
      go_region_with (first | (go_at_call 9; refine (HC.out _ (by exact belowDrew _)).mono ?_; rintro e w3 ⟨p3, rfl, hp3, hb3⟩; replace hb3 := belowTrans (belowDrew _) hb3; have hbx3 := upb hb3 HX.out.2.2; have c0 := cell_of_one hbx3; have f0 := free_of_one hbx3))
      all_goals
        have hF2 : Filling Z w1.heap.size (fill none (l.take (j + 1))) (w3.setCell ⟨w1.heap.size, 0, none⟩ (.pointer p3)) := by
          rw [HX.out.2.1]
          exact ⟨p3, HO.store (k := w1.heap.size) (off := 0) hbx3 (by decide) hp3, (HX.out.1.trans (hb3.mono HX.out.1.size)).setCell (p := ⟨w1.heap.size, 0, none⟩) hG _, hG, one_setCell hbx3⟩
        have HF2 := Lib.hid hF2
        clear hF2 hp3 hb3 hbx3 c0 f0 kb k1 k2
        go_wp2_with fail
        go_roundw
        case rel => exact ⟨j + 1, by go_num, hlt, HF2⟩
        case measure => simp [intOf]; omega
    · obtain rfl : j = n := by omega
      have htk : l.take j = l := List.take_of_length_le (by rw [HR.out.2.1]; exact Nat.le_refl _)
      rw [htk] at hok hcnt hp
      obtain ⟨om, hom⟩ : ∃ om, om = fill none l := ⟨_, rfl⟩
      rw [← hom] at hok hcnt hp
      have HY := Lib.hid (And.intro hok (And.intro hcnt (And.intro hp (And.intro hb hbx))))
      clear hok hcnt hp hb hbx hom htk HF HI HR
      go_wp2_with fail
      have hV : HE w a b c w1.heap.size wr.heap.size (wr.heap.size + 1) p om ((wr.alloc (.cells #[FFv w] 36)).alloc (.cells #[FGv w] 36)) := by
        have e1 := belowTrans (belowAlloc wr (.cells #[FFv w] 36)) (belowAlloc _ (.cells #[FGv w] 36))
        refine ⟨(HABC.out.up HY.out.2.2.2.1).up e1, heapNew1 _ _ _, heapNew2 _ _ _, upb e1 HY.out.2.2.2.2, (HY.out.2.2.1.lower HABC.out.bel.size).up e1⟩
      obtain ⟨V, hVe⟩ : ∃ V, V = ((wr.alloc (.cells #[FFv w] 36)).alloc (.cells #[FGv w] 36)) := ⟨_, rfl⟩
      rw [← hVe] at hV
      have HV := Lib.hid hV
      have HVe := Lib.hid hVe
      obtain ⟨m, hm⟩ : ∃ m, m = ocnt om := ⟨_, rfl⟩
      obtain ⟨td, htd⟩ : ∃ td, td = mkE (fAB a b c) (told om) := ⟨_, rfl⟩
      have HM : Hid (ocnt om = m ∧ mkE (fAB a b c) (told om) = td ∧ td.length = m) := Lib.hid ⟨hm.symm, htd.symm, by rw [htd, hm]; unfold mkE; rw [List.length_map, told_length]⟩
      have hmn : m ≤ 8796093021952 := by have := HY.out.2.1; omega
      clear hV hVe hm htd
      change Code.wp _ _ _ _ ((wr.alloc (.cells #[FFv w] 36)).alloc (.cells #[FGv w] 36))
      rw [← HVe.out]
      refine grow.wp_grow [grow.kEq (.agg #[.pointer p]), grow.kEq (.func (.func 15) #[] #[.pointer (some ⟨w.heap.size, 0, none⟩)]), kEach w.heap.size (fA a) om, grow.kEq (.func (.func 16) #[] #[.pointer (some ⟨w.heap.size + 1, 0, none⟩), .pointer (some ⟨w.heap.size + 1 + 1, 0, none⟩)]), kEach w.heap.size (fAB a b c) om, kRow m td, grow.kEq (.agg #[.pointer p]), grow.kEq (.func (.func 18) #[] #[.pointer (some ⟨wr.heap.size + 1, 0, none⟩), .pointer (some ⟨wr.heap.size, 0, none⟩)]), kEach w.heap.size (fAB a b c) om, kRow m td, grow.kEq (.bool true), grow.kEq (.bool true)] (by kernel_rfl) (by kernel_rfl) (by kernel_rfl) (by kernel_rfl) ?step ?fin
      case step =>
        refine grow.Each.cons ?_ ?_
        · intro A W hB hs hJ K hK
          have s0 := hs 12 (by kernel_rfl)
          simp at s0
          have kk := upc hB (cell_of_one HV.out.b0)
          rw [if_pos (by rfl)]
          clear hs hJ
          go_simp
          exact hK _ _ (Below.refl _ _) rfl
        refine grow.Each.cons ?_ ?_
        · intro A W hB hs hJ K hK
          have s0 := hs 14 (by kernel_rfl)
          simp at s0
          have kk := upc hB (cell_of_one HV.out.cF)
          unfold FFv at kk
          rw [if_pos (by rfl)]
          clear hs hJ
          go_simp
          exact hK _ _ (Below.refl _ _) rfl
        refine grow.Each.cons ?_ ?_
        · intro A W hB hs hJ K hK
          have s0 : A.tmps.getD 44 undef = .agg #[.pointer p] := hJ 0 44 (by kernel_rfl) (by kernel_rfl)
          simp at s0
          have s1 : A.tmps.getD 45 undef = .func (.func 15) #[] #[.pointer (some ⟨w.heap.size, 0, none⟩)] := hJ 1 45 (by kernel_rfl) (by kernel_rfl)
          simp at s1
          rw [if_pos (by rfl)]
          clear hs hJ
          go_simp
          go_at_call 17
          refine (Each_any1 w.heap.size (some ⟨w.heap.size, 0, none⟩) (fA a) W (HV.out.f1.up hB) p om (HV.out.h0.up hB) HY.out.1 (Nat.le_trans HV.out.abc.bel.size hB.size) (by have := HM.out.1; omega)).mono ?_
          rintro e W2 ⟨q, o1, rfl, hq, he, hb2⟩
          exact hK _ _ hb2 ⟨q, o1, rfl, hq, he⟩
        refine grow.Each.cons ?_ ?_
        · intro A W hB hs hJ K hK
          have s0 := hs 15 (by kernel_rfl)
          simp at s0
          have kk := upc hB (cell_of_one HV.out.cG)
          unfold FGv at kk
          rw [if_pos (by rfl)]
          clear hs hJ
          go_simp
          exact hK _ _ (Below.refl _ _) rfl
        refine grow.Each.cons ?_ ?_
        · intro A W hB hs hJ K hK
          obtain ⟨q, o1, s0, hq, he⟩ := hJ 2 46 (by kernel_rfl) (by kernel_rfl)
          simp at s0
          have s1 : A.tmps.getD 47 undef = .func (.func 16) #[] #[.pointer (some ⟨w.heap.size + 1, 0, none⟩), .pointer (some ⟨w.heap.size + 1 + 1, 0, none⟩)] := hJ 3 47 (by kernel_rfl) (by kernel_rfl)
          simp at s1
          rw [if_pos (by rfl)]
          clear hs hJ
          go_simp
          go_at_call 17
          refine (Each_any2 w.heap.size (some ⟨w.heap.size + 1, 0, none⟩) (some ⟨w.heap.size + 1 + 1, 0, none⟩) (fB b c) W (HV.out.f2.up hB) q o1 hq he.1 (Nat.le_trans HV.out.abc.bel.size hB.size) (by have := HM.out.1; have := he.2.1; omega)).mono ?_
          rintro e W2 ⟨q2, o2, rfl, hq2, he2, hb2⟩
          exact hK _ _ hb2 ⟨q2, o2, rfl, hq2, he.comp he2⟩
        refine grow.Each.cons ?_ ?_
        · intro A W hB hs hJ K hK
          obtain ⟨q, o1, s0, hq, he⟩ := hJ 4 48 (by kernel_rfl) (by kernel_rfl)
          simp at s0
          rw [if_pos (by rfl)]
          clear hs hJ
          go_simp
          go_at_call 12
          refine (Pairs_num w.heap.size W q o1 m hq he.1 (by rw [he.cnt HY.out.1]; exact HM.out.1) (by omega) td (by rw [he.told HY.out.1]; exact HM.out.2.1)).mono ?_
          rintro e W2 ⟨x1, x2, rfl, ho1, hb1⟩
          exact hK _ _ hb1 ⟨x1, x2, rfl, OwnP.reads ho1⟩
        refine grow.Each.cons ?_ ?_
        · intro A W hB hs hJ K hK
          have s0 := hs 12 (by kernel_rfl)
          simp at s0
          have kk := upc hB (cell_of_one HV.out.b0)
          rw [if_pos (by rfl)]
          clear hs hJ
          go_simp
          exact hK _ _ (Below.refl _ _) rfl
        refine grow.Each.cons ?_ ?_
        · intro A W hB hs hJ K hK
          have s0 := hs 15 (by kernel_rfl)
          simp at s0
          have s1 := hs 14 (by kernel_rfl)
          simp at s1
          rw [if_pos (by rfl)]
          clear hs hJ
          go_simp
          exact hK _ _ (Below.refl _ _) rfl
        refine grow.Each.cons ?_ ?_
        · intro A W hB hs hJ K hK
          have s0 : A.tmps.getD 50 undef = .agg #[.pointer p] := hJ 6 50 (by kernel_rfl) (by kernel_rfl)
          simp at s0
          have s1 : A.tmps.getD 51 undef = .func (.func 18) #[] #[.pointer (some ⟨wr.heap.size + 1, 0, none⟩), .pointer (some ⟨wr.heap.size, 0, none⟩)] := hJ 7 51 (by kernel_rfl) (by kernel_rfl)
          simp at s1
          rw [if_pos (by rfl)]
          clear hs hJ
          go_simp
          go_at_call 17
          refine (Each_any3 w.heap.size (some ⟨wr.heap.size + 1, 0, none⟩) (some ⟨wr.heap.size, 0, none⟩) (fAB a b c) W (HV.out.f3.up hB) p om (HV.out.h0.up hB) HY.out.1 (Nat.le_trans HV.out.abc.bel.size hB.size) (by have := HM.out.1; omega)).mono ?_
          rintro e W2 ⟨q, o1, rfl, hq, he, hb2⟩
          exact hK _ _ hb2 ⟨q, o1, rfl, hq, he⟩
        refine grow.Each.cons ?_ ?_
        · intro A W hB hs hJ K hK
          obtain ⟨q, o1, s0, hq, he⟩ := hJ 8 52 (by kernel_rfl) (by kernel_rfl)
          simp at s0
          rw [if_pos (by rfl)]
          clear hs hJ
          go_simp
          go_at_call 12
          refine (Pairs_num w.heap.size W q o1 m hq he.1 (by rw [he.cnt HY.out.1]; exact HM.out.1) (by omega) td (by rw [he.told HY.out.1]; exact HM.out.2.1)).mono ?_
          rintro e W2 ⟨x1, x2, rfl, ho1, hb1⟩
          exact hK _ _ hb1 ⟨x1, x2, rfl, OwnP.reads ho1⟩
        refine grow.Each.cons ?_ ?_
        · intro A W hB hs hJ K hK
          obtain ⟨a1, c1, s0, r1⟩ := hJ 5 49 (by kernel_rfl) (by kernel_rfl)
          simp at s0
          obtain ⟨a2, c2, s1, r2⟩ := hJ 9 53 (by kernel_rfl) (by kernel_rfl)
          simp at s1
          rw [if_pos (by rfl)]
          clear hs hJ
          go_simp
          go_at_call 13
          refine (samePairs_any a1 a2 c1 c2 m m td td W HM.out.2.2 HM.out.2.2 r1 r2 (by unfold maxLen; omega) true (decide_eq_true rfl)).mono ?_
          rintro e W2 ⟨rfl, q, hV⟩
          exact hK _ _ (by rw [hV]; exact belowDrewN _ _) rfl
        refine grow.Each.cons ?_ ?_
        · intro A W hB hs hJ K hK
          have s0 : A.tmps.getD 54 undef = .bool true := hJ 10 54 (by kernel_rfl) (by kernel_rfl)
          simp at s0
          rw [if_pos (by rfl)]
          clear hs hJ
          go_simp
          exact hK _ _ (Below.refl _ _) rfl
        exact grow.Each.nil
      case fin =>
        intro f W hB hF
        have f0 : f 0 = .agg #[.pointer p] := hF 0 (by decide)
        have f1 : f 1 = .func (.func 15) #[] #[.pointer (some ⟨w.heap.size, 0, none⟩)] := hF 1 (by decide)
        obtain ⟨q_2, o1_2, f2, -, -⟩ := hF 2 (by decide)
        have f3 : f 3 = .func (.func 16) #[] #[.pointer (some ⟨w.heap.size + 1, 0, none⟩), .pointer (some ⟨w.heap.size + 1 + 1, 0, none⟩)] := hF 3 (by decide)
        obtain ⟨q_4, o1_4, f4, -, -⟩ := hF 4 (by decide)
        obtain ⟨a1_5, c1_5, f5, r1_5⟩ := hF 5 (by decide)
        have f6 : f 6 = .agg #[.pointer p] := hF 6 (by decide)
        have f7 : f 7 = .func (.func 18) #[] #[.pointer (some ⟨wr.heap.size + 1, 0, none⟩), .pointer (some ⟨wr.heap.size, 0, none⟩)] := hF 7 (by decide)
        obtain ⟨q_8, o1_8, f8, -, -⟩ := hF 8 (by decide)
        obtain ⟨a2_9, c2_9, f9, r2_9⟩ := hF 9 (by decide)
        have f10 : f 10 = .bool true := hF 10 (by decide)
        have f11 : f 11 = .bool true := hF 11 (by decide)
        clear hF
        generalize hA : grow.puts _ _ f _ = A'
        simp only [List.length_cons, List.length_nil, Nat.reduceAdd, grow.puts, Act.put, List.getElem?_toArray, List.getElem?_cons_zero, List.getElem?_cons_succ, Option.bind_some, List.setIfInBounds_toArray, List.set_cons_zero, List.set_cons_succ, f0, f1, f2, f3, f4, f5, f6, f7, f8, f9, f10, f11] at hA
        subst hA
        have HW := Lib.hid (HV.out.up hB)
        obtain ⟨r, hr⟩ : ∃ r, oget om (tk k) = r := ⟨_, rfl⟩
        have Hr := Lib.hid hr
        have k0 := cell_of_one HW.out.b0
        clear hr hB
        go_wp2_with fail
        refine (Get_any w.heap.size W p om k HW.out.h0 HY.out.1 HK.out r Hr.out).mono ?_
        rintro e W2 ⟨rfl, hb2⟩
        have HW2 := Lib.hid (HW.out.up hb2)
        have k0 := cell_of_one HW2.out.b0
        have k1 := cell_of_one HW2.out.cF
        unfold FFv at k1
        clear hb2 HW
        go_wp2_with fail
        refine (Each_any1 w.heap.size (some ⟨w.heap.size, 0, none⟩) (fA a) W2 HW2.out.f1 p om HW2.out.h0 HY.out.1 HW2.out.abc.bel.size (by have := HM.out.1; omega)).mono ?_
        rintro e W3 ⟨q3, o3, rfl, hq3, he3, hb3⟩
        have HG3 := Lib.hid (Get_any w.heap.size W3 q3 o3 k hq3 he3.1 HK.out (r.map (fA a k)) (by rw [he3.get HY.out.1 HK.out, Hr.out]))
        have HW3 := Lib.hid (HW2.out.up hb3)
        clear hb3 HW2 hq3 he3 k0 k1
        go_wp2_with fail
        refine HG3.out.mono ?_
        rintro e W4 ⟨rfl, hb4⟩
        have HW4 := Lib.hid (HW3.out.up hb4)
        have kA := cell_of_one HW4.out.abc.cA
        clear hb4 HW3 HG3 Hr
        cases r with
        | none =>
          simp only [Option.map_none, Option.isSome_none, Option.getD_none]
          go_wp2_with fail
          go_ret
          exact ⟨rfl, HW4.out.abc.bel⟩
        | some x =>
          simp only [Option.map_some, Option.isSome_some, Option.getD_some, fA]
          go_wp2_with fail
          go_ret
          exact ⟨by simp, HW4.out.abc.bel⟩
theorem each_any (a0 : Option Addr) (c0 : Nat) (l : List (Int × Int)) (a b c k : Int) (w : World) (hb : l.length * 16 ≤ 140737488351232) (hr : ReadsP w a0 l) (hi : ∀ p ∈ l, I64 p.1) (hk : I64 k) :
    Calls Try.prog 4 #[.slice a0 l.length c0, .int .i64 a, .int .i64 b, .int .i64 c, .int .i64 k] w (Yes w) := each_law a0 c0 l.length l a b c k w rfl (by omega) hr hi hk
end Go.Proofs.Ytenaddjnaeebbaa.hamt
