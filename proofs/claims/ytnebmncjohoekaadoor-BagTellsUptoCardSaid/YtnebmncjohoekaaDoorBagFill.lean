/- Filled bags: those that can't be are left out. -/
import Derived.Test.YtnebmncjohoekaaDoorBagIn
import Derived.Test.YtnebmncjohoekaaDoorBagReg
import Derived.Test.YtnebmncjohoekaaDoorCounted
import Derived.Test.YtnebmncjohoekaaDoorErrIs
namespace Go.Proofs.YtnebmncjohoekaaDoor.bag
open Go.RowKit
open pat (PT HO OOk ocnt olist oget tk I64 lk told oput odrop ounion)

theorem told_with {o : Option PT} (ho : OOk o) {x : Int} (hx : I64 x) (n : Int) : told (withO o x n) = counted (told o) x n := by
  unfold withO counted
  split
  · exact pat.told_drop ho hx
  · exact pat.told_put ho hx (min n most)
/-- a bag that is well -/
structure Well (j : Nat) (o : Option PT) : Prop where
  ok : OOk o
  bnd : Bnd o
  n : ocnt o ≤ j
theorem well_next {j : Nat} {o : Option PT} (h : Well j o) {x : Int} (hx : I64 x) (n : Int) : Well (j + 1) (withO o x n) :=
  ⟨with_ok h.ok hx n, with_bnd h.ok h.bnd hx n, Nat.le_trans (with_cnt o x n) (Nat.succ_le_succ h.n)⟩
theorem Well.more {j : Nat} {o : Option PT} (h : Well j o) : Well (j + 1) o := ⟨h.ok, h.bnd, Nat.le_succ_of_le h.n⟩
/-- the result's cell and the bag's box -/
structure Fl (w : World) (o : Option PT) (p : Option Addr) (W : World) : Prop where
  bel : Below w.heap.size w W
  bR : W.heap[w.heap.size]? = some (.cells #[.pointer none] 28 (0, 0))
  bB : W.heap[w.heap.size + 1]? = some (.cells #[.pointer p] 28 (0, 0))
  h0 : HO w.heap.size W p o
theorem Fl.up {w : World} {o : Option PT} {p : Option Addr} {W W' : World} (h : Fl w o p W) (hb : Below W.heap.size W W') : Fl w o p W' :=
  ⟨h.bel.trans (hb.mono h.bel.size), upb hb h.bR, upb hb h.bB, h.h0.up hb⟩
theorem Fl.set {w : World} {o o' : Option PT} {p p' : Option Addr} {W : World} (h : Fl w o p W) (hp : HO w.heap.size W p' o') : Fl w o' p' (W.setCell ⟨w.heap.size + 1, 0, none⟩ (.pointer p')) :=
  ⟨belowSet (a := ⟨w.heap.size + 1, 0, none⟩) h.bel (Nat.le_succ _) _, far_set h.bR (by omega), one_setCell h.bB, pat.HO.store (k := w.heap.size + 1) (off := 0) h.bB (by decide) hp⟩
theorem Fl.row {w : World} {o : Option PT} {p : Option Addr} {W : World} (h : Fl w o p W) {D : Nat} {v u : Value} {xs : List (Int × Int)} (ho : OwnP W D v xs) : OwnP (W.setCell ⟨w.heap.size + 1, 0, none⟩ u) D v xs :=
  ho.keep (T := [28]) (KeepT.set (a := ⟨w.heap.size + 1, 0, none⟩) h.bB (by simp) _) (by decide)
def FlS (w : World) (j : Nat) (v : Value) (W : World) : Prop := ∃ o p, Well j o ∧ Fl w o p W ∧ OwnP W w.heap.size v (told o)
/-- what is known of a round -/
structure Rd (o : Option PT) (y1 y2 c m : Int) (r : Option Int) (ts : List (Int × Int)) (n : Nat) : Prop where
  ok : OOk o
  bnd : Bnd o
  i1 : I64 y1
  t : told o = ts
  tl : ts.length = n
  val : valued ts y1 = r
  rc : r.getD 0 = c
  cc : cnt o y1 = c
  mm : c + y2 = m
  n : ocnt o = n
/-- what 'filled' hands back -/
def RetF (w : World) (n : Nat) (e : Ending) (w' : World) : Prop := ∃ o p a m c, e = .returned (.tuple #[.agg #[.pointer p], .slice a m c, .bool true]) ∧ Well n o ∧ HO w.heap.size w' p o ∧ OwnP w' w.heap.size (.slice a m c) (told o) ∧ ocnt o = m ∧ Below w.heap.size w w'

set_option maxRecDepth 100000 in
set_option maxHeartbeats 8000000 in
theorem filled_any (a : Option Addr) (c n : Nat) (l : List (Int × Int)) (w : World) (hl : l.length = n) (hn : n ≤ 8796093022000) (hr : ReadsP w a l) (hi : ∀ p ∈ l, I64 p.1) (hg : er.Handle w) :
    Calls Tryd.prog 7 #[.slice a n c] w (RetF w n) := by
  have HR := Lib.hid (And.intro hr (And.intro hl hi))
  have HG := Lib.hid hg
  have hI : FlS w 0 (.slice none 0 0) ((w.alloc (.cells #[.pointer none] 28)).alloc (.cells #[.pointer none] 28)) :=
    ⟨none, none, ⟨trivial, bnd_none, Nat.le_refl _⟩, ⟨belowTrans (belowAlloc _ _) (belowAlloc _ _), heapNew1 w _ _, heapNew2 w _ _, rfl⟩, World.ownsRow_nil _ _ _ _⟩
  have HI := Lib.hid hI
  clear hr hl hi hg hI
  go_enter Tryd.func7, Tryd.ntmps7
  go_wp2_with fail
  go_loopw [6, 7] (fun ov iv wr => ∃ (j : Nat) (ow : Value), ow = ov ∧ iv = .int .i64 j ∧ j ≤ n ∧ Hid (FlS w j ow wr)) (fun _ iv _ => n - (intOf iv).toNat)
  case atStart => exact ⟨0, _, rfl, rfl, Nat.zero_le _, HI⟩
  case round =>
    obtain ⟨j, ow, rfl, rfl, hj, HF⟩ := hrel
    have j0 : (0 : Int) ≤ (j : Int) := by omega
    obtain ⟨o, p, hW, hT, hrow⟩ := HF.out
    have kb := cell_of_one hT.bB
    by_cases hlt : j < n
    · obtain ⟨qa, oa, rfl, q01, q02⟩ := HR.out.1.at (k := j) (by rw [HR.out.2.1]; exact hlt)
      have q1 := upc hT.bel q01
      have q2 := upc hT.bel q02
      have hik : I64 (l.getD j (0, 0)).1 := HR.out.2.2 _ (by rw [List.getD_eq_getElem?_getD, List.getElem?_eq_getElem (by rw [HR.out.2.1]; exact hlt)]; exact List.getElem_mem _)
      obtain ⟨y, hy⟩ : ∃ y, y = l.getD j (0, 0) := ⟨_, rfl⟩
      obtain ⟨y1, y2⟩ := y
      rw [← hy] at q1 q2 q01 q02 hik
      dsimp only at q1 q2 q01 q02 hik
      have hR0 : Rd o y1 y2 (cnt o y1) (cnt o y1 + y2) (valued (told o) y1) (told o) (ocnt o) := ⟨hW.ok, hW.bnd, hik, rfl, pat.told_length o, rfl, by rw [pat.valued_told hW.ok hik]; rfl, rfl, rfl, rfl⟩
      have hcb := cnt_bnd hW.ok hW.bnd y1
      have hcn := hW.n
      obtain ⟨ts, hts⟩ : ∃ ts, told o = ts := ⟨_, rfl⟩
      rw [hts] at hrow hR0
      obtain ⟨am, cm, hov, -⟩ := hrow.form
      rw [hR0.tl] at hov
      obtain ⟨k, hk⟩ : ∃ k, ocnt o = k := ⟨_, rfl⟩
      rw [hk] at hov hR0 hcn
      subst hov
      obtain ⟨r, hrr⟩ : ∃ r, valued ts y1 = r := ⟨_, rfl⟩
      rw [hrr] at hR0
      obtain ⟨cc, hcc⟩ : ∃ c, cnt o y1 = c := ⟨_, rfl⟩
      rw [hcc] at hR0 hcb
      obtain ⟨mm, hmm⟩ : ∃ m, cc + y2 = m := ⟨_, rfl⟩
      rw [hmm] at hR0
      have hmost : most = 1099511627776 := rfl
      rw [hmost] at hcb
      obtain ⟨cb0, cb1⟩ := hcb
      have j1 : (j : Int) < (n : Int) := by omega
      have HN := Lib.hid hR0
      have HT := Lib.hid hT
      have HO1 := Lib.hid hrow
      have HW := Lib.hid hW
      have HQ := Lib.hid (And.intro q01 q02)
      have HV := Lib.hid (fun W (hW : Below wr.heap.size wr W) => Valued_any am cm k ts y1 W hR0.tl (by omega) (OwnP.reads (hrow.up hW)) r hrr)
      have HM := Lib.hid hmm
      clear hy hik hts hk hrr hcc hmm hR0 hT hrow hW HF q01 q02 hmost
      go_wp2_with fail
      refine (HV.out wr (Below.refl _ _)).mono ?_
      rintro e w2 ⟨rfl, rfl⟩
      rw [HN.out.rc]
      obtain ⟨rs, hrs⟩ : ∃ x : Bool, x = r.isSome := ⟨_, rfl⟩
      rw [← hrs]
      clear hrs HV

      by_cases n1 : y2 < -1073741824
      · have HCb := Lib.hid (fun W (hW : Below wr.heap.size wr W) => Put_bad w.heap.size W p o y1 y2 (HT.out.h0.up hW) HN.out.ok HN.out.i1 (by rw [HN.out.cc]; exact ⟨cb0, cb1⟩) (by unfold badPut most; rw [HN.out.cc]; exact .inl n1))
        clear HM
        go_wp2_with fail
        refine grow.wp_grow_mid 16 13 15 _ [grow.kEq (.agg #[.pointer p]), grow.kEq (.slice (some ⟨qa, oa, none⟩) n c), grow.kEq (.int .i64 (j : Nat)), grow.kEq (.pointer (some ⟨qa, oa + j * 2, none⟩)), grow.kEq (.pointer (some ⟨qa, oa + j * 2, none⟩)), grow.kEq (.int .i64 y1), grow.kEq (.slice (some ⟨qa, oa, none⟩) n c), grow.kEq (.int .i64 (j : Nat)), grow.kEq (.pointer (some ⟨qa, oa + j * 2, none⟩)), grow.kEq (.pointer (some ⟨qa, oa + j * 2 + 1, none⟩)), grow.kEq (.int .i64 y2), kTup w.heap.size none (.iface 50 (.int .i64 1)), kTup w.heap.size none (.iface 50 (.int .i64 1)), kBag w.heap.size none, grow.kEq (.iface 50 (.int .i64 1)), kNew wr.heap.size, grow.kAny, grow.kEq (.iface 50 (.int .i64 1))] [grow.kEq (.agg #[.pointer p]), grow.kEq (.slice (some ⟨qa, oa, none⟩) n c), grow.kEq (.int .i64 (j : Nat)), grow.kEq (.pointer (some ⟨qa, oa + j * 2, none⟩)), grow.kEq (.pointer (some ⟨qa, oa + j * 2, none⟩)), grow.kEq (.int .i64 y1), grow.kEq (.slice (some ⟨qa, oa, none⟩) n c), grow.kEq (.int .i64 (j : Nat)), grow.kEq (.pointer (some ⟨qa, oa + j * 2, none⟩)), grow.kEq (.pointer (some ⟨qa, oa + j * 2 + 1, none⟩)), grow.kEq (.int .i64 y2), kTupF (.iface 50 (.int .i64 1)), kTupF (.iface 50 (.int .i64 1)), grow.kAny, grow.kEq (.iface 50 (.int .i64 1)), grow.kAny, grow.kAny, grow.kEq (.iface 50 (.int .i64 1))] (pvBag wr.heap.size w.heap.size none) (by decide) rfl rfl rfl (by kernel_rfl) (by kernel_rfl) (by kernel_rfl) (by kernel_rfl) (by kernel_rfl) (by kernel_rfl) ?flat ?monoP ?step ?hst ?fin
        case flat =>
          intro i
          match i with
          | 0 => exact fun _ _ _ h => h
          | 1 => exact fun _ _ _ h => h
          | 2 => exact fun _ _ _ h => h
          | 3 => exact fun _ _ _ h => h
          | 4 => exact fun _ _ _ h => h
          | 5 => exact fun _ _ _ h => h
          | 6 => exact fun _ _ _ h => h
          | 7 => exact fun _ _ _ h => h
          | 8 => exact fun _ _ _ h => h
          | 9 => exact fun _ _ _ h => h
          | 10 => exact fun _ _ _ h => h
          | 11 => exact fun _ _ _ ⟨p, e, _⟩ => ⟨p, e⟩
          | 12 => exact fun _ _ _ ⟨p, e, _⟩ => ⟨p, e⟩
          | 13 => exact fun _ _ _ _ => trivial
          | 14 => exact fun _ _ _ h => h
          | 15 => exact fun _ _ _ _ => trivial
          | 16 => exact fun _ _ _ _ => trivial
          | 17 => exact fun _ _ _ h => h
          | i + 18 => exact fun _ _ _ _ => trivial
        case monoP => exact pvBag_up _ _ _
        case step =>
          refine grow.EachM.cons (by kernel_rfl) ?_ ?_
          · intro A W hB hs hJ K hK
            have s0 := hs 5 (by kernel_rfl)
            simp at s0
            have kk := upc hB kb
            rw [if_pos (by rfl)]
            clear hs hJ
            go_simp
            exact hK _ _ (Below.refl _ _) rfl
          refine grow.EachM.cons (by kernel_rfl) ?_ ?_
          · intro A W hB hs hJ K hK
            have s0 := hs 0 (by kernel_rfl)
            simp at s0
            rw [if_pos (by rfl)]
            clear hs hJ
            go_simp
            exact hK _ _ (Below.refl _ _) rfl
          refine grow.EachM.cons (by kernel_rfl) ?_ ?_
          · intro A W hB hs hJ K hK
            have s0 := hs 7 (by kernel_rfl)
            simp at s0
            rw [if_pos (by rfl)]
            clear hs hJ
            go_simp
            exact hK _ _ (Below.refl _ _) rfl
          refine grow.EachM.cons (by kernel_rfl) ?_ ?_
          · intro A W hB hs hJ K hK
            have s0 : A.tmps.getD 56 undef = .slice (some ⟨qa, oa, none⟩) n c := hJ 1 56 (by kernel_rfl) (by kernel_rfl)
            simp at s0
            have s1 : A.tmps.getD 57 undef = .int .i64 (j : Nat) := hJ 2 57 (by kernel_rfl) (by kernel_rfl)
            simp at s1
            rw [if_pos (by rfl)]
            clear hs hJ
            go_simp
            exact hK _ _ (Below.refl _ _) rfl
          refine grow.EachM.cons (by kernel_rfl) ?_ ?_
          · intro A W hB hs hJ K hK
            have s0 : A.tmps.getD 58 undef = .pointer (some ⟨qa, oa + j * 2, none⟩) := hJ 3 58 (by kernel_rfl) (by kernel_rfl)
            simp at s0
            rw [if_pos (by rfl)]
            clear hs hJ
            go_simp
            exact hK _ _ (Below.refl _ _) rfl
          refine grow.EachM.cons (by kernel_rfl) ?_ ?_
          · intro A W hB hs hJ K hK
            have s0 : A.tmps.getD 59 undef = .pointer (some ⟨qa, oa + j * 2, none⟩) := hJ 4 59 (by kernel_rfl) (by kernel_rfl)
            simp at s0
            have kk := upc hB q1
            rw [if_pos (by rfl)]
            clear hs hJ
            go_simp
            exact hK _ _ (Below.refl _ _) rfl
          refine grow.EachM.cons (by kernel_rfl) ?_ ?_
          · intro A W hB hs hJ K hK
            have s0 := hs 0 (by kernel_rfl)
            simp at s0
            rw [if_pos (by rfl)]
            clear hs hJ
            go_simp
            exact hK _ _ (Below.refl _ _) rfl
          refine grow.EachM.cons (by kernel_rfl) ?_ ?_
          · intro A W hB hs hJ K hK
            have s0 := hs 7 (by kernel_rfl)
            simp at s0
            rw [if_pos (by rfl)]
            clear hs hJ
            go_simp
            exact hK _ _ (Below.refl _ _) rfl
          refine grow.EachM.cons (by kernel_rfl) ?_ ?_
          · intro A W hB hs hJ K hK
            have s0 : A.tmps.getD 61 undef = .slice (some ⟨qa, oa, none⟩) n c := hJ 6 61 (by kernel_rfl) (by kernel_rfl)
            simp at s0
            have s1 : A.tmps.getD 62 undef = .int .i64 (j : Nat) := hJ 7 62 (by kernel_rfl) (by kernel_rfl)
            simp at s1
            rw [if_pos (by rfl)]
            clear hs hJ
            go_simp
            exact hK _ _ (Below.refl _ _) rfl
          refine grow.EachM.cons (by kernel_rfl) ?_ ?_
          · intro A W hB hs hJ K hK
            have s0 : A.tmps.getD 63 undef = .pointer (some ⟨qa, oa + j * 2, none⟩) := hJ 8 63 (by kernel_rfl) (by kernel_rfl)
            simp at s0
            rw [if_pos (by rfl)]
            clear hs hJ
            go_simp
            exact hK _ _ (Below.refl _ _) rfl
          refine grow.EachM.cons (by kernel_rfl) ?_ ?_
          · intro A W hB hs hJ K hK
            have s0 : A.tmps.getD 64 undef = .pointer (some ⟨qa, oa + j * 2 + 1, none⟩) := hJ 9 64 (by kernel_rfl) (by kernel_rfl)
            simp at s0
            have kk := upc hB q2
            rw [if_pos (by rfl)]
            clear hs hJ
            go_simp
            exact hK _ _ (Below.refl _ _) rfl
          refine grow.EachM.cons (by kernel_rfl) ?_ ?_
          · intro A W hB hs hJ K hK
            have s0 : A.tmps.getD 55 undef = .agg #[.pointer p] := hJ 0 55 (by kernel_rfl) (by kernel_rfl)
            simp at s0
            have s1 : A.tmps.getD 60 undef = .int .i64 y1 := hJ 5 60 (by kernel_rfl) (by kernel_rfl)
            simp at s1
            have s2 : A.tmps.getD 65 undef = .int .i64 y2 := hJ 10 65 (by kernel_rfl) (by kernel_rfl)
            simp at s2
            rw [if_pos (by rfl)]
            clear hs hJ
            go_simp
            go_at_call 20
            refine (HCb.out W hB).mono ?_
            rintro e W2 ⟨rfl, hrU⟩
            exact hK _ _ hrU ⟨none, rfl, rfl⟩
          refine grow.EachM.cons (by kernel_rfl) ?_ ?_
          · intro A W hB hs hJ K hK
            obtain ⟨pT, s0, hT1⟩ := hJ 11 66 (by kernel_rfl) (by kernel_rfl)
            simp at s0
            rw [if_pos (by rfl)]
            clear hs hJ
            go_simp
            exact hK _ _ (Below.refl _ _) ⟨pT, rfl, hT1⟩
          refine grow.EachM.cons (by kernel_rfl) ?_ ?_
          · intro A W hB hs hJ K hK
            obtain ⟨pT, s0, hT1⟩ := hJ 12 54 (by kernel_rfl) (by kernel_rfl)
            simp at s0
            rw [if_pos (by rfl)]
            clear hs hJ
            go_simp
            exact hK _ _ (Below.refl _ _) ⟨pT, rfl, hT1⟩
          refine grow.EachM.late (by kernel_rfl) ?_ ?_
          · intro A W hB hs hJ K hK
            obtain ⟨pF, s0⟩ := hJ 12 54 (by kernel_rfl) (by kernel_rfl)
            simp at s0
            rw [if_pos (by rfl)]
            clear hs hJ
            go_simp
            exact hK _ _ (Below.refl _ _) rfl
          refine grow.EachM.cons (by kernel_rfl) ?_ ?_
          · intro A W hB hs hJ K hK
            rw [if_pos (by rfl)]
            clear hs hJ
            go_simp
            exact hK _ _ (belowAlloc _ _) ⟨_, rfl, hB.size, heap_alloc_new _ _⟩
          refine grow.EachM.skip ?_
          refine grow.EachM.late (by kernel_rfl) ?_ ?_
          · intro A W hB hs hJ K hK
            have s0 : A.tmps.getD 68 undef = .iface 50 (.int .i64 1) := hJ 14 68 (by kernel_rfl) (by kernel_rfl)
            simp at s0
            rw [if_pos (by rfl)]
            clear hs hJ
            go_simp
            exact hK _ _ (Below.refl _ _) rfl
          exact grow.EachM.nil
        case hst =>
          intro f W hB hF A hA
          obtain ⟨bN, f15, hN1, hN2⟩ := hF 15 (grow.ancs_sound _ _ _ (by decide +kernel)) (by decide)
          obtain ⟨pA, f13, hA1⟩ := hF 13 (grow.ancs_sound _ _ _ (by decide +kernel)) (by decide)
          have u11 : A.tmps.getD 11 undef = f 15 := by rw [← hA]; exact grow.puts_at (by kernel_rfl) (by kernel_rfl) (of_decide_eq_true (by kernel_rfl)) _ (by decide) (by decide)
          rw [f15] at u11
          simp at u11
          have u67 : A.tmps.getD 67 undef = f 13 := by rw [← hA]; exact grow.puts_at (by kernel_rfl) (by kernel_rfl) (of_decide_eq_true (by kernel_rfl)) _ (by decide) (by decide)
          rw [f13] at u67
          simp at u67
          have kN := cell_of_one hN2
          have fN := free_of_one hN2
          clear hA
          go_simp
          exact ⟨⟨pA, bN, by first | exact f13 | rfl, by first | exact f15 | rfl, hN1, one_setCell hN2, pat.HO.store (k := bN) (off := 0) hN2 (by decide) hA1⟩, belowSet (a := ⟨bN, 0, none⟩) hB hN1 _⟩
        case fin =>
          intro f W hB hF hP A hA
          have f0 : f 0 = .agg #[.pointer p] := hF 0 (by decide) (by decide)
          have f1 : f 1 = .slice (some ⟨qa, oa, none⟩) n c := hF 1 (by decide) (by decide)
          have f2 : f 2 = .int .i64 (j : Nat) := hF 2 (by decide) (by decide)
          have f3 : f 3 = .pointer (some ⟨qa, oa + j * 2, none⟩) := hF 3 (by decide) (by decide)
          have f4 : f 4 = .pointer (some ⟨qa, oa + j * 2, none⟩) := hF 4 (by decide) (by decide)
          have f5 : f 5 = .int .i64 y1 := hF 5 (by decide) (by decide)
          have f6 : f 6 = .slice (some ⟨qa, oa, none⟩) n c := hF 6 (by decide) (by decide)
          have f7 : f 7 = .int .i64 (j : Nat) := hF 7 (by decide) (by decide)
          have f8 : f 8 = .pointer (some ⟨qa, oa + j * 2, none⟩) := hF 8 (by decide) (by decide)
          have f9 : f 9 = .pointer (some ⟨qa, oa + j * 2 + 1, none⟩) := hF 9 (by decide) (by decide)
          have f10 : f 10 = .int .i64 y2 := hF 10 (by decide) (by decide)
          obtain ⟨pF_11, f11⟩ := hF 11 (by decide) (by decide)
          obtain ⟨pF_12, f12⟩ := hF 12 (by decide) (by decide)
          have f14 : f 14 = .iface 50 (.int .i64 1) := hF 14 (by decide) (by decide)
          have f17 : f 17 = .iface 50 (.int .i64 1) := hF 17 (by decide) (by decide)
          obtain ⟨pC, bC, f13, f15, hC1, hC2, hC3⟩ := hP
          clear hF
          simp only [grow.puts, Act.put, List.length_cons, List.length_nil, Nat.reduceAdd, List.getElem?_toArray, List.getElem?_cons_zero, List.getElem?_cons_succ, Option.bind_some, List.setIfInBounds_toArray, List.set_cons_zero, List.set_cons_succ, f0, f1, f2, f3, f4, f5, f6, f7, f8, f9, f10, f11, f12, f13, f14, f15, f17] at hA
          subst hA
          have HTn := Lib.hid (HT.out.up hB)
          have HOn := Lib.hid (HO1.out.up hB)
          have HE := Lib.hid (er.errIs_any (.iface 50 (.int .i64 1)) 1 1 W (HG.out.up HTn.out.bel) rfl true rfl)
          clear hB hC1 hC2 hC3 HCb kb q1 q2
          go_wp2_with fail
          refine HE.out.mono ?_
          rintro e W2 ⟨rfl, hbE⟩
          have HS : Hid (FlS w (j + 1) (.slice am k cm) W2) := Lib.hid ⟨o, p, HW.out.more, HTn.out.up hbE, by rw [HN.out.t]; exact HOn.out.up hbE⟩
          clear hbE HE HTn HOn
          go_wp2_with fail
          go_roundw
          case rel => exact ⟨j + 1, _, rfl, by go_num, hlt, HS⟩
          case measure => simp [intOf]; omega
      · have n1' : -1073741824 ≤ y2 := by omega
        by_cases n2 : 1073741824 < y2
        · have HCb := Lib.hid (fun W (hW : Below wr.heap.size wr W) => Put_bad w.heap.size W p o y1 y2 (HT.out.h0.up hW) HN.out.ok HN.out.i1 (by rw [HN.out.cc]; exact ⟨cb0, cb1⟩) (by unfold badPut most; rw [HN.out.cc]; exact .inr (.inl n2)))
          clear HM
          go_wp2_with fail
          refine grow.wp_grow_mid 16 13 15 _ [grow.kEq (.agg #[.pointer p]), grow.kEq (.slice (some ⟨qa, oa, none⟩) n c), grow.kEq (.int .i64 (j : Nat)), grow.kEq (.pointer (some ⟨qa, oa + j * 2, none⟩)), grow.kEq (.pointer (some ⟨qa, oa + j * 2, none⟩)), grow.kEq (.int .i64 y1), grow.kEq (.slice (some ⟨qa, oa, none⟩) n c), grow.kEq (.int .i64 (j : Nat)), grow.kEq (.pointer (some ⟨qa, oa + j * 2, none⟩)), grow.kEq (.pointer (some ⟨qa, oa + j * 2 + 1, none⟩)), grow.kEq (.int .i64 y2), kTup w.heap.size none (.iface 50 (.int .i64 1)), kTup w.heap.size none (.iface 50 (.int .i64 1)), kBag w.heap.size none, grow.kEq (.iface 50 (.int .i64 1)), kNew wr.heap.size, grow.kAny, grow.kEq (.iface 50 (.int .i64 1))] [grow.kEq (.agg #[.pointer p]), grow.kEq (.slice (some ⟨qa, oa, none⟩) n c), grow.kEq (.int .i64 (j : Nat)), grow.kEq (.pointer (some ⟨qa, oa + j * 2, none⟩)), grow.kEq (.pointer (some ⟨qa, oa + j * 2, none⟩)), grow.kEq (.int .i64 y1), grow.kEq (.slice (some ⟨qa, oa, none⟩) n c), grow.kEq (.int .i64 (j : Nat)), grow.kEq (.pointer (some ⟨qa, oa + j * 2, none⟩)), grow.kEq (.pointer (some ⟨qa, oa + j * 2 + 1, none⟩)), grow.kEq (.int .i64 y2), kTupF (.iface 50 (.int .i64 1)), kTupF (.iface 50 (.int .i64 1)), grow.kAny, grow.kEq (.iface 50 (.int .i64 1)), grow.kAny, grow.kAny, grow.kEq (.iface 50 (.int .i64 1))] (pvBag wr.heap.size w.heap.size none) (by decide) rfl rfl rfl (by kernel_rfl) (by kernel_rfl) (by kernel_rfl) (by kernel_rfl) (by kernel_rfl) (by kernel_rfl) ?flat ?monoP ?step ?hst ?fin
          case flat =>
            intro i
            match i with
            | 0 => exact fun _ _ _ h => h
            | 1 => exact fun _ _ _ h => h
            | 2 => exact fun _ _ _ h => h
            | 3 => exact fun _ _ _ h => h
            | 4 => exact fun _ _ _ h => h
            | 5 => exact fun _ _ _ h => h
            | 6 => exact fun _ _ _ h => h
            | 7 => exact fun _ _ _ h => h
            | 8 => exact fun _ _ _ h => h
            | 9 => exact fun _ _ _ h => h
            | 10 => exact fun _ _ _ h => h
            | 11 => exact fun _ _ _ ⟨p, e, _⟩ => ⟨p, e⟩
            | 12 => exact fun _ _ _ ⟨p, e, _⟩ => ⟨p, e⟩
            | 13 => exact fun _ _ _ _ => trivial
            | 14 => exact fun _ _ _ h => h
            | 15 => exact fun _ _ _ _ => trivial
            | 16 => exact fun _ _ _ _ => trivial
            | 17 => exact fun _ _ _ h => h
            | i + 18 => exact fun _ _ _ _ => trivial
          case monoP => exact pvBag_up _ _ _
          case step =>
            refine grow.EachM.cons (by kernel_rfl) ?_ ?_
            · intro A W hB hs hJ K hK
              have s0 := hs 5 (by kernel_rfl)
              simp at s0
              have kk := upc hB kb
              rw [if_pos (by rfl)]
              clear hs hJ
              go_simp
              exact hK _ _ (Below.refl _ _) rfl
            refine grow.EachM.cons (by kernel_rfl) ?_ ?_
            · intro A W hB hs hJ K hK
              have s0 := hs 0 (by kernel_rfl)
              simp at s0
              rw [if_pos (by rfl)]
              clear hs hJ
              go_simp
              exact hK _ _ (Below.refl _ _) rfl
            refine grow.EachM.cons (by kernel_rfl) ?_ ?_
            · intro A W hB hs hJ K hK
              have s0 := hs 7 (by kernel_rfl)
              simp at s0
              rw [if_pos (by rfl)]
              clear hs hJ
              go_simp
              exact hK _ _ (Below.refl _ _) rfl
            refine grow.EachM.cons (by kernel_rfl) ?_ ?_
            · intro A W hB hs hJ K hK
              have s0 : A.tmps.getD 56 undef = .slice (some ⟨qa, oa, none⟩) n c := hJ 1 56 (by kernel_rfl) (by kernel_rfl)
              simp at s0
              have s1 : A.tmps.getD 57 undef = .int .i64 (j : Nat) := hJ 2 57 (by kernel_rfl) (by kernel_rfl)
              simp at s1
              rw [if_pos (by rfl)]
              clear hs hJ
              go_simp
              exact hK _ _ (Below.refl _ _) rfl
            refine grow.EachM.cons (by kernel_rfl) ?_ ?_
            · intro A W hB hs hJ K hK
              have s0 : A.tmps.getD 58 undef = .pointer (some ⟨qa, oa + j * 2, none⟩) := hJ 3 58 (by kernel_rfl) (by kernel_rfl)
              simp at s0
              rw [if_pos (by rfl)]
              clear hs hJ
              go_simp
              exact hK _ _ (Below.refl _ _) rfl
            refine grow.EachM.cons (by kernel_rfl) ?_ ?_
            · intro A W hB hs hJ K hK
              have s0 : A.tmps.getD 59 undef = .pointer (some ⟨qa, oa + j * 2, none⟩) := hJ 4 59 (by kernel_rfl) (by kernel_rfl)
              simp at s0
              have kk := upc hB q1
              rw [if_pos (by rfl)]
              clear hs hJ
              go_simp
              exact hK _ _ (Below.refl _ _) rfl
            refine grow.EachM.cons (by kernel_rfl) ?_ ?_
            · intro A W hB hs hJ K hK
              have s0 := hs 0 (by kernel_rfl)
              simp at s0
              rw [if_pos (by rfl)]
              clear hs hJ
              go_simp
              exact hK _ _ (Below.refl _ _) rfl
            refine grow.EachM.cons (by kernel_rfl) ?_ ?_
            · intro A W hB hs hJ K hK
              have s0 := hs 7 (by kernel_rfl)
              simp at s0
              rw [if_pos (by rfl)]
              clear hs hJ
              go_simp
              exact hK _ _ (Below.refl _ _) rfl
            refine grow.EachM.cons (by kernel_rfl) ?_ ?_
            · intro A W hB hs hJ K hK
              have s0 : A.tmps.getD 61 undef = .slice (some ⟨qa, oa, none⟩) n c := hJ 6 61 (by kernel_rfl) (by kernel_rfl)
              simp at s0
              have s1 : A.tmps.getD 62 undef = .int .i64 (j : Nat) := hJ 7 62 (by kernel_rfl) (by kernel_rfl)
              simp at s1
              rw [if_pos (by rfl)]
              clear hs hJ
              go_simp
              exact hK _ _ (Below.refl _ _) rfl
            refine grow.EachM.cons (by kernel_rfl) ?_ ?_
            · intro A W hB hs hJ K hK
              have s0 : A.tmps.getD 63 undef = .pointer (some ⟨qa, oa + j * 2, none⟩) := hJ 8 63 (by kernel_rfl) (by kernel_rfl)
              simp at s0
              rw [if_pos (by rfl)]
              clear hs hJ
              go_simp
              exact hK _ _ (Below.refl _ _) rfl
            refine grow.EachM.cons (by kernel_rfl) ?_ ?_
            · intro A W hB hs hJ K hK
              have s0 : A.tmps.getD 64 undef = .pointer (some ⟨qa, oa + j * 2 + 1, none⟩) := hJ 9 64 (by kernel_rfl) (by kernel_rfl)
              simp at s0
              have kk := upc hB q2
              rw [if_pos (by rfl)]
              clear hs hJ
              go_simp
              exact hK _ _ (Below.refl _ _) rfl
            refine grow.EachM.cons (by kernel_rfl) ?_ ?_
            · intro A W hB hs hJ K hK
              have s0 : A.tmps.getD 55 undef = .agg #[.pointer p] := hJ 0 55 (by kernel_rfl) (by kernel_rfl)
              simp at s0
              have s1 : A.tmps.getD 60 undef = .int .i64 y1 := hJ 5 60 (by kernel_rfl) (by kernel_rfl)
              simp at s1
              have s2 : A.tmps.getD 65 undef = .int .i64 y2 := hJ 10 65 (by kernel_rfl) (by kernel_rfl)
              simp at s2
              rw [if_pos (by rfl)]
              clear hs hJ
              go_simp
              go_at_call 20
              refine (HCb.out W hB).mono ?_
              rintro e W2 ⟨rfl, hrU⟩
              exact hK _ _ hrU ⟨none, rfl, rfl⟩
            refine grow.EachM.cons (by kernel_rfl) ?_ ?_
            · intro A W hB hs hJ K hK
              obtain ⟨pT, s0, hT1⟩ := hJ 11 66 (by kernel_rfl) (by kernel_rfl)
              simp at s0
              rw [if_pos (by rfl)]
              clear hs hJ
              go_simp
              exact hK _ _ (Below.refl _ _) ⟨pT, rfl, hT1⟩
            refine grow.EachM.cons (by kernel_rfl) ?_ ?_
            · intro A W hB hs hJ K hK
              obtain ⟨pT, s0, hT1⟩ := hJ 12 54 (by kernel_rfl) (by kernel_rfl)
              simp at s0
              rw [if_pos (by rfl)]
              clear hs hJ
              go_simp
              exact hK _ _ (Below.refl _ _) ⟨pT, rfl, hT1⟩
            refine grow.EachM.late (by kernel_rfl) ?_ ?_
            · intro A W hB hs hJ K hK
              obtain ⟨pF, s0⟩ := hJ 12 54 (by kernel_rfl) (by kernel_rfl)
              simp at s0
              rw [if_pos (by rfl)]
              clear hs hJ
              go_simp
              exact hK _ _ (Below.refl _ _) rfl
            refine grow.EachM.cons (by kernel_rfl) ?_ ?_
            · intro A W hB hs hJ K hK
              rw [if_pos (by rfl)]
              clear hs hJ
              go_simp
              exact hK _ _ (belowAlloc _ _) ⟨_, rfl, hB.size, heap_alloc_new _ _⟩
            refine grow.EachM.skip ?_
            refine grow.EachM.late (by kernel_rfl) ?_ ?_
            · intro A W hB hs hJ K hK
              have s0 : A.tmps.getD 68 undef = .iface 50 (.int .i64 1) := hJ 14 68 (by kernel_rfl) (by kernel_rfl)
              simp at s0
              rw [if_pos (by rfl)]
              clear hs hJ
              go_simp
              exact hK _ _ (Below.refl _ _) rfl
            exact grow.EachM.nil
          case hst =>
            intro f W hB hF A hA
            obtain ⟨bN, f15, hN1, hN2⟩ := hF 15 (grow.ancs_sound _ _ _ (by decide +kernel)) (by decide)
            obtain ⟨pA, f13, hA1⟩ := hF 13 (grow.ancs_sound _ _ _ (by decide +kernel)) (by decide)
            have u11 : A.tmps.getD 11 undef = f 15 := by rw [← hA]; exact grow.puts_at (by kernel_rfl) (by kernel_rfl) (of_decide_eq_true (by kernel_rfl)) _ (by decide) (by decide)
            rw [f15] at u11
            simp at u11
            have u67 : A.tmps.getD 67 undef = f 13 := by rw [← hA]; exact grow.puts_at (by kernel_rfl) (by kernel_rfl) (of_decide_eq_true (by kernel_rfl)) _ (by decide) (by decide)
            rw [f13] at u67
            simp at u67
            have kN := cell_of_one hN2
            have fN := free_of_one hN2
            clear hA
            go_simp
            exact ⟨⟨pA, bN, by first | exact f13 | rfl, by first | exact f15 | rfl, hN1, one_setCell hN2, pat.HO.store (k := bN) (off := 0) hN2 (by decide) hA1⟩, belowSet (a := ⟨bN, 0, none⟩) hB hN1 _⟩
          case fin =>
            intro f W hB hF hP A hA
            have f0 : f 0 = .agg #[.pointer p] := hF 0 (by decide) (by decide)
            have f1 : f 1 = .slice (some ⟨qa, oa, none⟩) n c := hF 1 (by decide) (by decide)
            have f2 : f 2 = .int .i64 (j : Nat) := hF 2 (by decide) (by decide)
            have f3 : f 3 = .pointer (some ⟨qa, oa + j * 2, none⟩) := hF 3 (by decide) (by decide)
            have f4 : f 4 = .pointer (some ⟨qa, oa + j * 2, none⟩) := hF 4 (by decide) (by decide)
            have f5 : f 5 = .int .i64 y1 := hF 5 (by decide) (by decide)
            have f6 : f 6 = .slice (some ⟨qa, oa, none⟩) n c := hF 6 (by decide) (by decide)
            have f7 : f 7 = .int .i64 (j : Nat) := hF 7 (by decide) (by decide)
            have f8 : f 8 = .pointer (some ⟨qa, oa + j * 2, none⟩) := hF 8 (by decide) (by decide)
            have f9 : f 9 = .pointer (some ⟨qa, oa + j * 2 + 1, none⟩) := hF 9 (by decide) (by decide)
            have f10 : f 10 = .int .i64 y2 := hF 10 (by decide) (by decide)
            obtain ⟨pF_11, f11⟩ := hF 11 (by decide) (by decide)
            obtain ⟨pF_12, f12⟩ := hF 12 (by decide) (by decide)
            have f14 : f 14 = .iface 50 (.int .i64 1) := hF 14 (by decide) (by decide)
            have f17 : f 17 = .iface 50 (.int .i64 1) := hF 17 (by decide) (by decide)
            obtain ⟨pC, bC, f13, f15, hC1, hC2, hC3⟩ := hP
            clear hF
            simp only [grow.puts, Act.put, List.length_cons, List.length_nil, Nat.reduceAdd, List.getElem?_toArray, List.getElem?_cons_zero, List.getElem?_cons_succ, Option.bind_some, List.setIfInBounds_toArray, List.set_cons_zero, List.set_cons_succ, f0, f1, f2, f3, f4, f5, f6, f7, f8, f9, f10, f11, f12, f13, f14, f15, f17] at hA
            subst hA
            have HTn := Lib.hid (HT.out.up hB)
            have HOn := Lib.hid (HO1.out.up hB)
            have HE := Lib.hid (er.errIs_any (.iface 50 (.int .i64 1)) 1 1 W (HG.out.up HTn.out.bel) rfl true rfl)
            clear hB hC1 hC2 hC3 HCb kb q1 q2
            go_wp2_with fail
            refine HE.out.mono ?_
            rintro e W2 ⟨rfl, hbE⟩
            have HS : Hid (FlS w (j + 1) (.slice am k cm) W2) := Lib.hid ⟨o, p, HW.out.more, HTn.out.up hbE, by rw [HN.out.t]; exact HOn.out.up hbE⟩
            clear hbE HE HTn HOn
            go_wp2_with fail
            go_roundw
            case rel => exact ⟨j + 1, _, rfl, by go_num, hlt, HS⟩
            case measure => simp [intOf]; omega
        · have n2' : y2 ≤ 1073741824 := by omega
          have hwr : IntKind.i64.wrap (cc + y2) = mm := by rw [← HM.out]; exact IntWalk.i64_in _ (by omega)
          have m1 : -1073741824 ≤ mm := by have := HM.out; omega
          have m2 : mm ≤ 1100585369600 := by have := HM.out; omega
          have Hwr := Lib.hid hwr
          by_cases n3 : 1099511627776 < mm
          · have HCb := Lib.hid (fun W (hW : Below wr.heap.size wr W) => Put_bad w.heap.size W p o y1 y2 (HT.out.h0.up hW) HN.out.ok HN.out.i1 (by rw [HN.out.cc]; exact ⟨cb0, cb1⟩) (by unfold badPut most; rw [HN.out.cc]; rw [HM.out]; exact .inr (.inr n3)))
            clear HM
            go_wp2_with fail
            refine grow.wp_grow_mid 16 13 15 _ [grow.kEq (.agg #[.pointer p]), grow.kEq (.slice (some ⟨qa, oa, none⟩) n c), grow.kEq (.int .i64 (j : Nat)), grow.kEq (.pointer (some ⟨qa, oa + j * 2, none⟩)), grow.kEq (.pointer (some ⟨qa, oa + j * 2, none⟩)), grow.kEq (.int .i64 y1), grow.kEq (.slice (some ⟨qa, oa, none⟩) n c), grow.kEq (.int .i64 (j : Nat)), grow.kEq (.pointer (some ⟨qa, oa + j * 2, none⟩)), grow.kEq (.pointer (some ⟨qa, oa + j * 2 + 1, none⟩)), grow.kEq (.int .i64 y2), kTup w.heap.size none (.iface 50 (.int .i64 1)), kTup w.heap.size none (.iface 50 (.int .i64 1)), kBag w.heap.size none, grow.kEq (.iface 50 (.int .i64 1)), kNew wr.heap.size, grow.kAny, grow.kEq (.iface 50 (.int .i64 1))] [grow.kEq (.agg #[.pointer p]), grow.kEq (.slice (some ⟨qa, oa, none⟩) n c), grow.kEq (.int .i64 (j : Nat)), grow.kEq (.pointer (some ⟨qa, oa + j * 2, none⟩)), grow.kEq (.pointer (some ⟨qa, oa + j * 2, none⟩)), grow.kEq (.int .i64 y1), grow.kEq (.slice (some ⟨qa, oa, none⟩) n c), grow.kEq (.int .i64 (j : Nat)), grow.kEq (.pointer (some ⟨qa, oa + j * 2, none⟩)), grow.kEq (.pointer (some ⟨qa, oa + j * 2 + 1, none⟩)), grow.kEq (.int .i64 y2), kTupF (.iface 50 (.int .i64 1)), kTupF (.iface 50 (.int .i64 1)), grow.kAny, grow.kEq (.iface 50 (.int .i64 1)), grow.kAny, grow.kAny, grow.kEq (.iface 50 (.int .i64 1))] (pvBag wr.heap.size w.heap.size none) (by decide) rfl rfl rfl (by kernel_rfl) (by kernel_rfl) (by kernel_rfl) (by kernel_rfl) (by kernel_rfl) (by kernel_rfl) ?flat ?monoP ?step ?hst ?fin
            case flat =>
              intro i
              match i with
              | 0 => exact fun _ _ _ h => h
              | 1 => exact fun _ _ _ h => h
              | 2 => exact fun _ _ _ h => h
              | 3 => exact fun _ _ _ h => h
              | 4 => exact fun _ _ _ h => h
              | 5 => exact fun _ _ _ h => h
              | 6 => exact fun _ _ _ h => h
              | 7 => exact fun _ _ _ h => h
              | 8 => exact fun _ _ _ h => h
              | 9 => exact fun _ _ _ h => h
              | 10 => exact fun _ _ _ h => h
              | 11 => exact fun _ _ _ ⟨p, e, _⟩ => ⟨p, e⟩
              | 12 => exact fun _ _ _ ⟨p, e, _⟩ => ⟨p, e⟩
              | 13 => exact fun _ _ _ _ => trivial
              | 14 => exact fun _ _ _ h => h
              | 15 => exact fun _ _ _ _ => trivial
              | 16 => exact fun _ _ _ _ => trivial
              | 17 => exact fun _ _ _ h => h
              | i + 18 => exact fun _ _ _ _ => trivial
            case monoP => exact pvBag_up _ _ _
            case step =>
              refine grow.EachM.cons (by kernel_rfl) ?_ ?_
              · intro A W hB hs hJ K hK
                have s0 := hs 5 (by kernel_rfl)
                simp at s0
                have kk := upc hB kb
                rw [if_pos (by rfl)]
                clear hs hJ
                go_simp
                exact hK _ _ (Below.refl _ _) rfl
              refine grow.EachM.cons (by kernel_rfl) ?_ ?_
              · intro A W hB hs hJ K hK
                have s0 := hs 0 (by kernel_rfl)
                simp at s0
                rw [if_pos (by rfl)]
                clear hs hJ
                go_simp
                exact hK _ _ (Below.refl _ _) rfl
              refine grow.EachM.cons (by kernel_rfl) ?_ ?_
              · intro A W hB hs hJ K hK
                have s0 := hs 7 (by kernel_rfl)
                simp at s0
                rw [if_pos (by rfl)]
                clear hs hJ
                go_simp
                exact hK _ _ (Below.refl _ _) rfl
              refine grow.EachM.cons (by kernel_rfl) ?_ ?_
              · intro A W hB hs hJ K hK
                have s0 : A.tmps.getD 56 undef = .slice (some ⟨qa, oa, none⟩) n c := hJ 1 56 (by kernel_rfl) (by kernel_rfl)
                simp at s0
                have s1 : A.tmps.getD 57 undef = .int .i64 (j : Nat) := hJ 2 57 (by kernel_rfl) (by kernel_rfl)
                simp at s1
                rw [if_pos (by rfl)]
                clear hs hJ
                go_simp
                exact hK _ _ (Below.refl _ _) rfl
              refine grow.EachM.cons (by kernel_rfl) ?_ ?_
              · intro A W hB hs hJ K hK
                have s0 : A.tmps.getD 58 undef = .pointer (some ⟨qa, oa + j * 2, none⟩) := hJ 3 58 (by kernel_rfl) (by kernel_rfl)
                simp at s0
                rw [if_pos (by rfl)]
                clear hs hJ
                go_simp
                exact hK _ _ (Below.refl _ _) rfl
              refine grow.EachM.cons (by kernel_rfl) ?_ ?_
              · intro A W hB hs hJ K hK
                have s0 : A.tmps.getD 59 undef = .pointer (some ⟨qa, oa + j * 2, none⟩) := hJ 4 59 (by kernel_rfl) (by kernel_rfl)
                simp at s0
                have kk := upc hB q1
                rw [if_pos (by rfl)]
                clear hs hJ
                go_simp
                exact hK _ _ (Below.refl _ _) rfl
              refine grow.EachM.cons (by kernel_rfl) ?_ ?_
              · intro A W hB hs hJ K hK
                have s0 := hs 0 (by kernel_rfl)
                simp at s0
                rw [if_pos (by rfl)]
                clear hs hJ
                go_simp
                exact hK _ _ (Below.refl _ _) rfl
              refine grow.EachM.cons (by kernel_rfl) ?_ ?_
              · intro A W hB hs hJ K hK
                have s0 := hs 7 (by kernel_rfl)
                simp at s0
                rw [if_pos (by rfl)]
                clear hs hJ
                go_simp
                exact hK _ _ (Below.refl _ _) rfl
              refine grow.EachM.cons (by kernel_rfl) ?_ ?_
              · intro A W hB hs hJ K hK
                have s0 : A.tmps.getD 61 undef = .slice (some ⟨qa, oa, none⟩) n c := hJ 6 61 (by kernel_rfl) (by kernel_rfl)
                simp at s0
                have s1 : A.tmps.getD 62 undef = .int .i64 (j : Nat) := hJ 7 62 (by kernel_rfl) (by kernel_rfl)
                simp at s1
                rw [if_pos (by rfl)]
                clear hs hJ
                go_simp
                exact hK _ _ (Below.refl _ _) rfl
              refine grow.EachM.cons (by kernel_rfl) ?_ ?_
              · intro A W hB hs hJ K hK
                have s0 : A.tmps.getD 63 undef = .pointer (some ⟨qa, oa + j * 2, none⟩) := hJ 8 63 (by kernel_rfl) (by kernel_rfl)
                simp at s0
                rw [if_pos (by rfl)]
                clear hs hJ
                go_simp
                exact hK _ _ (Below.refl _ _) rfl
              refine grow.EachM.cons (by kernel_rfl) ?_ ?_
              · intro A W hB hs hJ K hK
                have s0 : A.tmps.getD 64 undef = .pointer (some ⟨qa, oa + j * 2 + 1, none⟩) := hJ 9 64 (by kernel_rfl) (by kernel_rfl)
                simp at s0
                have kk := upc hB q2
                rw [if_pos (by rfl)]
                clear hs hJ
                go_simp
                exact hK _ _ (Below.refl _ _) rfl
              refine grow.EachM.cons (by kernel_rfl) ?_ ?_
              · intro A W hB hs hJ K hK
                have s0 : A.tmps.getD 55 undef = .agg #[.pointer p] := hJ 0 55 (by kernel_rfl) (by kernel_rfl)
                simp at s0
                have s1 : A.tmps.getD 60 undef = .int .i64 y1 := hJ 5 60 (by kernel_rfl) (by kernel_rfl)
                simp at s1
                have s2 : A.tmps.getD 65 undef = .int .i64 y2 := hJ 10 65 (by kernel_rfl) (by kernel_rfl)
                simp at s2
                rw [if_pos (by rfl)]
                clear hs hJ
                go_simp
                go_at_call 20
                refine (HCb.out W hB).mono ?_
                rintro e W2 ⟨rfl, hrU⟩
                exact hK _ _ hrU ⟨none, rfl, rfl⟩
              refine grow.EachM.cons (by kernel_rfl) ?_ ?_
              · intro A W hB hs hJ K hK
                obtain ⟨pT, s0, hT1⟩ := hJ 11 66 (by kernel_rfl) (by kernel_rfl)
                simp at s0
                rw [if_pos (by rfl)]
                clear hs hJ
                go_simp
                exact hK _ _ (Below.refl _ _) ⟨pT, rfl, hT1⟩
              refine grow.EachM.cons (by kernel_rfl) ?_ ?_
              · intro A W hB hs hJ K hK
                obtain ⟨pT, s0, hT1⟩ := hJ 12 54 (by kernel_rfl) (by kernel_rfl)
                simp at s0
                rw [if_pos (by rfl)]
                clear hs hJ
                go_simp
                exact hK _ _ (Below.refl _ _) ⟨pT, rfl, hT1⟩
              refine grow.EachM.late (by kernel_rfl) ?_ ?_
              · intro A W hB hs hJ K hK
                obtain ⟨pF, s0⟩ := hJ 12 54 (by kernel_rfl) (by kernel_rfl)
                simp at s0
                rw [if_pos (by rfl)]
                clear hs hJ
                go_simp
                exact hK _ _ (Below.refl _ _) rfl
              refine grow.EachM.cons (by kernel_rfl) ?_ ?_
              · intro A W hB hs hJ K hK
                rw [if_pos (by rfl)]
                clear hs hJ
                go_simp
                exact hK _ _ (belowAlloc _ _) ⟨_, rfl, hB.size, heap_alloc_new _ _⟩
              refine grow.EachM.skip ?_
              refine grow.EachM.late (by kernel_rfl) ?_ ?_
              · intro A W hB hs hJ K hK
                have s0 : A.tmps.getD 68 undef = .iface 50 (.int .i64 1) := hJ 14 68 (by kernel_rfl) (by kernel_rfl)
                simp at s0
                rw [if_pos (by rfl)]
                clear hs hJ
                go_simp
                exact hK _ _ (Below.refl _ _) rfl
              exact grow.EachM.nil
            case hst =>
              intro f W hB hF A hA
              obtain ⟨bN, f15, hN1, hN2⟩ := hF 15 (grow.ancs_sound _ _ _ (by decide +kernel)) (by decide)
              obtain ⟨pA, f13, hA1⟩ := hF 13 (grow.ancs_sound _ _ _ (by decide +kernel)) (by decide)
              have u11 : A.tmps.getD 11 undef = f 15 := by rw [← hA]; exact grow.puts_at (by kernel_rfl) (by kernel_rfl) (of_decide_eq_true (by kernel_rfl)) _ (by decide) (by decide)
              rw [f15] at u11
              simp at u11
              have u67 : A.tmps.getD 67 undef = f 13 := by rw [← hA]; exact grow.puts_at (by kernel_rfl) (by kernel_rfl) (of_decide_eq_true (by kernel_rfl)) _ (by decide) (by decide)
              rw [f13] at u67
              simp at u67
              have kN := cell_of_one hN2
              have fN := free_of_one hN2
              clear hA
              go_simp
              exact ⟨⟨pA, bN, by first | exact f13 | rfl, by first | exact f15 | rfl, hN1, one_setCell hN2, pat.HO.store (k := bN) (off := 0) hN2 (by decide) hA1⟩, belowSet (a := ⟨bN, 0, none⟩) hB hN1 _⟩
            case fin =>
              intro f W hB hF hP A hA
              have f0 : f 0 = .agg #[.pointer p] := hF 0 (by decide) (by decide)
              have f1 : f 1 = .slice (some ⟨qa, oa, none⟩) n c := hF 1 (by decide) (by decide)
              have f2 : f 2 = .int .i64 (j : Nat) := hF 2 (by decide) (by decide)
              have f3 : f 3 = .pointer (some ⟨qa, oa + j * 2, none⟩) := hF 3 (by decide) (by decide)
              have f4 : f 4 = .pointer (some ⟨qa, oa + j * 2, none⟩) := hF 4 (by decide) (by decide)
              have f5 : f 5 = .int .i64 y1 := hF 5 (by decide) (by decide)
              have f6 : f 6 = .slice (some ⟨qa, oa, none⟩) n c := hF 6 (by decide) (by decide)
              have f7 : f 7 = .int .i64 (j : Nat) := hF 7 (by decide) (by decide)
              have f8 : f 8 = .pointer (some ⟨qa, oa + j * 2, none⟩) := hF 8 (by decide) (by decide)
              have f9 : f 9 = .pointer (some ⟨qa, oa + j * 2 + 1, none⟩) := hF 9 (by decide) (by decide)
              have f10 : f 10 = .int .i64 y2 := hF 10 (by decide) (by decide)
              obtain ⟨pF_11, f11⟩ := hF 11 (by decide) (by decide)
              obtain ⟨pF_12, f12⟩ := hF 12 (by decide) (by decide)
              have f14 : f 14 = .iface 50 (.int .i64 1) := hF 14 (by decide) (by decide)
              have f17 : f 17 = .iface 50 (.int .i64 1) := hF 17 (by decide) (by decide)
              obtain ⟨pC, bC, f13, f15, hC1, hC2, hC3⟩ := hP
              clear hF
              simp only [grow.puts, Act.put, List.length_cons, List.length_nil, Nat.reduceAdd, List.getElem?_toArray, List.getElem?_cons_zero, List.getElem?_cons_succ, Option.bind_some, List.setIfInBounds_toArray, List.set_cons_zero, List.set_cons_succ, f0, f1, f2, f3, f4, f5, f6, f7, f8, f9, f10, f11, f12, f13, f14, f15, f17] at hA
              subst hA
              have HTn := Lib.hid (HT.out.up hB)
              have HOn := Lib.hid (HO1.out.up hB)
              have HE := Lib.hid (er.errIs_any (.iface 50 (.int .i64 1)) 1 1 W (HG.out.up HTn.out.bel) rfl true rfl)
              clear hB hC1 hC2 hC3 HCb kb q1 q2
              go_wp2_with fail
              refine HE.out.mono ?_
              rintro e W2 ⟨rfl, hbE⟩
              have HS : Hid (FlS w (j + 1) (.slice am k cm) W2) := Lib.hid ⟨o, p, HW.out.more, HTn.out.up hbE, by rw [HN.out.t]; exact HOn.out.up hbE⟩
              clear hbE HE HTn HOn
              go_wp2_with fail
              go_roundw
              case rel => exact ⟨j + 1, _, rfl, by go_num, hlt, HS⟩
              case measure => simp [intOf]; omega
          · have n3' : mm ≤ 1099511627776 := by omega
            obtain ⟨o2, ho2⟩ : ∃ o2, o2 = withO o y1 mm := ⟨_, rfl⟩
            have HCb : Hid (∀ W, Below wr.heap.size wr W → Calls Tryd.prog 20 #[.agg #[.pointer p], .int .i64 y1, .int .i64 y2] W (RetGood w.heap.size W o2)) := Lib.hid (fun W hW => by
              rw [ho2]
              exact Put_good w.heap.size W p o y1 y2 mm (szle hW HT.out.bel.size) (HT.out.h0.up hW) HN.out.ok HN.out.i1 (by have := HN.out.n; omega) (by rw [HN.out.cc]; exact ⟨cb0, cb1⟩) (by unfold badPut most; rw [HN.out.cc, HM.out]; omega) (by rw [HN.out.cc]; exact HM.out))
            have HP2 : Hid (Well (j + 1) o2 ∧ told o2 = counted ts y1 mm ∧ (counted ts y1 mm).length = ocnt o2) := by
              have e : told o2 = counted ts y1 mm := by rw [ho2, told_with HN.out.ok HN.out.i1, HN.out.t]
              exact Lib.hid ⟨by rw [ho2]; exact well_next HW.out HN.out.i1 mm, e, by rw [← e]; exact pat.told_length o2⟩
            clear ho2
            go_wp2_with fail
            refine grow.wp_grow_mid 16 13 15 _ [grow.kEq (.agg #[.pointer p]), grow.kEq (.slice (some ⟨qa, oa, none⟩) n c), grow.kEq (.int .i64 (j : Nat)), grow.kEq (.pointer (some ⟨qa, oa + j * 2, none⟩)), grow.kEq (.pointer (some ⟨qa, oa + j * 2, none⟩)), grow.kEq (.int .i64 y1), grow.kEq (.slice (some ⟨qa, oa, none⟩) n c), grow.kEq (.int .i64 (j : Nat)), grow.kEq (.pointer (some ⟨qa, oa + j * 2, none⟩)), grow.kEq (.pointer (some ⟨qa, oa + j * 2 + 1, none⟩)), grow.kEq (.int .i64 y2), kTup w.heap.size o2 (.nilIface), kTup w.heap.size o2 (.nilIface), kBag w.heap.size o2, grow.kEq (.nilIface), kNew wr.heap.size, grow.kAny, grow.kEq (.nilIface)] [grow.kEq (.agg #[.pointer p]), grow.kEq (.slice (some ⟨qa, oa, none⟩) n c), grow.kEq (.int .i64 (j : Nat)), grow.kEq (.pointer (some ⟨qa, oa + j * 2, none⟩)), grow.kEq (.pointer (some ⟨qa, oa + j * 2, none⟩)), grow.kEq (.int .i64 y1), grow.kEq (.slice (some ⟨qa, oa, none⟩) n c), grow.kEq (.int .i64 (j : Nat)), grow.kEq (.pointer (some ⟨qa, oa + j * 2, none⟩)), grow.kEq (.pointer (some ⟨qa, oa + j * 2 + 1, none⟩)), grow.kEq (.int .i64 y2), kTupF (.nilIface), kTupF (.nilIface), grow.kAny, grow.kEq (.nilIface), grow.kAny, grow.kAny, grow.kEq (.nilIface)] (pvBag wr.heap.size w.heap.size o2) (by decide) rfl rfl rfl (by kernel_rfl) (by kernel_rfl) (by kernel_rfl) (by kernel_rfl) (by kernel_rfl) (by kernel_rfl) ?flat ?monoP ?step ?hst ?fin
            case flat =>
              intro i
              match i with
              | 0 => exact fun _ _ _ h => h
              | 1 => exact fun _ _ _ h => h
              | 2 => exact fun _ _ _ h => h
              | 3 => exact fun _ _ _ h => h
              | 4 => exact fun _ _ _ h => h
              | 5 => exact fun _ _ _ h => h
              | 6 => exact fun _ _ _ h => h
              | 7 => exact fun _ _ _ h => h
              | 8 => exact fun _ _ _ h => h
              | 9 => exact fun _ _ _ h => h
              | 10 => exact fun _ _ _ h => h
              | 11 => exact fun _ _ _ ⟨p, e, _⟩ => ⟨p, e⟩
              | 12 => exact fun _ _ _ ⟨p, e, _⟩ => ⟨p, e⟩
              | 13 => exact fun _ _ _ _ => trivial
              | 14 => exact fun _ _ _ h => h
              | 15 => exact fun _ _ _ _ => trivial
              | 16 => exact fun _ _ _ _ => trivial
              | 17 => exact fun _ _ _ h => h
              | i + 18 => exact fun _ _ _ _ => trivial
            case monoP => exact pvBag_up _ _ _
            case step =>
              refine grow.EachM.cons (by kernel_rfl) ?_ ?_
              · intro A W hB hs hJ K hK
                have s0 := hs 5 (by kernel_rfl)
                simp at s0
                have kk := upc hB kb
                rw [if_pos (by rfl)]
                clear hs hJ
                go_simp
                exact hK _ _ (Below.refl _ _) rfl
              refine grow.EachM.cons (by kernel_rfl) ?_ ?_
              · intro A W hB hs hJ K hK
                have s0 := hs 0 (by kernel_rfl)
                simp at s0
                rw [if_pos (by rfl)]
                clear hs hJ
                go_simp
                exact hK _ _ (Below.refl _ _) rfl
              refine grow.EachM.cons (by kernel_rfl) ?_ ?_
              · intro A W hB hs hJ K hK
                have s0 := hs 7 (by kernel_rfl)
                simp at s0
                rw [if_pos (by rfl)]
                clear hs hJ
                go_simp
                exact hK _ _ (Below.refl _ _) rfl
              refine grow.EachM.cons (by kernel_rfl) ?_ ?_
              · intro A W hB hs hJ K hK
                have s0 : A.tmps.getD 56 undef = .slice (some ⟨qa, oa, none⟩) n c := hJ 1 56 (by kernel_rfl) (by kernel_rfl)
                simp at s0
                have s1 : A.tmps.getD 57 undef = .int .i64 (j : Nat) := hJ 2 57 (by kernel_rfl) (by kernel_rfl)
                simp at s1
                rw [if_pos (by rfl)]
                clear hs hJ
                go_simp
                exact hK _ _ (Below.refl _ _) rfl
              refine grow.EachM.cons (by kernel_rfl) ?_ ?_
              · intro A W hB hs hJ K hK
                have s0 : A.tmps.getD 58 undef = .pointer (some ⟨qa, oa + j * 2, none⟩) := hJ 3 58 (by kernel_rfl) (by kernel_rfl)
                simp at s0
                rw [if_pos (by rfl)]
                clear hs hJ
                go_simp
                exact hK _ _ (Below.refl _ _) rfl
              refine grow.EachM.cons (by kernel_rfl) ?_ ?_
              · intro A W hB hs hJ K hK
                have s0 : A.tmps.getD 59 undef = .pointer (some ⟨qa, oa + j * 2, none⟩) := hJ 4 59 (by kernel_rfl) (by kernel_rfl)
                simp at s0
                have kk := upc hB q1
                rw [if_pos (by rfl)]
                clear hs hJ
                go_simp
                exact hK _ _ (Below.refl _ _) rfl
              refine grow.EachM.cons (by kernel_rfl) ?_ ?_
              · intro A W hB hs hJ K hK
                have s0 := hs 0 (by kernel_rfl)
                simp at s0
                rw [if_pos (by rfl)]
                clear hs hJ
                go_simp
                exact hK _ _ (Below.refl _ _) rfl
              refine grow.EachM.cons (by kernel_rfl) ?_ ?_
              · intro A W hB hs hJ K hK
                have s0 := hs 7 (by kernel_rfl)
                simp at s0
                rw [if_pos (by rfl)]
                clear hs hJ
                go_simp
                exact hK _ _ (Below.refl _ _) rfl
              refine grow.EachM.cons (by kernel_rfl) ?_ ?_
              · intro A W hB hs hJ K hK
                have s0 : A.tmps.getD 61 undef = .slice (some ⟨qa, oa, none⟩) n c := hJ 6 61 (by kernel_rfl) (by kernel_rfl)
                simp at s0
                have s1 : A.tmps.getD 62 undef = .int .i64 (j : Nat) := hJ 7 62 (by kernel_rfl) (by kernel_rfl)
                simp at s1
                rw [if_pos (by rfl)]
                clear hs hJ
                go_simp
                exact hK _ _ (Below.refl _ _) rfl
              refine grow.EachM.cons (by kernel_rfl) ?_ ?_
              · intro A W hB hs hJ K hK
                have s0 : A.tmps.getD 63 undef = .pointer (some ⟨qa, oa + j * 2, none⟩) := hJ 8 63 (by kernel_rfl) (by kernel_rfl)
                simp at s0
                rw [if_pos (by rfl)]
                clear hs hJ
                go_simp
                exact hK _ _ (Below.refl _ _) rfl
              refine grow.EachM.cons (by kernel_rfl) ?_ ?_
              · intro A W hB hs hJ K hK
                have s0 : A.tmps.getD 64 undef = .pointer (some ⟨qa, oa + j * 2 + 1, none⟩) := hJ 9 64 (by kernel_rfl) (by kernel_rfl)
                simp at s0
                have kk := upc hB q2
                rw [if_pos (by rfl)]
                clear hs hJ
                go_simp
                exact hK _ _ (Below.refl _ _) rfl
              refine grow.EachM.cons (by kernel_rfl) ?_ ?_
              · intro A W hB hs hJ K hK
                have s0 : A.tmps.getD 55 undef = .agg #[.pointer p] := hJ 0 55 (by kernel_rfl) (by kernel_rfl)
                simp at s0
                have s1 : A.tmps.getD 60 undef = .int .i64 y1 := hJ 5 60 (by kernel_rfl) (by kernel_rfl)
                simp at s1
                have s2 : A.tmps.getD 65 undef = .int .i64 y2 := hJ 10 65 (by kernel_rfl) (by kernel_rfl)
                simp at s2
                rw [if_pos (by rfl)]
                clear hs hJ
                go_simp
                go_at_call 20
                refine (HCb.out W hB).mono ?_
                rintro e W2 ⟨pU, rfl, hpU, hrU⟩
                exact hK _ _ hrU ⟨pU, rfl, hpU⟩
              refine grow.EachM.cons (by kernel_rfl) ?_ ?_
              · intro A W hB hs hJ K hK
                obtain ⟨pT, s0, hT1⟩ := hJ 11 66 (by kernel_rfl) (by kernel_rfl)
                simp at s0
                rw [if_pos (by rfl)]
                clear hs hJ
                go_simp
                exact hK _ _ (Below.refl _ _) ⟨pT, rfl, hT1⟩
              refine grow.EachM.cons (by kernel_rfl) ?_ ?_
              · intro A W hB hs hJ K hK
                obtain ⟨pT, s0, hT1⟩ := hJ 12 54 (by kernel_rfl) (by kernel_rfl)
                simp at s0
                rw [if_pos (by rfl)]
                clear hs hJ
                go_simp
                exact hK _ _ (Below.refl _ _) ⟨pT, rfl, hT1⟩
              refine grow.EachM.late (by kernel_rfl) ?_ ?_
              · intro A W hB hs hJ K hK
                obtain ⟨pF, s0⟩ := hJ 12 54 (by kernel_rfl) (by kernel_rfl)
                simp at s0
                rw [if_pos (by rfl)]
                clear hs hJ
                go_simp
                exact hK _ _ (Below.refl _ _) rfl
              refine grow.EachM.cons (by kernel_rfl) ?_ ?_
              · intro A W hB hs hJ K hK
                rw [if_pos (by rfl)]
                clear hs hJ
                go_simp
                exact hK _ _ (belowAlloc _ _) ⟨_, rfl, hB.size, heap_alloc_new _ _⟩
              refine grow.EachM.skip ?_
              refine grow.EachM.late (by kernel_rfl) ?_ ?_
              · intro A W hB hs hJ K hK
                have s0 : A.tmps.getD 68 undef = .nilIface := hJ 14 68 (by kernel_rfl) (by kernel_rfl)
                simp at s0
                rw [if_pos (by rfl)]
                clear hs hJ
                go_simp
                exact hK _ _ (Below.refl _ _) rfl
              exact grow.EachM.nil
            case hst =>
              intro f W hB hF A hA
              obtain ⟨bN, f15, hN1, hN2⟩ := hF 15 (grow.ancs_sound _ _ _ (by decide +kernel)) (by decide)
              obtain ⟨pA, f13, hA1⟩ := hF 13 (grow.ancs_sound _ _ _ (by decide +kernel)) (by decide)
              have u11 : A.tmps.getD 11 undef = f 15 := by rw [← hA]; exact grow.puts_at (by kernel_rfl) (by kernel_rfl) (of_decide_eq_true (by kernel_rfl)) _ (by decide) (by decide)
              rw [f15] at u11
              simp at u11
              have u67 : A.tmps.getD 67 undef = f 13 := by rw [← hA]; exact grow.puts_at (by kernel_rfl) (by kernel_rfl) (of_decide_eq_true (by kernel_rfl)) _ (by decide) (by decide)
              rw [f13] at u67
              simp at u67
              have kN := cell_of_one hN2
              have fN := free_of_one hN2
              clear hA
              go_simp
              exact ⟨⟨pA, bN, by first | exact f13 | rfl, by first | exact f15 | rfl, hN1, one_setCell hN2, pat.HO.store (k := bN) (off := 0) hN2 (by decide) hA1⟩, belowSet (a := ⟨bN, 0, none⟩) hB hN1 _⟩
            case fin =>
              intro f W hB hF hP A hA
              have f0 : f 0 = .agg #[.pointer p] := hF 0 (by decide) (by decide)
              have f1 : f 1 = .slice (some ⟨qa, oa, none⟩) n c := hF 1 (by decide) (by decide)
              have f2 : f 2 = .int .i64 (j : Nat) := hF 2 (by decide) (by decide)
              have f3 : f 3 = .pointer (some ⟨qa, oa + j * 2, none⟩) := hF 3 (by decide) (by decide)
              have f4 : f 4 = .pointer (some ⟨qa, oa + j * 2, none⟩) := hF 4 (by decide) (by decide)
              have f5 : f 5 = .int .i64 y1 := hF 5 (by decide) (by decide)
              have f6 : f 6 = .slice (some ⟨qa, oa, none⟩) n c := hF 6 (by decide) (by decide)
              have f7 : f 7 = .int .i64 (j : Nat) := hF 7 (by decide) (by decide)
              have f8 : f 8 = .pointer (some ⟨qa, oa + j * 2, none⟩) := hF 8 (by decide) (by decide)
              have f9 : f 9 = .pointer (some ⟨qa, oa + j * 2 + 1, none⟩) := hF 9 (by decide) (by decide)
              have f10 : f 10 = .int .i64 y2 := hF 10 (by decide) (by decide)
              obtain ⟨pF_11, f11⟩ := hF 11 (by decide) (by decide)
              obtain ⟨pF_12, f12⟩ := hF 12 (by decide) (by decide)
              have f14 : f 14 = .nilIface := hF 14 (by decide) (by decide)
              have f17 : f 17 = .nilIface := hF 17 (by decide) (by decide)
              obtain ⟨pC, bC, f13, f15, hC1, hC2, hC3⟩ := hP
              clear hF
              simp only [grow.puts, Act.put, List.length_cons, List.length_nil, Nat.reduceAdd, List.getElem?_toArray, List.getElem?_cons_zero, List.getElem?_cons_succ, Option.bind_some, List.setIfInBounds_toArray, List.set_cons_zero, List.set_cons_succ, f0, f1, f2, f3, f4, f5, f6, f7, f8, f9, f10, f11, f12, f13, f14, f15, f17] at hA
              subst hA
              have HTn := Lib.hid (HT.out.up hB)
              have HOn := Lib.hid (HO1.out.up hB)
              have HE := Lib.hid (er.errIs_any .nilIface 0 0 W (HG.out.up HTn.out.bel) rfl true rfl)
              have HC := Lib.hid (And.intro hC2 hC3)
              clear hB hC1 hC2 hC3 HCb kb q1 q2
              go_wp2_with fail
              refine HE.out.mono ?_
              rintro e W2 ⟨rfl, hbE⟩
              have HT2 := Lib.hid (HTn.out.up hbE)
              have c9 := cell_of_one (upb hbE HC.out.1)
              have c0 := cell_of_one HT2.out.bB
              have f0 := free_of_one HT2.out.bB
              obtain ⟨Z, hZ⟩ : ∃ Z, Z = W2.setCell ⟨w.heap.size + 1, 0, none⟩ (.pointer pC) := ⟨_, rfl⟩
              have HTZ : Hid (Fl w o2 pC Z) := Lib.hid (by rw [hZ]; exact HT2.out.set (HC.out.2.up hbE))
              have HOZ : Hid (OwnP Z w.heap.size (.slice am k cm) ts) := Lib.hid (by rw [hZ]; exact HT2.out.row (HOn.out.up hbE))
              have r1 : Z.cell? ⟨qa, oa + j * 2, none⟩ = some (.int .i64 y1) := upc HTZ.out.bel HQ.out.1
              have r2 : Z.cell? ⟨qa, oa + j * 2 + 1, none⟩ = some (.int .i64 y2) := upc HTZ.out.bel HQ.out.2
              have HZ := Lib.hid hZ
              clear hbE HE HTn HOn hZ
              go_wp2_with fail
              rw [← HZ.out]
              clear c9 c0 f0
              refine grow.wp_grow_last 14 _ [grow.kEq (.slice am k cm), grow.kEq (.slice (some ⟨qa, oa, none⟩) n c), grow.kEq (.int .i64 (j : Nat)), grow.kEq (.pointer (some ⟨qa, oa + j * 2, none⟩)), grow.kEq (.pointer (some ⟨qa, oa + j * 2, none⟩)), grow.kEq (.int .i64 y1), grow.kEq (.int .i64 cc), grow.kEq (.slice (some ⟨qa, oa, none⟩) n c), grow.kEq (.int .i64 (j : Nat)), grow.kEq (.pointer (some ⟨qa, oa + j * 2, none⟩)), grow.kEq (.pointer (some ⟨qa, oa + j * 2 + 1, none⟩)), grow.kEq (.int .i64 y2), grow.kEq (.int .i64 mm), pat.kOwnR w.heap.size (ocnt o2) (counted ts y1 mm)] rfl rfl rfl (by kernel_rfl) (by kernel_rfl) (by kernel_rfl) (by kernel_rfl) (by kernel_rfl) ?step ?fin
              case step =>
                refine grow.EachL.cons ?_ ?_
                · intro A W hB hs hJ K hK
                  have s0 := hs 6 (by kernel_rfl)
                  simp at s0
                  rw [if_pos (by rfl)]
                  clear hs hJ
                  go_simp
                  exact hK _ _ (Below.refl _ _) rfl
                refine grow.EachL.cons ?_ ?_
                · intro A W hB hs hJ K hK
                  have s0 := hs 0 (by kernel_rfl)
                  simp at s0
                  rw [if_pos (by rfl)]
                  clear hs hJ
                  go_simp
                  exact hK _ _ (Below.refl _ _) rfl
                refine grow.EachL.cons ?_ ?_
                · intro A W hB hs hJ K hK
                  have s0 := hs 7 (by kernel_rfl)
                  simp at s0
                  rw [if_pos (by rfl)]
                  clear hs hJ
                  go_simp
                  exact hK _ _ (Below.refl _ _) rfl
                refine grow.EachL.cons ?_ ?_
                · intro A W hB hs hJ K hK
                  have s0 : A.tmps.getD 80 undef = .slice (some ⟨qa, oa, none⟩) n c := hJ 1 80 (by kernel_rfl) (by kernel_rfl)
                  simp at s0
                  have s1 : A.tmps.getD 81 undef = .int .i64 (j : Nat) := hJ 2 81 (by kernel_rfl) (by kernel_rfl)
                  simp at s1
                  rw [if_pos (by rfl)]
                  clear hs hJ
                  go_simp
                  exact hK _ _ (Below.refl _ _) rfl
                refine grow.EachL.cons ?_ ?_
                · intro A W hB hs hJ K hK
                  have s0 : A.tmps.getD 82 undef = .pointer (some ⟨qa, oa + j * 2, none⟩) := hJ 3 82 (by kernel_rfl) (by kernel_rfl)
                  simp at s0
                  rw [if_pos (by rfl)]
                  clear hs hJ
                  go_simp
                  exact hK _ _ (Below.refl _ _) rfl
                refine grow.EachL.cons ?_ ?_
                · intro A W hB hs hJ K hK
                  have s0 : A.tmps.getD 83 undef = .pointer (some ⟨qa, oa + j * 2, none⟩) := hJ 4 83 (by kernel_rfl) (by kernel_rfl)
                  simp at s0
                  have kk := upc hB r1
                  rw [if_pos (by rfl)]
                  clear hs hJ
                  go_simp
                  exact hK _ _ (Below.refl _ _) rfl
                refine grow.EachL.cons ?_ ?_
                · intro A W hB hs hJ K hK
                  have s0 := hs 8 (by kernel_rfl)
                  simp at s0
                  rw [if_pos (by rfl)]
                  clear hs hJ
                  go_simp
                  exact hK _ _ (Below.refl _ _) rfl
                refine grow.EachL.cons ?_ ?_
                · intro A W hB hs hJ K hK
                  have s0 := hs 0 (by kernel_rfl)
                  simp at s0
                  rw [if_pos (by rfl)]
                  clear hs hJ
                  go_simp
                  exact hK _ _ (Below.refl _ _) rfl
                refine grow.EachL.cons ?_ ?_
                · intro A W hB hs hJ K hK
                  have s0 := hs 7 (by kernel_rfl)
                  simp at s0
                  rw [if_pos (by rfl)]
                  clear hs hJ
                  go_simp
                  exact hK _ _ (Below.refl _ _) rfl
                refine grow.EachL.cons ?_ ?_
                · intro A W hB hs hJ K hK
                  have s0 : A.tmps.getD 86 undef = .slice (some ⟨qa, oa, none⟩) n c := hJ 7 86 (by kernel_rfl) (by kernel_rfl)
                  simp at s0
                  have s1 : A.tmps.getD 87 undef = .int .i64 (j : Nat) := hJ 8 87 (by kernel_rfl) (by kernel_rfl)
                  simp at s1
                  rw [if_pos (by rfl)]
                  clear hs hJ
                  go_simp
                  exact hK _ _ (Below.refl _ _) rfl
                refine grow.EachL.cons ?_ ?_
                · intro A W hB hs hJ K hK
                  have s0 : A.tmps.getD 88 undef = .pointer (some ⟨qa, oa + j * 2, none⟩) := hJ 9 88 (by kernel_rfl) (by kernel_rfl)
                  simp at s0
                  rw [if_pos (by rfl)]
                  clear hs hJ
                  go_simp
                  exact hK _ _ (Below.refl _ _) rfl
                refine grow.EachL.cons ?_ ?_
                · intro A W hB hs hJ K hK
                  have s0 : A.tmps.getD 89 undef = .pointer (some ⟨qa, oa + j * 2 + 1, none⟩) := hJ 10 89 (by kernel_rfl) (by kernel_rfl)
                  simp at s0
                  have kk := upc hB r2
                  rw [if_pos (by rfl)]
                  clear hs hJ
                  go_simp
                  exact hK _ _ (Below.refl _ _) rfl
                refine grow.EachL.cons ?_ ?_
                · intro A W hB hs hJ K hK
                  have s0 : A.tmps.getD 85 undef = .int .i64 cc := hJ 6 85 (by kernel_rfl) (by kernel_rfl)
                  simp at s0
                  have s1 : A.tmps.getD 90 undef = .int .i64 y2 := hJ 11 90 (by kernel_rfl) (by kernel_rfl)
                  simp at s1
                  have hw := Hwr.out
                  rw [if_pos (by rfl)]
                  clear hs hJ
                  go_simp
                  exact hK _ _ (Below.refl _ _) rfl
                refine grow.EachL.cons ?_ ?_
                · intro A W hB hs hJ K hK
                  have s0 : A.tmps.getD 79 undef = .slice am k cm := hJ 0 79 (by kernel_rfl) (by kernel_rfl)
                  simp at s0
                  have s1 : A.tmps.getD 84 undef = .int .i64 y1 := hJ 5 84 (by kernel_rfl) (by kernel_rfl)
                  simp at s1
                  have s2 : A.tmps.getD 91 undef = .int .i64 mm := hJ 12 91 (by kernel_rfl) (by kernel_rfl)
                  simp at s2
                  rw [if_pos (by rfl)]
                  clear hs hJ
                  go_simp
                  go_at_call 19
                  refine (Counted_any am cm k (ocnt o2) ts y1 mm W HN.out.tl (by omega) (OwnP.reads (HOZ.out.up hB)) HP2.out.2.2).mono ?_
                  rintro e W2 ⟨aZ, cZ, rfl, hoZ, hbZ⟩
                  exact hK _ _ hbZ ⟨aZ, cZ, rfl, OwnP.lower hoZ (szle hB HTZ.out.bel.size)⟩
                exact grow.EachL.nil
              case fin =>
                intro f W hB hF
                have f0 : f 0 = .slice am k cm := hF 0 (by decide)
                have f1 : f 1 = .slice (some ⟨qa, oa, none⟩) n c := hF 1 (by decide)
                have f2 : f 2 = .int .i64 (j : Nat) := hF 2 (by decide)
                have f3 : f 3 = .pointer (some ⟨qa, oa + j * 2, none⟩) := hF 3 (by decide)
                have f4 : f 4 = .pointer (some ⟨qa, oa + j * 2, none⟩) := hF 4 (by decide)
                have f5 : f 5 = .int .i64 y1 := hF 5 (by decide)
                have f6 : f 6 = .int .i64 cc := hF 6 (by decide)
                have f7 : f 7 = .slice (some ⟨qa, oa, none⟩) n c := hF 7 (by decide)
                have f8 : f 8 = .int .i64 (j : Nat) := hF 8 (by decide)
                have f9 : f 9 = .pointer (some ⟨qa, oa + j * 2, none⟩) := hF 9 (by decide)
                have f10 : f 10 = .pointer (some ⟨qa, oa + j * 2 + 1, none⟩) := hF 10 (by decide)
                have f11 : f 11 = .int .i64 y2 := hF 11 (by decide)
                have f12 : f 12 = .int .i64 mm := hF 12 (by decide)
                obtain ⟨aN_13, cN_13, f13, hN_13⟩ := hF 13 (by decide)
                clear hF
                intro A hA
                simp only [grow.puts, Act.put, List.getElem?_toArray, List.getElem?_cons_zero, List.getElem?_cons_succ, Option.bind_some, List.setIfInBounds_toArray, List.set_cons_zero, List.set_cons_succ, f0, f1, f2, f3, f4, f5, f6, f7, f8, f9, f10, f11, f12, f13] at hA
                subst hA
                have hS0 := HTZ.out.up hB
                have HS : Hid (FlS w (j + 1) (.slice aN_13 (ocnt o2) cN_13) W) := Lib.hid ⟨o2, pC, HP2.out.1, HTZ.out.up hB, by rw [HP2.out.2.1]; exact hN_13⟩
                clear hB hN_13 hS0
                go_simp
                go_wp2_with fail
                go_roundw
                case rel => exact ⟨j + 1, _, rfl, by go_num, hlt, HS⟩
                case measure => simp [intOf]; omega
    · obtain rfl : n = j := by omega
      have hkn : (told o).length = ocnt o := pat.told_length o
      obtain ⟨ts, hts⟩ : ∃ ts, told o = ts := ⟨_, rfl⟩
      rw [hts] at hrow hkn
      obtain ⟨am, cm, hov, -⟩ := hrow.form
      rw [hkn] at hov
      obtain ⟨k, hk⟩ : ∃ k, ocnt o = k := ⟨_, rfl⟩
      rw [hk] at hov
      subst hov
      have kR := cell_of_one hT.bR
      have fR := free_of_one hT.bR
      have hst := one_setCell (u := .pointer p) hT.bR
      have kr := cell_of_one hst
      have HFin : Hid (RetF w n (.returned (.tuple #[.agg #[.pointer p], .slice am k cm, .bool true])) (wr.setCell ⟨w.heap.size, 0, none⟩ (.pointer p))) :=
        Lib.hid ⟨o, p, am, k, cm, rfl, hW, pat.HO.store (k := w.heap.size) (off := 0) hT.bR (by decide) hT.h0, by rw [hts]; exact hrow.keep (T := [28]) (KeepT.set (a := ⟨w.heap.size, 0, none⟩) hT.bR (by simp) _) (by decide), hk, belowSet (a := ⟨w.heap.size, 0, none⟩) hT.bel (Nat.le_refl _) _⟩
      clear hts hk hkn hrow hT hW hst HF
      go_wp2_with fail
      exact bodyPost_ret (v := .tuple #[.agg #[.pointer p], .slice am k cm, .bool true]) (by simp only [results, Tryd.results7]; simp [go_sem, kr]) rfl HFin.out
end Go.Proofs.YtnebmncjohoekaaDoor.bag
