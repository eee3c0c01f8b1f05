/- Both maps are one. -/
import Derived.Test.YtenaddjnaeebbaaHamtTells
namespace Go.Proofs.Ytenaddjnaeebbaa.topm
open Go.RowKit
open pat (PT OOk ocnt olist oput odrop oget tk I64 tk_lt tk_inj lk told telled Yes i64_lit fill fill_snoc fill_ok fill_cnt oput_spec odrop_spec oget_eq told_ext told_length cnt_oput_le cnt_odrop_le kRow Row PT.cnt Ok)
open hamt (stp done stp_ok stp_cnt done_snoc done_facts)

theorem two_setCell_far {w : World} {k j off : Nat} {v : Value} {ob : Obj} (hk : w.heap[j]? = some ob) (hne : k ≠ j) : (w.setCell ⟨k, off, none⟩ v).heap[j]? = some ob := by
  exact (Below.heap_setCell w _ v j (by rintro rfl; exact hne rfl)).trans hk
/-- a map of each kind in a box -/
structure DM (w : World) (G : Nat) (x y : Option PT) (p q : Option Addr) (W : World) : Prop where
  bel : Below w.heap.size w W
  g : w.heap.size ≤ G
  b0 : W.heap[G]? = some (.cells #[.pointer p] 49 (0, 0))
  b1 : W.heap[G + 1]? = some (.cells #[.pointer q] 25 (0, 0))
  h0 : pat.HO w.heap.size W p x
  h1 : hamt.HO w.heap.size W q y
theorem DM.up {w : World} {G : Nat} {x y : Option PT} {W W' : World} {p q : Option Addr} (h : DM w G x y p q W) (hb : Below W.heap.size W W') : DM w G x y p q W' :=
  ⟨h.bel.trans (hb.mono h.bel.size), h.g, upb hb h.b0, upb hb h.b1, h.h0.up hb, h.h1.up hb⟩
theorem DM.set0 {w : World} {G : Nat} {x y x' : Option PT} {W : World} {p q p' : Option Addr} (h : DM w G x y p q W) (hp : pat.HO w.heap.size W p' x') : DM w G x' y p' q (W.setCell ⟨G, 0, none⟩ (.pointer p')) :=
  ⟨belowSet (a := ⟨G, 0, none⟩) h.bel (by have := h.g; show w.heap.size ≤ G; omega) _, h.g, one_setCell h.b0, two_setCell_far h.b1 (by omega), pat.HO.store (k := G) (off := 0) h.b0 (by decide) hp, hamt.HO.store (k := G) (off := 0) h.b0 (by decide) h.h1⟩
theorem DM.set1 {w : World} {G : Nat} {x y y' : Option PT} {W : World} {p q q' : Option Addr} (h : DM w G x y p q W) (hq : hamt.HO w.heap.size W q' y') : DM w G x y' p q' (W.setCell ⟨G + 1, 0, none⟩ (.pointer q')) :=
  ⟨belowSet (a := ⟨G + 1, 0, none⟩) h.bel (by have := h.g; show w.heap.size ≤ G + 1; omega) _, h.g, two_setCell_far h.b0 (by omega), one_setCell h.b1, pat.HO.store (k := G + 1) (off := 0) h.b1 (by decide) h.h0, hamt.HO.store (k := G + 1) (off := 0) h.b1 (by decide) hq⟩
/-- what is known of a round -/
structure Rn (o o2 : Option PT) (y1 y2 : Int) (j : Nat) : Prop where
  ok : OOk o
  i1 : I64 y1
  c : ocnt o ≤ j
  e : o2 = stp o (y1, y2)
structure Mk (o : Option PT) (op : PT) (k : Int) (ts : List (Int × Int)) (m : Nat) (r : Option Int) (n : Nat) : Prop where
  ok : OOk o
  mn : m ≤ n
  c : ocnt o = m
  t : told o = ts
  tl : ts.length = m
  get : oget o (tk k) = r
  okp : Ok op
  put : oput o (tk k) 7 = op
  getp : oget (some op) (tk k) = some 7

set_option maxRecDepth 100000 in
set_option maxHeartbeats 8000000 in
theorem maps (a : Option Addr) (c n : Nat) (l : List (Int × Int)) (k : Int) (w : World) (hl : l.length = n) (hn : n ≤ 8796093021952) (hr : ReadsP w a l) (hi : ∀ p ∈ l, I64 p.1) (hk : I64 k) :
    Calls Try.prog 8 #[.slice a n c, .int .i64 k] w (Yes w) := by
  have HR := Lib.hid (And.intro hr (And.intro hl hi))
  have HKX := Lib.hid hk
  clear hr hl hi hk
  go_enter Try.func8, Try.ntmps8
  have HI : Hid (∃ p q, DM w w.heap.size (done (l.take 0)) (done (l.take 0)) p q ((w.alloc (.cells #[.pointer none] 49)).alloc (.cells #[.pointer none] 25))) :=
    Lib.hid ⟨none, none, belowTrans (belowAlloc _ _) (belowAlloc _ _), Nat.le_refl _, heapNew1 w _ _, heapNew2 w _ _, rfl, hamt.HO.nil _ _⟩
  go_wp2_with fail
  go_loopw [7] (fun iv wr => ∃ j : Nat, iv = .int .i64 j ∧ j ≤ n ∧ Hid (∃ p q, DM w w.heap.size (done (l.take j)) (done (l.take j)) p q wr)) (fun iv _ => n - (intOf iv).toNat)
  case atStart => exact ⟨0, rfl, Nat.zero_le _, HI⟩
  case round =>
    obtain ⟨j, rfl, hj, HF⟩ := hrel
    have j0 : (0 : Int) ≤ (j : Int) := by omega
    have hfa := done_facts (l.take j) (fun p hp => HR.out.2.2 p (List.mem_of_mem_take hp)) none trivial
    obtain ⟨o, ho⟩ : ∃ o, o = done (l.take j) := ⟨_, rfl⟩
    rw [show List.foldl stp none (l.take j) = o from ho.symm] at hfa
    rw [← ho] at HF
    obtain ⟨p, q, hT⟩ := HF.out
    have hcj : ocnt o ≤ j := by
      have h := hfa.2
      rw [List.length_take] at h
      have e : ocnt none = 0 := rfl
      omega
    have hok := hfa.1
    clear HF hfa HI
    by_cases hlt : j < n
    · obtain ⟨qa, oa, rfl, q01, q02⟩ := HR.out.1.at (k := j) (by rw [HR.out.2.1]; exact hlt)
      have hsn := done_snoc l j (by rw [HR.out.2.1]; exact hlt)
      have hik : I64 (l.getD j (0, 0)).1 := HR.out.2.2 _ (by rw [List.getD_eq_getElem?_getD, List.getElem?_eq_getElem (by rw [HR.out.2.1]; exact hlt)]; exact List.getElem_mem _)
      obtain ⟨y, hy⟩ : ∃ y, y = l.getD j (0, 0) := ⟨_, rfl⟩
      obtain ⟨y1, y2⟩ := y
      rw [← hy] at q01 q02 hsn hik
      dsimp only at q01 q02 hik
      rw [← ho] at hsn
      obtain ⟨o2, ho2⟩ : ∃ o2, o2 = stp o (y1, y2) := ⟨_, rfl⟩
      rw [← ho2] at hsn
      have HS := Lib.hid hsn
      have HN : Hid (Rn o o2 y1 y2 j) := Lib.hid ⟨hok, hik, hcj, ho2⟩
      have q1 := upc hT.bel q01
      have q2 := upc hT.bel q02
      have j1 : (j : Int) < (n : Int) := by omega
      have kb := cell_of_one hT.b0
      have HT := Lib.hid hT
      have HQ := Lib.hid (And.intro q01 q02)
      clear q01 q02 hy ho ho2 hT hsn hik hok hcj
      by_cases hv : 0 < y2
      · have He : Hid (o2 = some (oput o (tk y1) y2)) := Lib.hid (by rw [HN.out.e]; unfold stp; rw [if_pos hv])
        have HC : Hid (∀ W, Below wr.heap.size wr W → Calls Try.prog 24 #[.agg #[.pointer p], .int .i64 y1, .int .i64 y2] W (pat.RetM w.heap.size W o2)) := Lib.hid (fun W hW => by rw [He.out]; exact pat.Put_any w.heap.size W p o y1 y2 (szle hW HT.out.bel.size) (HT.out.h0.up hW) HN.out.ok HN.out.i1 (by have := HN.out.c; omega))
        go_wp2_with fail
        go_region_with (first | (go_at_call 24; refine (HC.out _ (by exact belowDrew _)).mono ?_; rintro e x0 ⟨p3, rfl, hp3, hb3⟩; replace hb3 := belowTrans (belowDrew _) hb3; have hT3 := HT.out.up hb3; have c0 := cell_of_one hT3.b0; have f0 := free_of_one hT3.b0))
        all_goals
          obtain ⟨Z0, hZ⟩ : ∃ Z, Z = x0.setCell ⟨w.heap.size, 0, none⟩ (.pointer p3) := ⟨_, rfl⟩
          have hTZ : DM w w.heap.size o2 o p3 q Z0 := by rw [hZ]; exact hT3.set0 hp3
          have q1 := upc hTZ.bel HQ.out.1
          have q2 := upc hTZ.bel HQ.out.2
          have kb := cell_of_one hTZ.b1
          have HTn := Lib.hid hTZ
          try rw [← hZ]
          clear hT3 hp3 hb3 c0 f0 hZ hTZ HT HC
          have HT := HTn
          clear HTn
          have HC : Hid (∀ W, Below Z0.heap.size Z0 W → Calls Try.prog 9 #[.agg #[.pointer q], .int .i64 y1, .int .i64 y2] W (hamt.RetM w.heap.size W o2)) := Lib.hid (fun W hW => by rw [He.out]; exact hamt.Put_any w.heap.size W q o y1 y2 (szle hW HT.out.bel.size) (HT.out.h1.up hW) HN.out.ok HN.out.i1 (by have := HN.out.c; omega))
          go_wp2_with fail
          go_region_with (first | (go_at_call 9; refine (HC.out _ (by exact belowDrew _)).mono ?_; rintro e x1 ⟨q3, rfl, hp3, hb3⟩; replace hb3 := belowTrans (belowDrew _) hb3; have hT3 := HT.out.up hb3; have c0 := cell_of_one hT3.b1; have f0 := free_of_one hT3.b1))
          all_goals
            obtain ⟨Z1, hZ⟩ : ∃ Z, Z = x1.setCell ⟨w.heap.size + 1, 0, none⟩ (.pointer q3) := ⟨_, rfl⟩
            have hTZ : DM w w.heap.size o2 o2 p3 q3 Z1 := by rw [hZ]; exact hT3.set1 hp3
            have HTn := Lib.hid hTZ
            try rw [← hZ]
            clear hT3 hp3 hb3 c0 f0 hZ hTZ HT HC
            have HT := HTn
            clear HTn
            clear q1 q2 kb
            have HE : Hid (∃ p q, DM w w.heap.size (done (l.take (j + 1))) (done (l.take (j + 1))) p q Z1) := Lib.hid (by rw [HS.out]; exact ⟨_, _, HT.out⟩)
            clear HT
            go_wp2_with fail
            go_roundw
            case rel => exact ⟨j + 1, by go_num, hlt, HE⟩
            case measure => simp [intOf]; omega
      · have He : Hid (o2 = odrop o (tk y1)) := Lib.hid (by rw [HN.out.e]; unfold stp; rw [if_neg hv])
        have HC : Hid (∀ W, Below wr.heap.size wr W → Calls Try.prog 25 #[.agg #[.pointer p], .int .i64 y1] W (pat.RetM w.heap.size W o2)) := Lib.hid (fun W hW => by rw [He.out]; exact pat.Drop_any w.heap.size W p o y1 (szle hW HT.out.bel.size) (HT.out.h0.up hW) HN.out.ok HN.out.i1 (by have := HN.out.c; omega))
        go_wp2_with fail
        go_region_with (first | (go_at_call 25; refine (HC.out _ (by exact belowDrew _)).mono ?_; rintro e x0 ⟨p3, rfl, hp3, hb3⟩; replace hb3 := belowTrans (belowDrew _) hb3; have hT3 := HT.out.up hb3; have c0 := cell_of_one hT3.b0; have f0 := free_of_one hT3.b0))
        all_goals
          obtain ⟨Z0, hZ⟩ : ∃ Z, Z = x0.setCell ⟨w.heap.size, 0, none⟩ (.pointer p3) := ⟨_, rfl⟩
          have hTZ : DM w w.heap.size o2 o p3 q Z0 := by rw [hZ]; exact hT3.set0 hp3
          have q1 := upc hTZ.bel HQ.out.1
          have q2 := upc hTZ.bel HQ.out.2
          have kb := cell_of_one hTZ.b1
          have HTn := Lib.hid hTZ
          try rw [← hZ]
          clear hT3 hp3 hb3 c0 f0 hZ hTZ HT HC
          have HT := HTn
          clear HTn
          have HC : Hid (∀ W, Below Z0.heap.size Z0 W → Calls Try.prog 21 #[.agg #[.pointer q], .int .i64 y1] W (hamt.RetM w.heap.size W o2)) := Lib.hid (fun W hW => by rw [He.out]; exact hamt.Drop_any w.heap.size W q o y1 (szle hW HT.out.bel.size) (HT.out.h1.up hW) HN.out.ok HN.out.i1 (by have := HN.out.c; omega))
          go_wp2_with fail
          go_region_with (first | (go_at_call 21; refine (HC.out _ (by exact belowDrew _)).mono ?_; rintro e x1 ⟨q3, rfl, hp3, hb3⟩; replace hb3 := belowTrans (belowDrew _) hb3; have hT3 := HT.out.up hb3; have c0 := cell_of_one hT3.b1; have f0 := free_of_one hT3.b1))
          all_goals
            obtain ⟨Z1, hZ⟩ : ∃ Z, Z = x1.setCell ⟨w.heap.size + 1, 0, none⟩ (.pointer q3) := ⟨_, rfl⟩
            have hTZ : DM w w.heap.size o2 o2 p3 q3 Z1 := by rw [hZ]; exact hT3.set1 hp3
            have HTn := Lib.hid hTZ
            try rw [← hZ]
            clear hT3 hp3 hb3 c0 f0 hZ hTZ HT HC
            have HT := HTn
            clear HTn
            clear q1 q2 kb
            have HE : Hid (∃ p q, DM w w.heap.size (done (l.take (j + 1))) (done (l.take (j + 1))) p q Z1) := Lib.hid (by rw [HS.out]; exact ⟨_, _, HT.out⟩)
            clear HT
            go_wp2_with fail
            go_roundw
            case rel => exact ⟨j + 1, by go_num, hlt, HE⟩
            case measure => simp [intOf]; omega
    · obtain rfl : j = n := by omega
      obtain ⟨hokp, hlp⟩ := oput_spec hok (tk_lt HKX.out) 7
      have HM : Hid (Mk o (oput o (tk k) 7) k (told o) (ocnt o) (oget o (tk k)) j) := Lib.hid ⟨hok, hcj, rfl, rfl, told_length _, rfl, hokp, rfl, by rw [oget_eq (o := some (oput o (tk k) 7)) hokp]; show lk (oput o (tk k) 7).list (tk k) = _; rw [hlp]; simp⟩
      obtain ⟨op, hop⟩ : ∃ x, x = oput o (tk k) 7 := ⟨_, rfl⟩
      obtain ⟨ts, hts⟩ : ∃ x, x = told o := ⟨_, rfl⟩
      obtain ⟨m, hm⟩ : ∃ x, x = ocnt o := ⟨_, rfl⟩
      obtain ⟨r, hrr⟩ : ∃ x, x = oget o (tk k) := ⟨_, rfl⟩
      rw [← hop, ← hts, ← hm, ← hrr] at HM
      have HT := Lib.hid hT
      have hmj := HM.out.mn
      clear hop hts hm hrr hokp hlp hok hcj hT ho HR
      have kb := cell_of_one HT.out.b0
      have kc := cell_of_one HT.out.b1
      go_wp2_with fail
      refine grow.wp_grow [grow.kEq (.agg #[.pointer p]), kRow m ts, grow.kEq (.agg #[.pointer q]), kRow m ts, grow.kEq (.bool true), grow.kEq (.bool true)] (by kernel_rfl) (by kernel_rfl) (by kernel_rfl) (by kernel_rfl) ?step ?fin
      case step =>
        clear kb kc
        refine grow.Each.cons ?_ ?_
        · intro A W hB hs hJ K hK
          have s0 := hs 5 (by kernel_rfl)
          simp at s0
          have kk := upc hB (cell_of_one HT.out.b0)
          rw [if_pos (by rfl)]
          clear hs hJ
          go_simp
          exact hK _ _ (Below.refl _ _) rfl
        refine grow.Each.cons ?_ ?_
        · intro A W hB hs hJ K hK
          have s0 : A.tmps.getD 65 undef = .agg #[.pointer p] := hJ 0 65 (by kernel_rfl) (by kernel_rfl)
          simp at s0
          rw [if_pos (by rfl)]
          clear hs hJ
          go_simp
          go_at_call 26
          refine (pat.Pairs_num w.heap.size W p o m (HT.out.h0.up hB) HM.out.ok HM.out.c (by omega) ts HM.out.t).mono ?_
          rintro e W2 ⟨a1, c1, rfl, ho1, hb1⟩
          exact hK _ _ hb1 ⟨a1, c1, rfl, OwnP.reads ho1⟩
        refine grow.Each.cons ?_ ?_
        · intro A W hB hs hJ K hK
          have s0 := hs 6 (by kernel_rfl)
          simp at s0
          have kk := upc hB (cell_of_one HT.out.b1)
          rw [if_pos (by rfl)]
          clear hs hJ
          go_simp
          exact hK _ _ (Below.refl _ _) rfl
        refine grow.Each.cons ?_ ?_
        · intro A W hB hs hJ K hK
          have s0 : A.tmps.getD 67 undef = .agg #[.pointer q] := hJ 2 67 (by kernel_rfl) (by kernel_rfl)
          simp at s0
          rw [if_pos (by rfl)]
          clear hs hJ
          go_simp
          go_at_call 12
          refine (hamt.Pairs_num w.heap.size W q o m (HT.out.h1.up hB) HM.out.ok HM.out.c (by omega) ts HM.out.t).mono ?_
          rintro e W2 ⟨a1, c1, rfl, ho1, hb1⟩
          exact hK _ _ hb1 ⟨a1, c1, rfl, OwnP.reads ho1⟩
        refine grow.Each.cons ?_ ?_
        · intro A W hB hs hJ K hK
          obtain ⟨aP, cP, s0, hrP⟩ := hJ 1 66 (by kernel_rfl) (by kernel_rfl)
          simp at s0
          obtain ⟨aH, cH, s1, hrH⟩ := hJ 3 68 (by kernel_rfl) (by kernel_rfl)
          simp at s1
          rw [if_pos (by rfl)]
          clear hs hJ
          go_simp
          go_at_call 13
          refine (samePairs_any aP aH cP cH m m ts ts W HM.out.tl HM.out.tl hrP hrH (by unfold maxLen; omega) true (decide_eq_true rfl)).mono ?_
          rintro e W2 ⟨rfl, qq, hU⟩
          exact hK _ _ (by rw [hU]; exact belowDrewN _ _) rfl
        refine grow.Each.cons ?_ ?_
        · intro A W hB hs hJ K hK
          have s0 : A.tmps.getD 69 undef = .bool true := hJ 4 69 (by kernel_rfl) (by kernel_rfl)
          simp at s0
          rw [if_pos (by rfl)]
          clear hs hJ
          go_simp
          exact hK _ _ (Below.refl _ _) rfl
        exact grow.Each.nil
      case fin =>
        intro f W hB hF
        have f0 : f 0 = .agg #[.pointer p] := hF 0 (by decide)
        obtain ⟨aP_1, cP_1, f1, -⟩ := hF 1 (by decide)
        have f2 : f 2 = .agg #[.pointer q] := hF 2 (by decide)
        obtain ⟨aH_3, cH_3, f3, -⟩ := hF 3 (by decide)
        have f4 : f 4 = .bool true := hF 4 (by decide)
        have f5 : f 5 = .bool true := hF 5 (by decide)
        clear hF
        generalize hA : grow.puts _ _ f _ = A'
        simp only [List.length_cons, List.length_nil, Nat.reduceAdd, grow.puts, Act.put, List.getElem?_toArray, List.getElem?_cons_zero, List.getElem?_cons_succ, Option.bind_some, List.setIfInBounds_toArray, List.set_cons_zero, List.set_cons_succ, f0, f1, f2, f3, f4, f5] at hA
        subst hA
        have HTn := Lib.hid (HT.out.up hB)
        clear hB kb kc HT
        obtain ⟨U, hU⟩ : ∃ U, U = W := ⟨_, rfl⟩
        rw [← hU] at HTn ⊢
        clear hU
        have HT := HTn
        clear HTn
        have kb := cell_of_one HT.out.b0
        go_wp2_with fail
        refine (pat.Get_any w.heap.size U p o k HT.out.h0 HM.out.ok HKX.out r HM.out.get).mono ?_
        rintro e w8 ⟨rfl, hb8⟩
        have HT8 := Lib.hid (HT.out.up hb8)
        clear hb8 kb HT
        have kc := cell_of_one HT8.out.b1
        go_wp2_with fail
        refine (hamt.Get_any w.heap.size w8 q o k HT8.out.h1 HM.out.ok HKX.out r HM.out.get).mono ?_
        rintro e w9 ⟨rfl, hb9⟩
        have HT9 := Lib.hid (HT8.out.up hb9)
        clear hb9 kc HT8
        obtain ⟨rg, hrg⟩ : ∃ x : Int, x = r.getD 0 := ⟨_, rfl⟩
        obtain ⟨rs, hrs⟩ : ∃ x : Bool, x = r.isSome := ⟨_, rfl⟩
        rw [← hrg, ← hrs]
        clear hrg hrs
        have kb := cell_of_one HT9.out.b0
        go_wp2_with fail
        refine (pat.Put_any w.heap.size w9 p o k 7 HT9.out.bel.size HT9.out.h0 HM.out.ok HKX.out (by have := HM.out.c; omega)).mono ?_
        rintro e w10 ⟨p3, rfl, hp3, hb10⟩
        rw [HM.out.put] at hp3
        have HP3 := Lib.hid hp3
        have HTa := Lib.hid (HT9.out.up hb10)
        clear hb10 hp3 kb HT9
        go_wp2_with fail
        refine (pat.Get_any w.heap.size w10 p3 (some op) k HP3.out HM.out.okp HKX.out (some 7) HM.out.getp).mono ?_
        rintro e w11 ⟨rfl, hb11⟩
        have HTb := Lib.hid (HTa.out.up hb11)
        clear hb11 HTa HP3
        obtain ⟨U2, hU2⟩ : ∃ U, U = w11 := ⟨_, rfl⟩
        rw [← hU2] at HTb ⊢
        clear hU2
        have kb := cell_of_one HTb.out.b0
        have kc := cell_of_one HTb.out.b1
        have HLa := Lib.hid (fun W (hW : Below U2.heap.size U2 W) => pat.Len_num w.heap.size W p o m (HTb.out.h0.up hW) HM.out.c)
        have HLb := Lib.hid (fun W (hW : Below U2.heap.size U2 W) => hamt.Len_num w.heap.size W q o m (HTb.out.h1.up hW) HM.out.c)
        go_wp2_with fail
        go_region_held3 (fun w' => w'.cell? ⟨w.heap.size, 0, none⟩ = some (.pointer p) ∧ w'.cell? ⟨w.heap.size + 1, 0, none⟩ = some (.pointer q)) (first | exact ⟨x5, x7⟩ | exact ⟨y5, y7⟩ | exact ⟨kb, kc⟩ | go_keep)
          (first
          | (go_at_call 28; refine (HLa.out _ (by first | exact hbY | exact belowDrew U2)).mono ?_; rintro e wX ⟨rfl, hrX⟩; have hbX : Below U2.heap.size U2 wX := (by first | exact belowTrans hbY hrX | exact belowTrans (belowDrew U2) hrX); have x5 := upc hbX kb; have x7 := upc hbX kc)
          | (go_at_call 10; refine (HLb.out _ (by first | exact hbX | exact belowDrew U2)).mono ?_; rintro e wY ⟨rfl, hrY⟩; have hbY : Below U2.heap.size U2 wY := (by first | exact belowTrans hbX hrY | exact belowTrans (belowDrew U2) hrY); have y5 := upc hbY kb; have y7 := upc hbY kc))
        all_goals
          go_wp2_with fail
          go_ret
          first
          | exact ⟨rfl, HTb.out.bel.trans (hbX.mono HTb.out.bel.size)⟩
          | exact ⟨rfl, HTb.out.bel.trans (hbY.mono HTb.out.bel.size)⟩

theorem maps_any (a : Option Addr) (c : Nat) (l : List (Int × Int)) (k : Int) (w : World) (hb : l.length * 16 ≤ 140737488351232) (hr : ReadsP w a l) (hi : ∀ p ∈ l, I64 p.1) (hk : I64 k) :
    Calls Try.prog 8 #[.slice a l.length c, .int .i64 k] w (Yes w) := maps a c l.length l k w rfl (by omega) hr hi hk
end Go.Proofs.Ytenaddjnaeebbaa.topm
