/- The law of what a map of keys tells. -/
import Derived.Test.YtenaddjnaeebbaaHamtActs
import Derived.Test.YtenaddjnaeebbaaPatK
import Derived.Test.YtenaddjnaeebbaaGrow2
namespace Go.Proofs.Ytenaddjnaeebbaa.hamt
open Go.RowKit
open pat (PT OOk ocnt olist oput odrop oget tk I64 tk_lt tk_inj lk told telled Yes i64_lit fill fill_snoc fill_ok fill_cnt oput_spec odrop_spec oget_eq told_ext told_length cnt_oput_le cnt_odrop_le cnt_drop_has known known_ok known_get known_cnt kRow kOwnR Row PT.cnt Ok valued_told told_put told_drop)

/-- one pair: put, or dropped -/
def stp (o : Option PT) (p : Int × Int) : Option PT := if 0 < p.2 then some (oput o (tk p.1) p.2) else odrop o (tk p.1)
def done : List (Int × Int) → Option PT := fun l => l.foldl stp none
theorem done_snoc (l : List (Int × Int)) (k : Nat) (h : k < l.length) : done (l.take (k + 1)) = stp (done (l.take k)) (l.getD k (0, 0)) := by
  unfold done
  rw [List.take_succ_eq_append_getElem h, List.foldl_append]
  simp [List.getD_eq_getElem?_getD, h]
theorem stp_ok {o : Option PT} (ho : OOk o) {p : Int × Int} (hp : I64 p.1) : OOk (stp o p) := by
  unfold stp
  split
  · exact (oput_spec ho (tk_lt hp) p.2).1
  · exact (odrop_spec ho (tk p.1)).1
theorem stp_cnt (o : Option PT) (p : Int × Int) : ocnt (stp o p) ≤ ocnt o + 1 := by
  unfold stp
  split
  · exact cnt_oput_le o _ _
  · have := cnt_odrop_le o (tk p.1); omega
theorem done_facts (l : List (Int × Int)) (hl : ∀ p ∈ l, I64 p.1) : ∀ o, OOk o → OOk (l.foldl stp o) ∧ ocnt (l.foldl stp o) ≤ ocnt o + l.length := by
  induction l with
  | nil => intro o ho; exact ⟨ho, Nat.le_refl _⟩
  | cons p t ih =>
    intro o ho
    obtain ⟨h1, h2⟩ := ih (fun q hq => hl q (List.mem_cons_of_mem _ hq)) (stp o p) (stp_ok ho (hl p List.mem_cons_self))
    refine ⟨h1, ?_⟩
    have := stp_cnt o p
    simp only [List.foldl_cons, List.length_cons]
    omega
/-- a map in a box -/
structure Tel (w : World) (G : Nat) (o : Option PT) (p : Option Addr) (W : World) : Prop where
  bel : Below w.heap.size w W
  g : w.heap.size ≤ G
  b0 : W.heap[G]? = some (.cells #[.pointer p] 25 (0, 0))
  h0 : HO w.heap.size W p o
theorem Tel.up {w : World} {G : Nat} {o : Option PT} {p : Option Addr} {W W' : World} (h : Tel w G o p W) (hb : Below W.heap.size W W') : Tel w G o p W' :=
  ⟨h.bel.trans (hb.mono h.bel.size), h.g, upb hb h.b0, h.h0.up hb⟩
theorem Tel.set {w : World} {G : Nat} {o o' : Option PT} {p p' : Option Addr} {W : World} (h : Tel w G o p W) (hp : HO w.heap.size W p' o') : Tel w G o' p' (W.setCell ⟨G, 0, none⟩ (.pointer p')) :=
  ⟨belowSet (a := ⟨G, 0, none⟩) h.bel (by have := h.g; show w.heap.size ≤ G; omega) _, h.g, one_setCell h.b0, HO.store (k := G) (off := 0) h.b0 (by decide) hp⟩
theorem Tel.row {w : World} {G : Nat} {o : Option PT} {p : Option Addr} {W : World} (h : Tel w G o p W) {v u : Value} {xs : List (Int × Int)} (ho : OwnP W w.heap.size v xs) : OwnP (W.setCell ⟨G, 0, none⟩ u) w.heap.size v xs :=
  ho.keep (T := [25]) (KeepT.set (a := ⟨G, 0, none⟩) h.b0 (by simp) _) (by decide)
def kOwn (B m : Nat) (xs : List (Int × Int)) : grow.Kept := ⟨fun v W => ∃ a c, v = .slice a m c ∧ OwnP W B (.slice a m c) xs, fun _ _ _ hb ⟨a, c, e, h⟩ => ⟨a, c, e, h.up hb⟩⟩
/-- the head of a round -/
def Tels (w : World) (G : Nat) (o : Option PT) (v : Value) (W : World) : Prop := ∃ p, Tel w G o p W ∧ OwnP W w.heap.size v (told o)
/-- what is known of a round -/
structure Rnd (o o2 : Option PT) (y1 y2 k : Int) (ts td : List (Int × Int)) (m m2 : Nat) (r : Option Int) (j n : Nat) : Prop where
  ok : OOk o
  ok2 : OOk o2
  i1 : I64 y1
  t : told o = ts
  tl : ts.length = m
  mj : m ≤ j
  t2 : told o2 = td
  tl2 : td.length = m2
  mj2 : m2 ≤ j + 1
  c2 : ocnt o2 = m2
  c : ocnt o = m
  val : valued td k = r
  get : I64 k → oget o2 (tk k) = r

set_option maxRecDepth 100000 in
set_option maxHeartbeats 8000000 in
theorem tells (a : Option Addr) (c n : Nat) (l : List (Int × Int)) (k : Int) (w : World) (hl : l.length = n) (hn : n ≤ 8796093022000) (hr : ReadsP w a l) (hi : ∀ p ∈ l, I64 p.1) (hk : I64 k) :
    Calls Try.prog 5 #[.slice a n c, .int .i64 k] w (Yes w) := by
  have HR := Lib.hid (And.intro hr (And.intro hl hi))
  have HKX := Lib.hid hk
  clear hr hl hi hk
  go_enter Try.func5, Try.ntmps5
  go_wp2_with fail
  refine (hamted_any w).mono ?_
  rintro e w1 ⟨rfl, hb1⟩
  have hI : Tels w w1.heap.size (done (l.take 0)) (.slice none 0 0) (w1.alloc (.cells #[.pointer none] 25)) := ⟨none, ⟨belowTrans hb1 (belowAlloc _ _), hb1.size, heap_alloc_new _ _, HO.nil _ _⟩, World.ownsRow_nil _ _ _ _⟩
  have HI := Lib.hid hI
  clear hI hb1
  go_wp2_with fail
  go_loopw [7, 8] (fun ov iv wr => ∃ (j : Nat) (ow : Value), ow = ov ∧ iv = .int .i64 j ∧ j ≤ n ∧ Hid (Tels w w1.heap.size (done (l.take j)) ow wr)) (fun _ iv _ => n - (intOf iv).toNat)
  case atStart => exact ⟨0, _, rfl, rfl, Nat.zero_le _, HI⟩
  case round =>
    obtain ⟨j, ow, rfl, rfl, hj, HF⟩ := hrel
    have j0 : (0 : Int) ≤ (j : Int) := by omega
    by_cases hlt : j < n
    · obtain ⟨p, hT, hrow⟩ := HF.out
      obtain ⟨qa, oa, rfl, q01, q02⟩ := HR.out.1.at (k := j) (by rw [HR.out.2.1]; exact hlt)
      have q1 := upc hT.bel q01
      have q2 := upc hT.bel q02
      have hfa := done_facts (l.take j) (fun p hp => HR.out.2.2 p (List.mem_of_mem_take hp)) none trivial
      have hsn := done_snoc l j (by rw [HR.out.2.1]; exact hlt)
      have hik : I64 (l.getD j (0, 0)).1 := HR.out.2.2 _ (by rw [List.getD_eq_getElem?_getD, List.getElem?_eq_getElem (by rw [HR.out.2.1]; exact hlt)]; exact List.getElem_mem _)
      obtain ⟨y, hy⟩ : ∃ y, y = l.getD j (0, 0) := ⟨_, rfl⟩
      obtain ⟨y1, y2⟩ := y
      rw [← hy] at q1 q2 q01 q02 hsn hik
      dsimp only at q1 q2 q01 q02 hik
      obtain ⟨o, ho⟩ : ∃ o, o = done (l.take j) := ⟨_, rfl⟩
      rw [show List.foldl stp none (l.take j) = o from ho.symm] at hfa
      rw [← ho] at hT hrow hsn
      obtain ⟨o2, ho2⟩ : ∃ o2, o2 = stp o (y1, y2) := ⟨_, rfl⟩
      have hcj : ocnt o ≤ j := by
        have h := hfa.2
        rw [List.length_take] at h
        have e : ocnt none = 0 := rfl
        omega
      have hRn : Rnd o o2 y1 y2 k (told o) (told o2) (ocnt o) (ocnt o2) (valued (told o2) k) j n := by
        have h2 : OOk o2 := by rw [ho2]; exact stp_ok hfa.1 hik
        refine ⟨hfa.1, h2, hik, rfl, told_length _, hcj, rfl, told_length _, ?_, rfl, rfl, rfl, fun hk => (valued_told h2 hk).symm⟩
        have := stp_cnt o (y1, y2)
        rw [← ho2] at this
        omega
      obtain ⟨ts, hts⟩ : ∃ ts, ts = told o := ⟨_, rfl⟩
      obtain ⟨td, htd⟩ : ∃ td, td = told o2 := ⟨_, rfl⟩
      obtain ⟨m, hm⟩ : ∃ m, m = ocnt o := ⟨_, rfl⟩
      obtain ⟨m2, hm2⟩ : ∃ m2, m2 = ocnt o2 := ⟨_, rfl⟩
      obtain ⟨r, hrr⟩ : ∃ r, r = valued td k := ⟨_, rfl⟩
      have hfin : td = if 0 < y2 then keyed ts y1 y2 else unkeyed ts y1 := by
        rw [htd, hts, ho2]
        unfold stp
        split
        · exact told_put hfa.1 hik y2
        · exact told_drop hfa.1 hik
      rw [← htd, ← hts, ← hm, ← hm2, ← hrr] at hRn
      rw [← hts] at hrow
      have HS := Lib.hid (And.intro hsn (And.intro ho2 (And.intro hfin ho)))
      have HN := Lib.hid hRn
      obtain ⟨am, cm, hov, -⟩ := hrow.form
      rw [hRn.tl] at hov
      have hmj := hRn.mj
      have hmj2 := hRn.mj2
      subst hov
      have j1 : (j : Int) < (n : Int) := by omega
      have kb := cell_of_one hT.b0
      have HT := Lib.hid hT
      have HQ := Lib.hid (And.intro q01 q02)
      have HO := Lib.hid hrow
      clear q01 q02 hy ho ho2 hts htd hm hm2 hrr hfin hRn hT hrow hfa hsn hik HF
      by_cases hv : 0 < y2

      · have He : Hid (o2 = some (oput o (tk y1) y2)) := Lib.hid (by rw [HS.out.2.1]; unfold stp; rw [if_pos hv])
        have HC : Hid (∀ W, Below wr.heap.size wr W → Calls Try.prog 9 #[.agg #[.pointer p], .int .i64 y1, .int .i64 y2] W (RetM w.heap.size W o2)) := Lib.hid (fun W hW => by rw [He.out]; exact Put_any w.heap.size W p o y1 y2 (szle hW HT.out.bel.size) (HT.out.h0.up hW) HN.out.ok HN.out.i1 (by have := HN.out.c; omega))
        have HK : Hid ((keyed ts y1 y2).length = m2 ∧ td = (keyed ts y1 y2)) := by
          have e : td = (keyed ts y1 y2) := by have h := HS.out.2.2.1; rw [if_pos hv] at h; exact h
          exact Lib.hid ⟨by rw [← e]; exact HN.out.tl2, e⟩
        have HX := Lib.hid (And.intro HT.out HO.out)
        go_wp2_with fail
        go_region_with (first | (go_at_call 9; refine (HC.out _ (by exact belowDrew _)).mono ?_; rintro e w3 ⟨p3, rfl, hp3, hb3⟩; replace hb3 := belowTrans (belowDrew _) hb3; have hT3 := HX.out.1.up hb3; have hO3 := HX.out.2.up hb3; have c0 := cell_of_one hT3.b0; have f0 := free_of_one hT3.b0))
        all_goals
          obtain ⟨Z, hZ⟩ : ∃ Z, Z = w3.setCell ⟨w1.heap.size, 0, none⟩ (.pointer p3) := ⟨_, rfl⟩
          have hTZ : Tel w w1.heap.size o2 p3 Z := by rw [hZ]; exact hT3.set hp3
          have hOZ : OwnP Z w.heap.size (.slice am m cm) ts := by rw [hZ]; exact hT3.row hO3
          have r1 : Z.cell? ⟨qa, oa + j * 2, none⟩ = some (.int .i64 y1) := upc hTZ.bel HQ.out.1
          have r2 : Z.cell? ⟨qa, oa + j * 2 + 1, none⟩ = some (.int .i64 y2) := upc hTZ.bel HQ.out.2
          have HT2 := Lib.hid hTZ
          have HO1 := Lib.hid hOZ
          have kb := cell_of_one hTZ.b0
          try rw [← hZ]
          clear hTZ hOZ c0 f0 q1 q2 hT3 hO3 hp3 hb3 hZ
          have HC2 : Hid (∀ W, Below Z.heap.size Z W → Calls Try.prog 20 #[.slice am m cm, .int .i64 y1, .int .i64 y2] W (RetL W m2 (keyed ts y1 y2))) := Lib.hid (fun W hW => Keyed_any am cm m m2 ts y1 y2 W HN.out.tl (by omega) (OwnP.reads (HO1.out.up hW)) HK.out.1)
          go_wp2_with fail
          go_region_held3 (fun w' => w'.cell? ⟨qa, oa + j * 2, none⟩ = some (.int .i64 y1) ∧ w'.cell? ⟨qa, oa + j * 2 + 1, none⟩ = some (.int .i64 y2)) (first | exact ⟨s1, s2⟩ | exact ⟨r1, r2⟩ | go_keep)
            (first | (go_at_call 20; refine (HC2.out _ (by exact belowDrew Z)).mono ?_; rintro e V ⟨a3, c3, rfl, hoZ, hbZ⟩; have hlo := OwnP.lower hoZ (szle (belowDrew Z) HT2.out.bel.size); replace hbZ := belowTrans (belowDrew Z) hbZ; have s1 := upc hbZ r1; have s2 := upc hbZ r2))
          have HO2 : Hid (OwnP V w.heap.size (.slice a3 m2 c3) td) := Lib.hid (by rw [HK.out.2]; exact hlo)
          have HTn := Lib.hid (HT2.out.up hbZ)
          clear HT2 kb r1 r2 s1 s2 hoZ hlo hbZ HC2
          have HT2 := HTn
          have kb := cell_of_one HT2.out.b0
          go_wp2_with fail
          refine (Pairs_num w.heap.size V p3 o2 m2 HT2.out.h0 HN.out.ok2 HN.out.c2 (by omega) td HN.out.t2).mono ?_
          rintro e w4 ⟨a4, c4, rfl, ho4, hb4⟩
          have HT4 := Lib.hid (HT2.out.up hb4)
          have HO4 := Lib.hid (HO2.out.up hb4)
          have HS4 := Lib.hid (samePairs_any a4 a3 c4 c3 m2 m2 td td w4 HN.out.tl2 HN.out.tl2 (OwnP.reads ho4) (OwnP.reads HO4.out) (by unfold maxLen; omega) true (decide_eq_true rfl))
          clear ho4 hb4 kb
          go_wp2_with fail
          refine HS4.out.mono ?_
          rintro e w5 ⟨rfl, qq, hU⟩
          have hb5 : Below w4.heap.size w4 w5 := by rw [hU]; exact belowDrewN _ _
          have HT5 := Lib.hid (HT4.out.up hb5)
          have HO5 := Lib.hid (HO4.out.up hb5)
          clear hU hb5
          have kb := cell_of_one HT5.out.b0
          go_wp2_with fail
          refine (Get_any w.heap.size w5 p3 o2 k HT5.out.h0 HN.out.ok2 HKX.out r (HN.out.get HKX.out)).mono ?_
          rintro e w6 ⟨rfl, hb6⟩
          have HT6 := Lib.hid (HT5.out.up hb6)
          have HO6 := Lib.hid (HO5.out.up hb6)
          clear hb6 kb
          go_wp2_with fail
          refine (Valued_any a3 c3 m2 td k w6 HN.out.tl2 (by omega) (OwnP.reads HO6.out) r HN.out.val).mono ?_
          rintro e w7 ⟨rfl, rfl⟩
          have HLn := Lib.hid (fun W (hW : Below w6.heap.size w6 W) => Len_num w.heap.size W p3 o2 m2 (HT6.out.h0.up hW) HN.out.c2)
          obtain ⟨rg, hrg⟩ : ∃ x : Int, x = r.getD 0 := ⟨_, rfl⟩
          obtain ⟨rs, hrs⟩ : ∃ x : Bool, x = r.isSome := ⟨_, rfl⟩
          rw [← hrg, ← hrs]
          clear hrg hrs
          have kb := cell_of_one HT6.out.b0
          go_wp2_with fail
          refine (HLn.out _ (Below.refl _ _)).mono ?_
          rintro e U ⟨rfl, hbU⟩
          have HTn := Lib.hid (HT6.out.up hbU)
          have HOn := Lib.hid (HO6.out.up hbU)
          clear hbU kb
          have HE : Hid (Tels w w1.heap.size (done (l.take (j + 1))) (.slice a3 m2 c3) U) := Lib.hid (by rw [HS.out.1, ← HS.out.2.1]; exact ⟨p3, HTn.out, by rw [HN.out.t2]; exact HOn.out⟩)
          clear HTn HOn HLn
          go_wp2_with fail
          go_roundw
          case rel => exact ⟨j + 1, _, rfl, by go_num, hlt, HE⟩
          case measure => simp [intOf]; omega
      · have He : Hid (o2 = odrop o (tk y1)) := Lib.hid (by rw [HS.out.2.1]; unfold stp; rw [if_neg hv])
        have HC : Hid (∀ W, Below wr.heap.size wr W → Calls Try.prog 21 #[.agg #[.pointer p], .int .i64 y1] W (RetM w.heap.size W o2)) := Lib.hid (fun W hW => by rw [He.out]; exact Drop_any w.heap.size W p o y1 (szle hW HT.out.bel.size) (HT.out.h0.up hW) HN.out.ok HN.out.i1 (by have := HN.out.c; omega))
        have HK : Hid ((unkeyed ts y1).length = m2 ∧ td = (unkeyed ts y1)) := by
          have e : td = (unkeyed ts y1) := by have h := HS.out.2.2.1; rw [if_neg hv] at h; exact h
          exact Lib.hid ⟨by rw [← e]; exact HN.out.tl2, e⟩
        have HX := Lib.hid (And.intro HT.out HO.out)
        go_wp2_with fail
        go_region_with (first | (go_at_call 21; refine (HC.out _ (by exact belowDrew _)).mono ?_; rintro e w3 ⟨p3, rfl, hp3, hb3⟩; replace hb3 := belowTrans (belowDrew _) hb3; have hT3 := HX.out.1.up hb3; have hO3 := HX.out.2.up hb3; have c0 := cell_of_one hT3.b0; have f0 := free_of_one hT3.b0))
        all_goals
          obtain ⟨Z, hZ⟩ : ∃ Z, Z = w3.setCell ⟨w1.heap.size, 0, none⟩ (.pointer p3) := ⟨_, rfl⟩
          have hTZ : Tel w w1.heap.size o2 p3 Z := by rw [hZ]; exact hT3.set hp3
          have hOZ : OwnP Z w.heap.size (.slice am m cm) ts := by rw [hZ]; exact hT3.row hO3
          have r1 : Z.cell? ⟨qa, oa + j * 2, none⟩ = some (.int .i64 y1) := upc hTZ.bel HQ.out.1
          have r2 : Z.cell? ⟨qa, oa + j * 2 + 1, none⟩ = some (.int .i64 y2) := upc hTZ.bel HQ.out.2
          have HT2 := Lib.hid hTZ
          have HO1 := Lib.hid hOZ
          have kb := cell_of_one hTZ.b0
          try rw [← hZ]
          clear hTZ hOZ c0 f0 q1 q2 hT3 hO3 hp3 hb3 hZ
          go_wp2_with fail
          refine (Unkeyed_any am cm m m2 ts y1 Z HN.out.tl (by omega) (OwnP.reads HO1.out) HK.out.1).mono ?_
          rintro e V ⟨a3, c3, rfl, hoZ, hbZ⟩
          have HO2 : Hid (OwnP V w.heap.size (.slice a3 m2 c3) td) := Lib.hid (by rw [HK.out.2]; exact OwnP.lower hoZ HT2.out.bel.size)
          have HTn := Lib.hid (HT2.out.up hbZ)
          clear HT2 kb r1 r2 hoZ hbZ
          have HT2 := HTn
          have kb := cell_of_one HT2.out.b0
          go_wp2_with fail
          refine (Pairs_num w.heap.size V p3 o2 m2 HT2.out.h0 HN.out.ok2 HN.out.c2 (by omega) td HN.out.t2).mono ?_
          rintro e w4 ⟨a4, c4, rfl, ho4, hb4⟩
          have HT4 := Lib.hid (HT2.out.up hb4)
          have HO4 := Lib.hid (HO2.out.up hb4)
          have HS4 := Lib.hid (samePairs_any a4 a3 c4 c3 m2 m2 td td w4 HN.out.tl2 HN.out.tl2 (OwnP.reads ho4) (OwnP.reads HO4.out) (by unfold maxLen; omega) true (decide_eq_true rfl))
          clear ho4 hb4 kb
          go_wp2_with fail
          refine HS4.out.mono ?_
          rintro e w5 ⟨rfl, qq, hU⟩
          have hb5 : Below w4.heap.size w4 w5 := by rw [hU]; exact belowDrewN _ _
          have HT5 := Lib.hid (HT4.out.up hb5)
          have HO5 := Lib.hid (HO4.out.up hb5)
          clear hU hb5
          have kb := cell_of_one HT5.out.b0
          go_wp2_with fail
          refine (Get_any w.heap.size w5 p3 o2 k HT5.out.h0 HN.out.ok2 HKX.out r (HN.out.get HKX.out)).mono ?_
          rintro e w6 ⟨rfl, hb6⟩
          have HT6 := Lib.hid (HT5.out.up hb6)
          have HO6 := Lib.hid (HO5.out.up hb6)
          clear hb6 kb
          go_wp2_with fail
          refine (Valued_any a3 c3 m2 td k w6 HN.out.tl2 (by omega) (OwnP.reads HO6.out) r HN.out.val).mono ?_
          rintro e w7 ⟨rfl, rfl⟩
          have HLn := Lib.hid (fun W (hW : Below w6.heap.size w6 W) => Len_num w.heap.size W p3 o2 m2 (HT6.out.h0.up hW) HN.out.c2)
          obtain ⟨rg, hrg⟩ : ∃ x : Int, x = r.getD 0 := ⟨_, rfl⟩
          obtain ⟨rs, hrs⟩ : ∃ x : Bool, x = r.isSome := ⟨_, rfl⟩
          rw [← hrg, ← hrs]
          clear hrg hrs
          have kb := cell_of_one HT6.out.b0
          go_wp2_with fail
          refine (HLn.out _ (Below.refl _ _)).mono ?_
          rintro e U ⟨rfl, hbU⟩
          have HTn := Lib.hid (HT6.out.up hbU)
          have HOn := Lib.hid (HO6.out.up hbU)
          clear hbU kb
          have HE : Hid (Tels w w1.heap.size (done (l.take (j + 1))) (.slice a3 m2 c3) U) := Lib.hid (by rw [HS.out.1, ← HS.out.2.1]; exact ⟨p3, HTn.out, by rw [HN.out.t2]; exact HOn.out⟩)
          clear HTn HOn HLn
          go_wp2_with fail
          go_roundw
          case rel => exact ⟨j + 1, _, rfl, by go_num, hlt, HE⟩
          case measure => simp [intOf]; omega
    · obtain rfl : n = j := by omega
      have HE : Hid (Below w.heap.size w wr) := by
        obtain ⟨p, hT, _⟩ := HF.out
        exact Lib.hid hT.bel
      clear HF
      go_wp2_with fail
      go_ret
      exact ⟨rfl, HE.out⟩

theorem tells_any (a : Option Addr) (c : Nat) (l : List (Int × Int)) (k : Int) (w : World) (hb : l.length * 16 ≤ 140737488351232) (hr : ReadsP w a l) (hi : ∀ p ∈ l, I64 p.1) (hk : I64 k) :
    Calls Try.prog 5 #[.slice a l.length c, .int .i64 k] w (Yes w) := tells a c l.length l k w rfl (by omega) hr hi hk
end Go.Proofs.Ytenaddjnaeebbaa.hamt
