/- The law of what is put and dropped. Whatever the pairs and the keys: true; what was there stays. -/
import Derived.Test.YtenaddjnaeebbaaHamted
import Derived.Test.YtenaddjnaeebbaaHamtG
import Derived.Deep.RegionWith
import Derived.Test.YtenaddjnaeebbaaGrow
namespace Go.Proofs.Ytenaddjnaeebbaa.hamt
open Go.RowKit
open pat (PT OOk ocnt olist oput odrop oget tk I64 tk_lt tk_inj lk told telled Yes i64_lit fill fill_snoc fill_ok fill_cnt oput_spec odrop_spec oget_eq told_ext told_length cnt_oput_le cnt_odrop_le cnt_drop_has known known_ok known_get known_cnt kRow kOwnR Row PT.cnt Ok)

theorem fill_take (l : List (Int × Int)) (k : Nat) (h : k < l.length) : fill none (l.take (k + 1)) = some (oput (fill none (l.take k)) (tk (l.getD k (0, 0)).1) (l.getD k (0, 0)).2) := by
  rw [List.take_succ_eq_append_getElem h, fill_snoc]
  simp [List.getD_eq_getElem?_getD, h]

/-- what holds at a round's head -/
def Filling (w : World) (G : Nat) (o : Option PT) (wr : World) : Prop := ∃ p, HO w.heap.size wr p o ∧ Below w.heap.size w wr ∧ w.heap.size ≤ G ∧ wr.heap[G]? = some (.cells #[.pointer p] 25 (0, 0))

/-- what is at hand behind the makings: three maps in boxes, and what was told -/
structure Hand (w : World) (G0 G5 G7 : Nat) (p0 p5 p7 : Option Addr) (om oa ob : Option PT) (vh : Value) (W : World) : Prop where
  bel : Below w.heap.size w W
  b0 : W.heap[G0]? = some (.cells #[.pointer p0] 25 (0, 0))
  b5 : W.heap[G5]? = some (.cells #[.pointer p5] 25 (0, 0))
  b7 : W.heap[G7]? = some (.cells #[.pointer p7] 25 (0, 0))
  h0 : HO w.heap.size W p0 om
  h5 : HO w.heap.size W p5 oa
  h7 : HO w.heap.size W p7 ob
  had : OwnP W w.heap.size vh (told om)
theorem Hand.bel0 {w : World} {G0 G5 G7 : Nat} {p0 p5 p7 : Option Addr} {om oa ob : Option PT} {vh : Value} {W : World} (h : Hand w G0 G5 G7 p0 p5 p7 om oa ob vh W) : w.heap.size ≤ W.heap.size := h.bel.size
theorem Hand.up {w : World} {G0 G5 G7 : Nat} {p0 p5 p7 : Option Addr} {om oa ob : Option PT} {vh : Value} {W W' : World} (h : Hand w G0 G5 G7 p0 p5 p7 om oa ob vh W) (hb : Below W.heap.size W W') : Hand w G0 G5 G7 p0 p5 p7 om oa ob vh W' :=
  ⟨h.bel.trans (hb.mono h.bel.size), upb hb h.b0, upb hb h.b5, upb hb h.b7, h.h0.up hb, h.h5.up hb, h.h7.up hb, h.had.up hb⟩

/-- what is known of the maps that are made -/
structure Made (om : Option PT) (oa1 oa : PT) (ob od : Option PT) (k v u x : Int) (j : Nat) (ts td : List (Int × Int)) (m0 m7 : Nat) : Prop where
  okm : OOk om
  ok1 : Ok oa1
  ok2 : Ok oa
  ok3 : OOk ob
  ok4 : OOk od
  c1 : oa1.cnt ≤ j + 1
  c2 : oa.cnt ≤ j + 2
  c3 : ocnt (some oa) = ocnt ob + 1
  c4 : ocnt od ≤ j
  bd : told ob = told od
  ga : oget (some oa) (tk k) = some u
  gb : oget ob (tk k) = none
  same : x = k ∨ (oget (some oa) (tk x) = oget om (tk x) ∧ oget ob (tk x) = oget om (tk x))
  m0e : ocnt om = m0
  m7e : ocnt ob = m7
  tse : told om = ts
  tde : told ob = td
  l0 : ts.length = m0
  l7 : td.length = m7
  m7d : ocnt od = m7
  tdd : told od = td
  e1 : oput om (tk k) v = oa1
  e2 : oput (some oa1) (tk k) u = oa
  e3 : odrop (some oa) (tk k) = ob
  e4 : odrop om (tk k) = od

set_option maxRecDepth 100000 in
set_option maxHeartbeats 16000000 in
theorem acts (a : Option Addr) (c n : Nat) (l : List (Int × Int)) (k v u x : Int) (w : World) (hl : l.length = n) (hn : n ≤ 8796093021952) (hr : ReadsP w a l) (hi : ∀ p ∈ l, I64 p.1) (hk : I64 k) (hx : I64 x) :
    Calls Try.prog 6 #[.slice a n c, .int .i64 k, .int .i64 v, .int .i64 u, .int .i64 x] w (Yes w) := by
  have HR := Lib.hid (And.intro hr (And.intro hl hi))
  have HKX := Lib.hid (And.intro hk hx)
  clear hr hl hi hk hx
  go_enter Try.func6, Try.ntmps6
  go_wp2_with fail
  refine (hamted_any w).mono ?_
  rintro e w1 ⟨rfl, hb1⟩
  have hI : Filling w w1.heap.size (fill none (l.take 0)) (w1.alloc (.cells #[.pointer none] 25)) := ⟨none, HO.nil _ _, belowTrans hb1 (belowAlloc _ _), hb1.size, heap_alloc_new _ _⟩
  have HI := Lib.hid hI
  clear hI hb1
  go_wp2_with fail
  go_loopw [13] (fun iv wr => ∃ j : Nat, iv = .int .i64 j ∧ j ≤ n ∧ Hid (Filling w w1.heap.size (fill none (l.take j)) wr)) (fun iv _ => n - (intOf iv).toNat)
  case atStart => exact ⟨0, rfl, Nat.zero_le _, HI⟩
  case round =>
    obtain ⟨j, rfl, hj, HF⟩ := hrel
    have hok : OOk (fill none (l.take j)) := fill_ok _ _ trivial (fun p hp => HR.out.2.2 p (List.mem_of_mem_take hp))
    have hcnt : ocnt (fill none (l.take j)) ≤ j := by
      have h := fill_cnt (l.take j) none
      rw [List.length_take] at h
      have e : ocnt none = 0 := rfl
      omega
    obtain ⟨p, hp, hb, hG, hbx⟩ := HF.out
    have kb := cell_of_one hbx
    have j0 : (0 : Int) ≤ (j : Int) := by omega
    by_cases hlt : j < n
    · obtain ⟨q, o, rfl, k1, k2⟩ := (HR.out.1.up hb).at (k := j) (by rw [HR.out.2.1]; exact hlt)
      have hft := fill_take l j (by rw [HR.out.2.1]; exact hlt)
      have hik : I64 (l.getD j (0, 0)).1 := HR.out.2.2 _ (by rw [List.getD_eq_getElem?_getD, List.getElem?_eq_getElem (by rw [HR.out.2.1]; exact hlt)]; exact List.getElem_mem _)
      obtain ⟨y, hy⟩ : ∃ y, y = l.getD j (0, 0) := ⟨_, rfl⟩
      obtain ⟨y1, y2⟩ := y
      rw [← hy] at k1 k2 hft hik
      dsimp only at k1 k2 hft hik
      have j1 : (j : Int) < (n : Int) := by omega
      have HC := Lib.hid (fun W (hW : Below wr.heap.size wr W) => Put_any w.heap.size W p (fill none (l.take j)) y1 y2 (szle hW hb.size) (hp.up hW) hok hik (by omega))
      have HX := Lib.hid (And.intro hb (And.intro hft hbx))
      clear hy hft hb hp hok hcnt hik hbx
      go_wp2_with fail
      go_region_with (first | (go_at_call 9; refine (HC.out _ (by exact belowDrew _)).mono ?_; rintro e w3 ⟨p3, rfl, hp3, hb3⟩; replace hb3 := belowTrans (belowDrew _) hb3; have hbx3 := upb hb3 HX.out.2.2; have c0 := cell_of_one hbx3; have f0 := free_of_one hbx3))
      all_goals
        have hF2 : Filling w w1.heap.size (fill none (l.take (j + 1))) (w3.setCell ⟨w1.heap.size, 0, none⟩ (.pointer p3)) := by
          rw [HX.out.2.1]
          exact ⟨p3, HO.store (k := w1.heap.size) (off := 0) hbx3 (by decide) hp3, (HX.out.1.trans (hb3.mono HX.out.1.size)).setCell (p := ⟨w1.heap.size, 0, none⟩) hG _, hG, one_setCell hbx3⟩
        have HF2 := Lib.hid hF2
        clear hF2 hp3 hb3 hbx3 c0 f0 kb k1 k2
        go_wp2_with fail
        go_roundw
        case rel => exact ⟨j + 1, by go_num, hlt, HF2⟩
        case measure => simp [intOf]; omega
    · obtain rfl : j = n := by omega
      have htk : l.take j = l := List.take_of_length_le (by rw [HR.out.2.1]; exact Nat.le_refl _)
      rw [htk] at hok hcnt hp
      obtain ⟨om, hom⟩ : ∃ om, om = fill none l := ⟨_, rfl⟩
      rw [← hom] at hok hcnt hp
      have hbg := hb
      -- what is made of it
      obtain ⟨hok1, hl1⟩ := oput_spec hok (tk_lt HKX.out.1) v
      obtain ⟨oa1, hoa1⟩ : ∃ o, o = oput om (tk k) v := ⟨_, rfl⟩
      rw [← hoa1] at hok1 hl1
      have hc1 : oa1.cnt ≤ j + 1 := by rw [hoa1]; have := cnt_oput_le om (tk k) v; omega
      obtain ⟨hok2, hl2⟩ := oput_spec (o := some oa1) hok1 (tk_lt HKX.out.1) u
      obtain ⟨oa, hoa⟩ : ∃ o, o = oput (some oa1) (tk k) u := ⟨_, rfl⟩
      rw [← hoa] at hok2 hl2
      have hc2 : oa.cnt ≤ j + 2 := by rw [hoa]; have := cnt_oput_le (some oa1) (tk k) u; have e : ocnt (some oa1) = oa1.cnt := rfl; omega
      obtain ⟨hok3, hl3⟩ := odrop_spec (o := some oa) hok2 (tk k)
      obtain ⟨ob, hob⟩ : ∃ o, o = odrop (some oa) (tk k) := ⟨_, rfl⟩
      rw [← hob] at hok3 hl3
      have hga : lk (olist (some oa)) (tk k) = some u := by show lk oa.list (tk k) = some u; rw [hl2]; simp
      have hc3 : ocnt (some oa) = ocnt ob + 1 := by rw [hob]; exact cnt_drop_has (o := some oa) hok2 hga
      obtain ⟨hok4, hl4⟩ := odrop_spec hok (tk k)
      obtain ⟨od, hod⟩ : ∃ o, o = odrop om (tk k) := ⟨_, rfl⟩
      rw [← hod] at hok4 hl4
      have hc4 : ocnt od ≤ j := by rw [hod]; have := cnt_odrop_le om (tk k); omega
      have hc5 : ocnt ob ≤ j := by
        have e1 : told ob = told od := told_ext hok3 hok4 (fun i => by
          rw [hl3, hl4]
          show (if i = tk k then none else lk oa.list i) = _
          rw [hl2]
          by_cases e : i = tk k
          · simp [e]
          · simp only [if_neg e]
            show lk oa1.list i = _
            rw [hl1, if_neg e])
        have := congrArg List.length e1
        rw [told_length, told_length] at this
        omega
      have hbd : told ob = told od := told_ext hok3 hok4 (fun i => by
        rw [hl3, hl4]
        show (if i = tk k then none else lk oa.list i) = _
        rw [hl2]
        by_cases e : i = tk k
        · simp [e]
        · simp only [if_neg e]
          show lk oa1.list i = _
          rw [hl1, if_neg e])
      have hga' : oget (some oa) (tk k) = some u := by rw [oget_eq (o := some oa) hok2]; exact hga
      have hgb' : oget ob (tk k) = none := by rw [oget_eq hok3, hl3]; simp
      have hsame : x = k ∨ (oget (some oa) (tk x) = oget om (tk x) ∧ oget ob (tk x) = oget om (tk x)) := by
        by_cases e : x = k
        · exact .inl e
        · have e' : ¬ tk x = tk k := fun h => e (tk_inj HKX.out.2 HKX.out.1 h)
          right
          rw [oget_eq (o := some oa) hok2, oget_eq hok3, oget_eq hok, hl3]
          show lk oa.list (tk x) = _ ∧ (if tk x = tk k then none else lk oa.list (tk x)) = _
          rw [if_neg e', hl2, if_neg e']
          show lk oa1.list (tk x) = _ ∧ lk oa1.list (tk x) = _
          rw [hl1, if_neg e']
          exact ⟨rfl, rfl⟩
      obtain ⟨m0, hm0⟩ : ∃ m, ocnt om = m := ⟨_, rfl⟩
      obtain ⟨m7, hm7⟩ : ∃ m, ocnt ob = m := ⟨_, rfl⟩
      have hm0j : m0 ≤ j := by omega
      have hm7j : m7 ≤ j := by omega
      obtain ⟨ts, hts⟩ : ∃ ts, told om = ts := ⟨_, rfl⟩
      obtain ⟨td, htd⟩ : ∃ td, told ob = td := ⟨_, rfl⟩
      have hlt0 : ts.length = m0 := by rw [← hts]; exact telled hm0
      have hlt7 : td.length = m7 := by rw [← htd]; exact telled hm7
      have HX : Hid (Made om oa1 oa ob od k v u x j ts td m0 m7) := Lib.hid ⟨hok, hok1, hok2, hok3, hok4, hc1, hc2, hc3, hc4, hbd, hga', hgb', hsame, hm0, hm7, hts, htd, hlt0, hlt7, by rw [← htd, hbd, told_length] at hlt7; exact hlt7, by rw [← hbd]; exact htd, hoa1.symm, hoa.symm, hob.symm, hod.symm⟩
      have HB := Lib.hid (And.intro hb (And.intro hbx hp))
      have HPairs := Lib.hid (Pairs_num w.heap.size wr p om m0 hp hok hm0 (by omega) ts hts)
      clear hok hok1 hok2 hok3 hok4 hc1 hc2 hc3 hc4 hc5 hbd hga hga' hgb' hsame hm0 hm7 hts htd hlt0 hlt7 hl1 hl2 hl3 hl4 hoa1 hoa hob hod hcnt hp hb hbx hbg hom htk HF
      go_wp2_with fail
      refine HPairs.out.mono ?_
      rintro e w2 ⟨a2, c2, rfl, ho2, hb2⟩
      have hbx2 := upb hb2 HB.out.2.1
      have k02 := cell_of_one hbx2
      have H2 := Lib.hid (And.intro hb2 (And.intro hbx2 ho2))
      clear hb2 hbx2 ho2 kb
      go_wp2_with fail
      refine (Put_any w.heap.size w2 p om k v (szle H2.out.1 HB.out.1.size) (HB.out.2.2.up H2.out.1) HX.out.okm HKX.out.1 (by have h := HX.out.m0e; omega)).mono ?_
      rintro e w3 ⟨p3, rfl, hp3, hb3⟩
      rw [HX.out.e1] at hp3
      have H3 := Lib.hid (And.intro hb3 hp3)
      clear hb3 hp3
      go_wp2_with fail
      refine (Put_any w.heap.size w3 p3 (some oa1) k u (szle (belowTrans H2.out.1 H3.out.1) HB.out.1.size) H3.out.2 HX.out.ok1 HKX.out.1 (by have h := HX.out.c1; show oa1.cnt ≤ _; omega)).mono ?_
      rintro e w4 ⟨p4, rfl, hp4, hb4⟩
      rw [HX.out.e2] at hp4
      have hb25 := belowTrans (belowTrans H3.out.1 hb4) (belowAlloc w4 (.cells #[.pointer p4] 25))
      have hb45 := belowAlloc w4 (.cells #[.pointer p4] 25)
      have H5 := Lib.hid (And.intro hb25 (And.intro (hp4.up hb45) (heap_alloc_new w4 (.cells #[.pointer p4] 25))))
      clear hb4 hp4 hb25 hb45 k02
      go_wp2_with fail
      refine (Drop_any w.heap.size (w4.alloc (.cells #[.pointer p4] 25)) p4 (some oa) k (szle (belowTrans H2.out.1 H5.out.1) HB.out.1.size) H5.out.2.1 HX.out.ok2 HKX.out.1 (by have h := HX.out.c2; show oa.cnt ≤ _; omega)).mono ?_
      rintro e w6 ⟨p6, rfl, hp6, hb6⟩
      rw [HX.out.e3] at hp6
      obtain ⟨Z, hZ⟩ : ∃ Z, Z = w6.alloc (.cells #[.pointer p6] 25) := ⟨_, rfl⟩
      have hb2Z : Below w2.heap.size w2 Z := by rw [hZ]; exact belowTrans (belowTrans H5.out.1 hb6) (belowAlloc _ _)
      have hb6Z : Below w6.heap.size w6 Z := by rw [hZ]; exact belowAlloc _ _
      have hrZ := belowTrans H2.out.1 hb2Z
      have hHand : Hand w w1.heap.size w4.heap.size w6.heap.size p p4 p6 om (some oa) ob (.slice a2 m0 c2) Z :=
        ⟨HB.out.1.trans (hrZ.mono HB.out.1.size), upb hb2Z H2.out.2.1, upb hb6Z (upb hb6 H5.out.2.2), by rw [hZ]; exact heap_alloc_new _ _, (HB.out.2.2.up H2.out.1).up hb2Z, (H5.out.2.1.up hb6).up hb6Z, hp6.up hb6Z, by have h := H2.out.2.2; rw [HX.out.tse]; exact (h.up hb2Z).lower HB.out.1.size⟩
      have kZ5 := cell_of_one hHand.b5
      have kZ5' : (w6.alloc (.cells #[.pointer p6] 25)).cell? ⟨w4.heap.size, 0, none⟩ = some (.pointer p4) := by rw [← hZ]; exact kZ5
      have HH := Lib.hid hHand
      have HZ := Lib.hid hZ
      clear hb2Z hb6Z hrZ hHand hZ hp6 hb6 kZ5
      go_wp2_with fail
      rw [← HZ.out]
      clear kZ5'
      refine (Get_any w.heap.size Z p4 (some oa) k HH.out.h5 HX.out.ok2 HKX.out.1 (some u) HX.out.ga).mono ?_
      rintro e w8 ⟨rfl, hb8⟩
      have HH8 := Lib.hid (HH.out.up hb8)
      clear hb8
      have k7 := cell_of_one HH8.out.b7
      go_wp2_with fail
      refine (Get_any w.heap.size w8 p6 ob k HH8.out.h7 HX.out.ok3 HKX.out.1 none HX.out.gb).mono ?_
      rintro e w9 ⟨rfl, hb9⟩
      have HH9 := Lib.hid (HH8.out.up hb9)
      clear hb9 k7
      have k0 := cell_of_one HH9.out.b0
      obtain ⟨rm, hrm⟩ : ∃ r, oget om (tk x) = r := ⟨_, rfl⟩
      obtain ⟨ra, hra⟩ : ∃ r, oget (some oa) (tk x) = r := ⟨_, rfl⟩
      obtain ⟨rb, hrb⟩ : ∃ r, oget ob (tk x) = r := ⟨_, rfl⟩
      have HG := Lib.hid (And.intro hrm (And.intro hra hrb))
      have hsame : x = k ∨ (ra = rm ∧ rb = rm) := by have h := HX.out.same; rw [hrm, hra, hrb] at h; exact h
      have Hsame := Lib.hid hsame
      clear hrm hra hrb hsame
      go_wp2_with fail
      refine (Get_any w.heap.size w9 p om x HH9.out.h0 HX.out.okm HKX.out.2 rm HG.out.1).mono ?_
      rintro e w10 ⟨rfl, hb10⟩
      have HH10 := Lib.hid (HH9.out.up hb10)
      clear hb10 k0
      have k5 := cell_of_one HH10.out.b5
      go_wp2_with fail
      refine (Get_any w.heap.size w10 p4 (some oa) x HH10.out.h5 HX.out.ok2 HKX.out.2 ra HG.out.2.1).mono ?_
      rintro e w11 ⟨rfl, hb11⟩
      have HH11 := Lib.hid (HH10.out.up hb11)
      clear hb11 k5
      have k7 := cell_of_one HH11.out.b7
      go_wp2_with fail
      refine (Get_any w.heap.size w11 p6 ob x HH11.out.h7 HX.out.ok3 HKX.out.2 rb HG.out.2.2).mono ?_
      rintro e w12 ⟨rfl, hb12⟩
      have HH12 := Lib.hid (HH11.out.up hb12)
      clear hb12 k7
      have k0 := cell_of_one HH12.out.b0
      clear HH HH8 HH9 HH10 HH11 H2 H3 H5 HZ HPairs HB HR
      obtain ⟨vm, hvm⟩ : ∃ y, y = rm.getD 0 := ⟨_, rfl⟩
      obtain ⟨va, hva⟩ : ∃ y, y = ra.getD 0 := ⟨_, rfl⟩
      obtain ⟨vb, hvb⟩ : ∃ y, y = rb.getD 0 := ⟨_, rfl⟩
      obtain ⟨im, him⟩ : ∃ y, y = rm.isSome := ⟨_, rfl⟩
      obtain ⟨ia, hia⟩ : ∃ y, y = ra.isSome := ⟨_, rfl⟩
      obtain ⟨ib, hib⟩ : ∃ y, y = rb.isSome := ⟨_, rfl⟩
      rw [← hvm, ← hva, ← hvb, ← him, ← hia, ← hib]
      have hsame2 : x = k ∨ (va = vm ∧ vb = vm ∧ ia = im ∧ ib = im) := by
        rcases Hsame.out with h | ⟨h1, h2⟩
        · exact .inl h
        · right
          rw [hva, hvb, hia, hib, h1, h2, hvm, him]
          exact ⟨rfl, rfl, rfl, rfl⟩
      clear hvm hva hvb him hia hib Hsame HG
      by_cases e : x = k
      · have exk : (x != k) = false := by simp [e]
        have He := Lib.hid e
        clear e hsame2
        go_wp2_with fail
        refine (Pairs_num w.heap.size w12 p om m0 HH12.out.h0 HX.out.okm HX.out.m0e (by omega) ts HX.out.tse).mono ?_
        rintro e w13 ⟨a13, c13, rfl, ho13, hb13⟩
        have HH13 := Lib.hid (HH12.out.up hb13)
        have hh13 := HH13.out.had
        rw [HX.out.tse] at hh13
        have HS := Lib.hid (samePairs_any a13 a2 c13 c2 m0 m0 ts ts w13 HX.out.l0 HX.out.l0 (OwnP.reads ho13) (OwnP.reads hh13) (by unfold maxLen; omega) true (decide_eq_true rfl))
        clear hb13 ho13 hh13 k0
        go_wp2_with fail
        refine HS.out.mono ?_
        rintro e V ⟨rfl, q, hV⟩
        have HHV := Lib.hid (HH13.out.up (show Below w13.heap.size w13 V by rw [hV]; exact belowDrewN _ _))
        clear hV
        have k0 := cell_of_one HHV.out.b0
        have k5 := cell_of_one HHV.out.b5
        have k7 := cell_of_one HHV.out.b7
        go_wp2_with fail
        refine grow.wp_grow [grow.kEq (.agg #[.pointer p6]), kRow m7 td, grow.kEq (.agg #[.pointer p]), grow.kEq (.int .i64 k), kMap w.heap.size od, kRow m7 td, grow.kEq (.bool true), grow.kEq (.bool true)] (by kernel_rfl) (by kernel_rfl) (by kernel_rfl) (by kernel_rfl) ?step ?fin
        case step =>
          clear k0 k5 k7
          refine grow.Each.cons ?_ ?_
          · intro A W hB hs hJ K hK
            have s0 := hs 16 (by kernel_rfl)
            simp at s0
            have kk := upc hB (cell_of_one HHV.out.b7)
            rw [if_pos (by rfl)]
            clear hs hJ
            go_simp
            exact hK _ _ (Below.refl _ _) rfl
          refine grow.Each.cons ?_ ?_
          · intro A W hB hs hJ K hK
            have s0 : A.tmps.getD 131 undef = .agg #[.pointer p6] := hJ 0 131 (by kernel_rfl) (by kernel_rfl)
            simp at s0
            rw [if_pos (by rfl)]
            clear hs hJ
            go_simp
            go_at_call 12
            refine (Pairs_num w.heap.size W p6 ob m7 (HHV.out.h7.up hB) HX.out.ok3 HX.out.m7e (by omega) td HX.out.tde).mono ?_
            rintro e W2 ⟨a1, c1, rfl, ho1, hb1⟩
            exact hK _ _ hb1 ⟨a1, c1, rfl, OwnP.reads ho1⟩
          refine grow.Each.cons ?_ ?_
          · intro A W hB hs hJ K hK
            have s0 := hs 12 (by kernel_rfl)
            simp at s0
            have kk := upc hB (cell_of_one HHV.out.b0)
            rw [if_pos (by rfl)]
            clear hs hJ
            go_simp
            exact hK _ _ (Below.refl _ _) rfl
          refine grow.Each.cons ?_ ?_
          · intro A W hB hs hJ K hK
            have s0 := hs 1 (by kernel_rfl)
            simp at s0
            rw [if_pos (by rfl)]
            clear hs hJ
            go_simp
            exact hK _ _ (Below.refl _ _) rfl
          refine grow.Each.cons ?_ ?_
          · intro A W hB hs hJ K hK
            have s0 : A.tmps.getD 133 undef = .agg #[.pointer p] := hJ 2 133 (by kernel_rfl) (by kernel_rfl)
            simp at s0
            have s1 : A.tmps.getD 134 undef = .int .i64 k := hJ 3 134 (by kernel_rfl) (by kernel_rfl)
            simp at s1
            rw [if_pos (by rfl)]
            clear hs hJ
            go_simp
            go_at_call 21
            refine (Drop_any w.heap.size W p om k (szle hB HHV.out.bel0) (HHV.out.h0.up hB) HX.out.okm HKX.out.1 (by have h := HX.out.m0e; omega)).mono ?_
            rintro e W2 ⟨pD, rfl, hpD, hrD⟩
            exact hK _ _ hrD ⟨pD, rfl, by rw [← HX.out.e4]; exact hpD⟩
          refine grow.Each.cons ?_ ?_
          · intro A W hB hs hJ K hK
            obtain ⟨pD, s0, hpD⟩ := hJ 4 135 (by kernel_rfl) (by kernel_rfl)
            simp at s0
            rw [if_pos (by rfl)]
            clear hs hJ
            go_simp
            go_at_call 12
            refine (Pairs_num w.heap.size W pD od m7 hpD HX.out.ok4 HX.out.m7d (by omega) td HX.out.tdd).mono ?_
            rintro e W2 ⟨a1, c1, rfl, ho1, hb1⟩
            exact hK _ _ hb1 ⟨a1, c1, rfl, OwnP.reads ho1⟩
          refine grow.Each.cons ?_ ?_
          · intro A W hB hs hJ K hK
            obtain ⟨aB, cB, s0, hrB⟩ := hJ 1 132 (by kernel_rfl) (by kernel_rfl)
            simp at s0
            obtain ⟨aE, cE, s1, hrE⟩ := hJ 5 136 (by kernel_rfl) (by kernel_rfl)
            simp at s1
            rw [if_pos (by rfl)]
            clear hs hJ
            go_simp
            go_at_call 13
            refine (samePairs_any aB aE cB cE m7 m7 td td W HX.out.l7 HX.out.l7 hrB hrE (by unfold maxLen; omega) true (decide_eq_true rfl)).mono ?_
            rintro e W2 ⟨rfl, qq, hU⟩
            exact hK _ _ (by rw [hU]; exact belowDrewN _ _) rfl
          refine grow.Each.cons ?_ ?_
          · intro A W hB hs hJ K hK
            have s0 : A.tmps.getD 137 undef = .bool true := hJ 6 137 (by kernel_rfl) (by kernel_rfl)
            simp at s0
            rw [if_pos (by rfl)]
            clear hs hJ
            go_simp
            exact hK _ _ (Below.refl _ _) rfl
          exact grow.Each.nil
        case fin =>
          intro f W hB hF
          have f0 : f 0 = (.agg #[.pointer p6]) := hF 0 (by decide)
          obtain ⟨vp1, vc1, f1, _⟩ := hF 1 (by decide)
          have f2 : f 2 = (.agg #[.pointer p]) := hF 2 (by decide)
          have f3 : f 3 = (.int .i64 k) := hF 3 (by decide)
          obtain ⟨vp4, f4, _⟩ := hF 4 (by decide)
          obtain ⟨vp5, vc5, f5, _⟩ := hF 5 (by decide)
          have f6 : f 6 = (.bool true) := hF 6 (by decide)
          have f7 : f 7 = (.bool true) := hF 7 (by decide)
          clear hF
          generalize hA : grow.puts _ _ f _ = A'
          simp only [List.length_cons, List.length_nil, Nat.reduceAdd, grow.puts, Act.put, List.getElem?_toArray, List.getElem?_cons_zero, List.getElem?_cons_succ, Option.bind_some, List.setIfInBounds_toArray, List.set_cons_zero, List.set_cons_succ, f0, f1, f2, f3, f4, f5, f6, f7] at hA
          subst hA
          have HHU := Lib.hid (HHV.out.up hB)
          clear hB k0 k5 k7
          obtain ⟨U, hU⟩ : ∃ U, U = W := ⟨_, rfl⟩
          rw [← hU] at HHU ⊢
          clear hU
          have k5 := cell_of_one HHU.out.b5
          have k7 := cell_of_one HHU.out.b7
          have HLa : Hid (∀ W, Below U.heap.size U W → Calls Try.prog 10 #[.agg #[.pointer p4]] W fun e w' => e = .returned (.int .i64 ((m7 : Int) + 1)) ∧ Below W.heap.size W w') := Lib.hid (fun W hW => by
            have h := Len_any w.heap.size W p4 (some oa) (HHU.out.h5.up hW)
            rw [HX.out.c3, HX.out.m7e] at h
            exact h)
          have HLb : Hid (∀ W, Below U.heap.size U W → Calls Try.prog 10 #[.agg #[.pointer p6]] W fun e w' => e = .returned (.int .i64 (m7 : Int)) ∧ Below W.heap.size W w') := Lib.hid (fun W hW => by
            have h := Len_any w.heap.size W p6 ob (HHU.out.h7.up hW)
            rw [HX.out.m7e] at h
            exact h)
          have hwr : IntKind.i64.wrap ((m7 : Int) + 1) = (m7 : Int) + 1 := IntWalk.i64_in _ (by omega)
          go_wp2_with fail
          go_region_held3 (fun w' => w'.cell? ⟨w4.heap.size, 0, none⟩ = some (.pointer p4) ∧ w'.cell? ⟨w6.heap.size, 0, none⟩ = some (.pointer p6)) (first | exact ⟨x5, x7⟩ | exact ⟨y5, y7⟩ | exact ⟨k5, k7⟩ | go_keep)
            (first
            | (go_at_call_of 10 (Value.agg #[Value.pointer p4]); refine (HLa.out _ (by first | exact hbY | exact belowDrew U)).mono ?_; rintro e wX ⟨rfl, hrX⟩; have hbX : Below U.heap.size U wX := (by first | exact belowTrans hbY hrX | exact belowTrans (belowDrew U) hrX); have x5 := upc hbX k5; have x7 := upc hbX k7)
            | (go_at_call_of 10 (Value.agg #[Value.pointer p6]); refine (HLb.out _ (by first | exact hbX | exact belowDrew U)).mono ?_; rintro e wY ⟨rfl, hrY⟩; have hbY : Below U.heap.size U wY := (by first | exact belowTrans hbX hrY | exact belowTrans (belowDrew U) hrY); have y5 := upc hbY k5; have y7 := upc hbY k7))
          all_goals
            go_wp2_with fail
            go_ret
            first
            | exact ⟨rfl, HHU.out.bel.trans (hbX.mono HHU.out.bel.size)⟩
            | exact ⟨rfl, HHU.out.bel.trans (hbY.mono HHU.out.bel.size)⟩
      · obtain ⟨rfl, rfl, rfl, rfl⟩ := hsame2.resolve_left e
        have exk : (x != k) = true := by simp [e]
        have He := Lib.hid e
        clear e hsame2
        go_wp2_with fail
        refine (Pairs_num w.heap.size w12 p om m0 HH12.out.h0 HX.out.okm HX.out.m0e (by omega) ts HX.out.tse).mono ?_
        rintro e w13 ⟨a13, c13, rfl, ho13, hb13⟩
        have HH13 := Lib.hid (HH12.out.up hb13)
        have hh13 := HH13.out.had
        rw [HX.out.tse] at hh13
        have HS := Lib.hid (samePairs_any a13 a2 c13 c2 m0 m0 ts ts w13 HX.out.l0 HX.out.l0 (OwnP.reads ho13) (OwnP.reads hh13) (by unfold maxLen; omega) true (decide_eq_true rfl))
        clear hb13 ho13 hh13 k0
        go_wp2_with fail
        refine HS.out.mono ?_
        rintro e V ⟨rfl, q, hV⟩
        have HHV := Lib.hid (HH13.out.up (show Below w13.heap.size w13 V by rw [hV]; exact belowDrewN _ _))
        clear hV
        have k0 := cell_of_one HHV.out.b0
        have k5 := cell_of_one HHV.out.b5
        have k7 := cell_of_one HHV.out.b7
        go_wp2_with fail
        refine grow.wp_grow [grow.kEq (.agg #[.pointer p6]), kRow m7 td, grow.kEq (.agg #[.pointer p]), grow.kEq (.int .i64 k), kMap w.heap.size od, kRow m7 td, grow.kEq (.bool true), grow.kEq (.bool true)] (by kernel_rfl) (by kernel_rfl) (by kernel_rfl) (by kernel_rfl) ?step ?fin
        case step =>
          clear k0 k5 k7
          refine grow.Each.cons ?_ ?_
          · intro A W hB hs hJ K hK
            have s0 := hs 16 (by kernel_rfl)
            simp at s0
            have kk := upc hB (cell_of_one HHV.out.b7)
            rw [if_pos (by rfl)]
            clear hs hJ
            go_simp
            exact hK _ _ (Below.refl _ _) rfl
          refine grow.Each.cons ?_ ?_
          · intro A W hB hs hJ K hK
            have s0 : A.tmps.getD 131 undef = .agg #[.pointer p6] := hJ 0 131 (by kernel_rfl) (by kernel_rfl)
            simp at s0
            rw [if_pos (by rfl)]
            clear hs hJ
            go_simp
            go_at_call 12
            refine (Pairs_num w.heap.size W p6 ob m7 (HHV.out.h7.up hB) HX.out.ok3 HX.out.m7e (by omega) td HX.out.tde).mono ?_
            rintro e W2 ⟨a1, c1, rfl, ho1, hb1⟩
            exact hK _ _ hb1 ⟨a1, c1, rfl, OwnP.reads ho1⟩
          refine grow.Each.cons ?_ ?_
          · intro A W hB hs hJ K hK
            have s0 := hs 12 (by kernel_rfl)
            simp at s0
            have kk := upc hB (cell_of_one HHV.out.b0)
            rw [if_pos (by rfl)]
            clear hs hJ
            go_simp
            exact hK _ _ (Below.refl _ _) rfl
          refine grow.Each.cons ?_ ?_
          · intro A W hB hs hJ K hK
            have s0 := hs 1 (by kernel_rfl)
            simp at s0
            rw [if_pos (by rfl)]
            clear hs hJ
            go_simp
            exact hK _ _ (Below.refl _ _) rfl
          refine grow.Each.cons ?_ ?_
          · intro A W hB hs hJ K hK
            have s0 : A.tmps.getD 133 undef = .agg #[.pointer p] := hJ 2 133 (by kernel_rfl) (by kernel_rfl)
            simp at s0
            have s1 : A.tmps.getD 134 undef = .int .i64 k := hJ 3 134 (by kernel_rfl) (by kernel_rfl)
            simp at s1
            rw [if_pos (by rfl)]
            clear hs hJ
            go_simp
            go_at_call 21
            refine (Drop_any w.heap.size W p om k (szle hB HHV.out.bel0) (HHV.out.h0.up hB) HX.out.okm HKX.out.1 (by have h := HX.out.m0e; omega)).mono ?_
            rintro e W2 ⟨pD, rfl, hpD, hrD⟩
            exact hK _ _ hrD ⟨pD, rfl, by rw [← HX.out.e4]; exact hpD⟩
          refine grow.Each.cons ?_ ?_
          · intro A W hB hs hJ K hK
            obtain ⟨pD, s0, hpD⟩ := hJ 4 135 (by kernel_rfl) (by kernel_rfl)
            simp at s0
            rw [if_pos (by rfl)]
            clear hs hJ
            go_simp
            go_at_call 12
            refine (Pairs_num w.heap.size W pD od m7 hpD HX.out.ok4 HX.out.m7d (by omega) td HX.out.tdd).mono ?_
            rintro e W2 ⟨a1, c1, rfl, ho1, hb1⟩
            exact hK _ _ hb1 ⟨a1, c1, rfl, OwnP.reads ho1⟩
          refine grow.Each.cons ?_ ?_
          · intro A W hB hs hJ K hK
            obtain ⟨aB, cB, s0, hrB⟩ := hJ 1 132 (by kernel_rfl) (by kernel_rfl)
            simp at s0
            obtain ⟨aE, cE, s1, hrE⟩ := hJ 5 136 (by kernel_rfl) (by kernel_rfl)
            simp at s1
            rw [if_pos (by rfl)]
            clear hs hJ
            go_simp
            go_at_call 13
            refine (samePairs_any aB aE cB cE m7 m7 td td W HX.out.l7 HX.out.l7 hrB hrE (by unfold maxLen; omega) true (decide_eq_true rfl)).mono ?_
            rintro e W2 ⟨rfl, qq, hU⟩
            exact hK _ _ (by rw [hU]; exact belowDrewN _ _) rfl
          refine grow.Each.cons ?_ ?_
          · intro A W hB hs hJ K hK
            have s0 : A.tmps.getD 137 undef = .bool true := hJ 6 137 (by kernel_rfl) (by kernel_rfl)
            simp at s0
            rw [if_pos (by rfl)]
            clear hs hJ
            go_simp
            exact hK _ _ (Below.refl _ _) rfl
          exact grow.Each.nil
        case fin =>
          intro f W hB hF
          have f0 : f 0 = (.agg #[.pointer p6]) := hF 0 (by decide)
          obtain ⟨vp1, vc1, f1, _⟩ := hF 1 (by decide)
          have f2 : f 2 = (.agg #[.pointer p]) := hF 2 (by decide)
          have f3 : f 3 = (.int .i64 k) := hF 3 (by decide)
          obtain ⟨vp4, f4, _⟩ := hF 4 (by decide)
          obtain ⟨vp5, vc5, f5, _⟩ := hF 5 (by decide)
          have f6 : f 6 = (.bool true) := hF 6 (by decide)
          have f7 : f 7 = (.bool true) := hF 7 (by decide)
          clear hF
          generalize hA : grow.puts _ _ f _ = A'
          simp only [List.length_cons, List.length_nil, Nat.reduceAdd, grow.puts, Act.put, List.getElem?_toArray, List.getElem?_cons_zero, List.getElem?_cons_succ, Option.bind_some, List.setIfInBounds_toArray, List.set_cons_zero, List.set_cons_succ, f0, f1, f2, f3, f4, f5, f6, f7] at hA
          subst hA
          have HHU := Lib.hid (HHV.out.up hB)
          clear hB k0 k5 k7
          obtain ⟨U, hU⟩ : ∃ U, U = W := ⟨_, rfl⟩
          rw [← hU] at HHU ⊢
          clear hU
          have k5 := cell_of_one HHU.out.b5
          have k7 := cell_of_one HHU.out.b7
          have HLa : Hid (∀ W, Below U.heap.size U W → Calls Try.prog 10 #[.agg #[.pointer p4]] W fun e w' => e = .returned (.int .i64 ((m7 : Int) + 1)) ∧ Below W.heap.size W w') := Lib.hid (fun W hW => by
            have h := Len_any w.heap.size W p4 (some oa) (HHU.out.h5.up hW)
            rw [HX.out.c3, HX.out.m7e] at h
            exact h)
          have HLb : Hid (∀ W, Below U.heap.size U W → Calls Try.prog 10 #[.agg #[.pointer p6]] W fun e w' => e = .returned (.int .i64 (m7 : Int)) ∧ Below W.heap.size W w') := Lib.hid (fun W hW => by
            have h := Len_any w.heap.size W p6 ob (HHU.out.h7.up hW)
            rw [HX.out.m7e] at h
            exact h)
          have hwr : IntKind.i64.wrap ((m7 : Int) + 1) = (m7 : Int) + 1 := IntWalk.i64_in _ (by omega)
          go_wp2_with fail
          go_region_held3 (fun w' => w'.cell? ⟨w4.heap.size, 0, none⟩ = some (.pointer p4) ∧ w'.cell? ⟨w6.heap.size, 0, none⟩ = some (.pointer p6)) (first | exact ⟨x5, x7⟩ | exact ⟨y5, y7⟩ | exact ⟨k5, k7⟩ | go_keep)
            (first
            | (go_at_call_of 10 (Value.agg #[Value.pointer p4]); refine (HLa.out _ (by first | exact hbY | exact belowDrew U)).mono ?_; rintro e wX ⟨rfl, hrX⟩; have hbX : Below U.heap.size U wX := (by first | exact belowTrans hbY hrX | exact belowTrans (belowDrew U) hrX); have x5 := upc hbX k5; have x7 := upc hbX k7)
            | (go_at_call_of 10 (Value.agg #[Value.pointer p6]); refine (HLb.out _ (by first | exact hbX | exact belowDrew U)).mono ?_; rintro e wY ⟨rfl, hrY⟩; have hbY : Below U.heap.size U wY := (by first | exact belowTrans hbX hrY | exact belowTrans (belowDrew U) hrY); have y5 := upc hbY k5; have y7 := upc hbY k7))
          all_goals
            go_wp2_with fail
            go_ret
            first
            | exact ⟨rfl, HHU.out.bel.trans (hbX.mono HHU.out.bel.size)⟩
            | exact ⟨rfl, HHU.out.bel.trans (hbY.mono HHU.out.bel.size)⟩

theorem acts_any (a : Option Addr) (c : Nat) (l : List (Int × Int)) (k v u x : Int) (w : World) (hn : l.length * 16 ≤ 140737488351232) (hr : ReadsP w a l) (hi : ∀ p ∈ l, I64 p.1) (hk : I64 k) (hx : I64 x) :
    Calls Try.prog 6 #[.slice a l.length c, .int .i64 k, .int .i64 v, .int .i64 u, .int .i64 x] w (Yes w) :=
  acts a c l.length l k v u x w rfl (by omega) hr hi hk hx
end Go.Proofs.Ytenaddjnaeebbaa.hamt
