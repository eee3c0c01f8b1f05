/- The order is no matter. -/
import Derived.Test.YtenaddjnaeebbaaHamtTells
namespace Go.Proofs.Ytenaddjnaeebbaa.hamt
open Go.RowKit
open pat (PT OOk ocnt olist oput odrop oget tk I64 tk_lt tk_inj lk told telled Yes i64_lit oput_spec odrop_spec oget_eq told_ext told_length cnt_oput_le cnt_odrop_le kRow Row PT.cnt Ok)

theorem farSet {w : World} {k j off : Nat} {v : Value} {ob : Obj} (hk : w.heap[j]? = some ob) (hne : k ≠ j) : (w.setCell ⟨k, off, none⟩ v).heap[j]? = some ob := by
  exact (Below.heap_setCell w _ v j (by rintro rfl; exact hne rfl)).trans hk
/-- two maps in boxes -/
structure DH (w : World) (G : Nat) (x y : Option PT) (p q : Option Addr) (W : World) : Prop where
  bel : Below w.heap.size w W
  g : w.heap.size ≤ G
  b0 : W.heap[G]? = some (.cells #[.pointer p] 25 (0, 0))
  b1 : W.heap[G + 1]? = some (.cells #[.pointer q] 25 (0, 0))
  h0 : HO w.heap.size W p x
  h1 : HO w.heap.size W q y
theorem DH.up {w : World} {G : Nat} {x y : Option PT} {W W' : World} {p q : Option Addr} (h : DH w G x y p q W) (hb : Below W.heap.size W W') : DH w G x y p q W' :=
  ⟨h.bel.trans (hb.mono h.bel.size), h.g, upb hb h.b0, upb hb h.b1, h.h0.up hb, h.h1.up hb⟩
theorem DH.set0 {w : World} {G : Nat} {x y x' : Option PT} {W : World} {p q p' : Option Addr} (h : DH w G x y p q W) (hp : HO w.heap.size W p' x') : DH w G x' y p' q (W.setCell ⟨G, 0, none⟩ (.pointer p')) :=
  ⟨belowSet (a := ⟨G, 0, none⟩) h.bel (by have := h.g; show w.heap.size ≤ G; omega) _, h.g, one_setCell h.b0, farSet h.b1 (by omega), HO.store (k := G) (off := 0) h.b0 (by decide) hp, HO.store (k := G) (off := 0) h.b0 (by decide) h.h1⟩
theorem DH.set1 {w : World} {G : Nat} {x y y' : Option PT} {W : World} {p q q' : Option Addr} (h : DH w G x y p q W) (hq : HO w.heap.size W q' y') : DH w G x y' p q' (W.setCell ⟨G + 1, 0, none⟩ (.pointer q')) :=
  ⟨belowSet (a := ⟨G + 1, 0, none⟩) h.bel (by have := h.g; show w.heap.size ≤ G + 1; omega) _, h.g, farSet h.b0 (by omega), one_setCell h.b1, HO.store (k := G + 1) (off := 0) h.b1 (by decide) h.h0, HO.store (k := G + 1) (off := 0) h.b1 (by decide) hq⟩

def KM (more : List Int) (i : Nat) : Prop := ∃ m ∈ more, tk m = i
def KL (more : List Int) (l : List (Int × Int)) (i : Nat) : Prop := KM more i ∨ ∃ p ∈ l, tk p.1 = i
/-- what is known in the first loops -/
structure S1 (K : Nat → Prop) (y : Option PT) (c : Nat) : Prop where
  ok : OOk y
  c : ocnt y ≤ c
  k : ∀ i, lk (olist y) i ≠ none → K i
theorem S1.put {K : Nat → Prop} {y : Option PT} {c : Nat} (h : S1 K y c) {k : Int} (hk : I64 k) (v : Int) (hK : K (tk k)) : S1 K (some (oput y (tk k) v)) (c + 1) := by
  obtain ⟨h1, h2⟩ := oput_spec h.ok (tk_lt hk) v
  refine ⟨h1, ?_, ?_⟩
  · have := cnt_oput_le y (tk k) v
    have := h.c
    show (oput y (tk k) v).cnt ≤ c + 1
    omega
  · intro i hi
    have hi' : lk (oput y (tk k) v).list i ≠ none := hi
    rw [h2] at hi'
    by_cases e : i = tk k
    · subst e; exact hK
    · rw [if_neg e] at hi'; exact h.k i hi'
structure S3 (more : List Int) (l : List (Int × Int)) (x y : Option PT) (j d : Nat) : Prop where
  ok : OOk x
  oky : OOk y
  c : ocnt x ≤ j
  cy : ocnt y ≤ d
  sub : ∀ i v, lk (olist x) i = some v → lk (olist y) i = some v
  k : ∀ i, lk (olist y) i ≠ none → KL more l i
  has : ∀ p ∈ l.take j, lk (olist x) (tk p.1) ≠ none
theorem S3.start {more : List Int} {l : List (Int × Int)} {y : Option PT} {c : Nat} (h : S1 (KL more l) y c) : S3 more l none y 0 c :=
  ⟨trivial, h.ok, Nat.le_refl _, h.c, fun i v e => by simp [olist, lk] at e, h.k, fun p hp => by simp at hp⟩
theorem S3.put {more : List Int} {l : List (Int × Int)} {x y : Option PT} {j c : Nat} (h : S3 more l x y j c) (hj : j < l.length) {k v : Int} (hy : (k, v) = l.getD j (0, 0)) (hk : I64 k) :
    S3 more l (some (oput x (tk k) v)) (some (oput y (tk k) v)) (j + 1) (c + 1) := by
  obtain ⟨h1, h2⟩ := oput_spec h.ok (tk_lt hk) v
  obtain ⟨h3, h4⟩ := oput_spec h.oky (tk_lt hk) v
  have hg : l.getD j (0, 0) = l[j] := by simp [List.getD_eq_getElem?_getD, hj]
  refine ⟨h1, h3, ?_, ?_, ?_, ?_, ?_⟩
  · have := cnt_oput_le x (tk k) v
    have := h.c
    show (oput x (tk k) v).cnt ≤ j + 1
    omega
  · have := cnt_oput_le y (tk k) v
    have := h.cy
    show (oput y (tk k) v).cnt ≤ c + 1
    omega
  · intro i u hu
    have hu' : lk (oput x (tk k) v).list i = some u := hu
    show lk (oput y (tk k) v).list i = some u
    rw [h2] at hu'
    rw [h4]
    by_cases e : i = tk k
    · rw [if_pos e] at hu' ⊢; exact hu'
    · rw [if_neg e] at hu' ⊢; exact h.sub i u hu'
  · intro i hi
    have hi' : lk (oput y (tk k) v).list i ≠ none := hi
    rw [h4] at hi'
    by_cases e : i = tk k
    · right
      refine ⟨l[j], List.getElem_mem _, ?_⟩
      rw [← hg, ← hy, e]
    · rw [if_neg e] at hi'; exact h.k i hi'
  · intro p hp
    show lk (oput x (tk k) v).list _ ≠ none
    rw [h2]
    by_cases e : tk p.1 = tk k
    · rw [if_pos e]; simp
    · rw [if_neg e]
      rw [List.take_succ_eq_append_getElem hj] at hp
      rcases List.mem_append.1 hp with hp | hp
      · exact h.has p hp
      · have : p = l[j] := by simpa using hp
        rw [this, ← hg, ← hy] at e
        exact absurd rfl e
structure S4 (more : List Int) (x y : Option PT) (j n d : Nat) : Prop where
  ok : OOk x
  oky : OOk y
  c : ocnt x ≤ n
  cy : ocnt y ≤ d
  sub : ∀ i v, lk (olist x) i = some v → lk (olist y) i = some v
  k : ∀ i, lk (olist y) i ≠ none → lk (olist x) i = none → KM (more.drop j) i
theorem S4.start {more : List Int} {l : List (Int × Int)} {x y : Option PT} {n c : Nat} (h : S3 more l x y n c) (hn : l.length = n) : S4 more x y 0 n c := by
  refine ⟨h.ok, h.oky, h.c, h.cy, h.sub, fun i hi hx => ?_⟩
  rcases h.k i hi with hm | ⟨p, hp, e⟩
  · exact hm
  · have := h.has p (by rw [List.take_of_length_le (by omega)]; exact hp)
    rw [e] at this
    exact absurd hx this
theorem S4.keep {more : List Int} {x y : Option PT} {j n c : Nat} (h : S4 more x y j n c) (hj : j < more.length) {v : Int} (hx : oget x (tk (more.getD j 0)) = some v) : S4 more x y (j + 1) n c := by
  refine ⟨h.ok, h.oky, h.c, h.cy, h.sub, fun i hi hn => ?_⟩
  obtain ⟨m, hm, e⟩ := h.k i hi hn
  have hg : more.getD j 0 = more[j] := by simp [List.getD_eq_getElem?_getD, hj]
  rw [List.drop_eq_getElem_cons hj] at hm
  rcases List.mem_cons.1 hm with rfl | hm
  · rw [hg, e, oget_eq h.ok, hn] at hx
    cases hx
  · exact ⟨m, hm, e⟩
theorem S4.drop {more : List Int} {x y : Option PT} {j n c : Nat} (h : S4 more x y j n c) (hj : j < more.length) (hx : oget x (tk (more.getD j 0)) = none) : S4 more x (odrop y (tk (more.getD j 0))) (j + 1) n c := by
  obtain ⟨h1, h2⟩ := odrop_spec h.oky (tk (more.getD j 0))
  have hg : more.getD j 0 = more[j] := by simp [List.getD_eq_getElem?_getD, hj]
  refine ⟨h.ok, h1, h.c, ?_, ?_, ?_⟩
  · have := cnt_odrop_le y (tk (more.getD j 0))
    have := h.cy
    omega
  · intro i v hv
    rw [h2]
    rw [if_neg (by rintro rfl; rw [oget_eq h.ok, hv] at hx; cases hx)]
    exact h.sub i v hv
  · intro i hi hn
    rw [h2] at hi
    by_cases e : i = tk (more.getD j 0)
    · rw [if_pos e] at hi; exact absurd rfl hi
    · rw [if_neg e] at hi
      obtain ⟨m, hm, e2⟩ := h.k i hi hn
      rw [List.drop_eq_getElem_cons hj] at hm
      rcases List.mem_cons.1 hm with rfl | hm
      · rw [hg] at e; exact absurd e2.symm e
      · exact ⟨m, hm, e2⟩
theorem S4.same {more : List Int} {x y : Option PT} {j n c : Nat} (h : S4 more x y j n c) (hj : more.length ≤ j) : told y = told x := by
  refine told_ext h.oky h.ok (fun i => ?_)
  cases hx : lk (olist x) i with
  | some v => exact h.sub i v hx
  | none =>
    cases hy : lk (olist y) i with
    | none => rfl
    | some v =>
      obtain ⟨m, hm, _⟩ := h.k i (by rw [hy]; simp) hx
      rw [List.drop_eq_nil_of_le hj] at hm
      cases hm
structure Mh (x y : Option PT) (ts : List (Int × Int)) (m : Nat) : Prop where
  ok : OOk x
  oky : OOk y
  c : ocnt x = m
  cy : ocnt y = m
  t : told x = ts
  ty : told y = ts
  tl : ts.length = m
theorem S4.mh {more : List Int} {x y : Option PT} {j n c : Nat} (h : S4 more x y j n c) (hj : more.length ≤ j) : Mh x y (told x) (ocnt x) :=
  ⟨h.ok, h.oky, rfl, by rw [← told_length, ← told_length, h.same hj], rfl, h.same hj, told_length _⟩
theorem reads_at {w : World} {a : Option Addr} {xs : List Int} (h : Reads w a xs) {k : Nat} (hk : k < xs.length) : ∃ b o, a = some ⟨b, o, none⟩ ∧ w.cell? ⟨b, o + k, none⟩ = some (.int .i64 (xs.getD k 0)) := by
  rcases h with h | ⟨b, o, ha, hc⟩
  · rw [h] at hk; simp at hk
  · exact ⟨b, o, ha, hc k hk⟩

set_option maxRecDepth 100000 in
set_option maxHeartbeats 8000000 in
theorem order (a0 a1 : Option Addr) (c0 c1 n0 n1 : Nat) (l : List (Int × Int)) (more : List Int) (w : World) (hl : l.length = n0) (hm : more.length = n1) (hn0 : n0 ≤ 1048576) (hn1 : n1 ≤ 1048576) (hr : ReadsP w a0 l) (hi : ∀ p ∈ l, I64 p.1) (hrm : Reads w a1 more) (him : ∀ x ∈ more, I64 x) :
    Calls Try.prog 7 #[.slice a0 n0 c0, .slice a1 n1 c1] w (Yes w) := by
  have HR := Lib.hid (And.intro hr (And.intro hl hi))
  have HM := Lib.hid (And.intro hrm (And.intro hm him))
  clear hr hl hi hrm hm him
  go_enter Try.func7, Try.ntmps7
  go_wp2_with fail
  refine (hamted_any w).mono ?_
  rintro e w1 ⟨rfl, hb1⟩
  have HI : Hid (∃ q y, DH w w1.heap.size none y none q ((w1.alloc (.cells #[.pointer none] 25)).alloc (.cells #[.pointer none] 25)) ∧ S1 (KM more) y 0) :=
    Lib.hid ⟨none, none, ⟨belowTrans hb1 (belowTrans (belowAlloc _ _) (belowAlloc _ _)), hb1.size, heapNew1 w1 _ _, heapNew2 w1 _ _, HO.nil _ _, HO.nil _ _⟩, trivial, Nat.le_refl _, fun i h => absurd rfl h⟩
  have HG1 := Lib.hid hb1.size
  clear hb1
  go_wp2_with fail
  go_loopw [8] (fun iv wr => ∃ j : Nat, iv = .int .i64 j ∧ j ≤ n1 ∧ Hid (∃ q y, DH w w1.heap.size none y none q wr ∧ S1 (KM more) y j)) (fun iv _ => n1 - (intOf iv).toNat)
  case atStart => exact ⟨0, rfl, Nat.zero_le _, HI⟩
  case round =>
    obtain ⟨j, rfl, hj, HF⟩ := hrel
    obtain ⟨q, o, hT, hS⟩ := HF.out
    have j0 : (0 : Int) ≤ (j : Int) := by omega
    clear HF HI
    have HS := Lib.hid hS
    clear hS
    by_cases hlt : j < n1
    · obtain ⟨qa, oa, rfl, q01⟩ := reads_at HM.out.1 (k := j) (by rw [HM.out.2.1]; exact hlt)
      have hmem : more.getD j 0 ∈ more := by rw [List.getD_eq_getElem?_getD, List.getElem?_eq_getElem (by rw [HM.out.2.1]; exact hlt)]; exact List.getElem_mem _
      obtain ⟨y1, hy⟩ : ∃ y, y = more.getD j 0 := ⟨_, rfl⟩
      rw [← hy] at q01 hmem
      have HMem := Lib.hid hmem
      have HIK := Lib.hid (HM.out.2.2 _ hmem)
      have q1 := upc hT.bel q01
      have j1 : (j : Int) < (n1 : Int) := by omega
      have kb := cell_of_one hT.b1
      have HT := Lib.hid hT
      clear q01 hy hmem hT
      have HC : Hid (∀ W, Below wr.heap.size wr W → Calls Try.prog 9 #[.agg #[.pointer q], .int .i64 y1, .int .i64 j] W (RetM w.heap.size W (some (oput o (tk y1) j)))) := Lib.hid (fun W hW => Put_any w.heap.size W q o y1 j (szle hW HT.out.bel.size) (HT.out.h1.up hW) HS.out.ok HIK.out (by have := HS.out.c; omega))
      go_wp2_with fail
      go_region_with (first | (go_at_call 9; refine (HC.out _ (by exact belowDrew _)).mono ?_; rintro e x3 ⟨q3, rfl, hp3, hb3⟩; replace hb3 := belowTrans (belowDrew _) hb3; have hT3 := HT.out.up hb3; have c0 := cell_of_one hT3.b1; have f0 := free_of_one hT3.b1))
      all_goals
        obtain ⟨Z1, hZ⟩ : ∃ Z, Z = x3.setCell ⟨w1.heap.size + 1, 0, none⟩ (.pointer q3) := ⟨_, rfl⟩
        have hTZ : DH w w1.heap.size none (some (oput o (tk y1) j)) none q3 Z1 := by rw [hZ]; exact hT3.set1 hp3
        have HTn := Lib.hid hTZ
        try rw [← hZ]
        clear hT3 hp3 hb3 c0 f0 hZ hTZ HT HC
        have HT := HTn
        clear HTn
        have HE : Hid (∃ q y, DH w w1.heap.size none y none q Z1 ∧ S1 (KM more) y (j + 1)) := Lib.hid ⟨_, _, HT.out, HS.out.put HIK.out _ ⟨_, HMem.out, rfl⟩⟩
        clear HT q1 kb
        go_wp2_with fail
        go_roundw
        case rel => exact ⟨j + 1, by go_num, hlt, HE⟩
        case measure => simp [intOf]; omega
    · obtain rfl : n1 = j := by omega
      have HI2 : Hid (∃ q y, DH w w1.heap.size none y none q wr ∧ S1 (KL more l) y (n1 + (n0 - n0))) := Lib.hid ⟨q, o, hT, HS.out.ok, by have := HS.out.c; omega, fun i hi => .inl (HS.out.k i hi)⟩
      clear hT HS
      go_wp2_with fail
      go_loopw [9] (fun iv wr => ∃ j : Nat, iv = .int .i64 ((j : Int) - 1) ∧ j ≤ n0 ∧ Hid (∃ q y, DH w w1.heap.size none y none q wr ∧ S1 (KL more l) y (n1 + (n0 - j)))) (fun iv _ => (intOf iv + 1).toNat)
      case atStart => exact ⟨n0, by go_num, Nat.le_refl _, HI2⟩
      case round =>
        obtain ⟨jj, rfl, hj, HF⟩ := hrel
        obtain ⟨q, o, hT, hS⟩ := HF.out
        clear HF HI2
        have HS := Lib.hid hS
        clear hS
        by_cases hz : 0 < jj
        · obtain ⟨j, rfl⟩ : ∃ j, jj = j + 1 := ⟨jj - 1, by omega⟩
          rw [show ((j + 1 : Nat) : Int) - 1 = (j : Int) by omega]
          have hlt : j < n0 := hj
          have j0 : (0 : Int) ≤ (j : Int) := by omega
          obtain ⟨qa, oa, rfl, q01, q02⟩ := HR.out.1.at (k := j) (by rw [HR.out.2.1]; exact hlt)
          have hik : I64 (l.getD j (0, 0)).1 := HR.out.2.2 _ (by rw [List.getD_eq_getElem?_getD, List.getElem?_eq_getElem (by rw [HR.out.2.1]; exact hlt)]; exact List.getElem_mem _)
          have hmem : l.getD j (0, 0) ∈ l := by rw [List.getD_eq_getElem?_getD, List.getElem?_eq_getElem (by rw [HR.out.2.1]; exact hlt)]; exact List.getElem_mem _
          obtain ⟨y, hy⟩ : ∃ y, y = l.getD j (0, 0) := ⟨_, rfl⟩
          have HY := Lib.hid hy
          obtain ⟨y1, y2⟩ := y
          rw [← hy] at q01 q02 hik hmem
          dsimp only at q01 q02 hik
          have HMem := Lib.hid hmem
          have HIK := Lib.hid hik
          have q1 := upc hT.bel q01
          have q2 := upc hT.bel q02
          have j1 : (j : Int) < (n0 : Int) := by omega
          have HQ := Lib.hid (And.intro q01 q02)
          have HT := Lib.hid hT
          clear q01 q02 hy hik hmem hT
          have kb := cell_of_one HT.out.b1
          have HC : Hid (∀ W, Below wr.heap.size wr W → Calls Try.prog 9 #[.agg #[.pointer q], .int .i64 y1, .int .i64 y2] W (RetM w.heap.size W (some (oput o (tk y1) y2)))) := Lib.hid (fun W hW => Put_any w.heap.size W q o y1 y2 (szle hW HT.out.bel.size) (HT.out.h1.up hW) HS.out.ok HIK.out (by have := HS.out.c; omega))
          go_wp2_with fail
          go_region_with (first | (go_at_call 9; refine (HC.out _ (by exact belowDrew _)).mono ?_; rintro e x3 ⟨q3, rfl, hp3, hb3⟩; replace hb3 := belowTrans (belowDrew _) hb3; have hT3 := HT.out.up hb3; have c0 := cell_of_one hT3.b1; have f0 := free_of_one hT3.b1))
          all_goals
            obtain ⟨Z1, hZ⟩ : ∃ Z, Z = x3.setCell ⟨w1.heap.size + 1, 0, none⟩ (.pointer q3) := ⟨_, rfl⟩
            have hTZ : DH w w1.heap.size none (some (oput o (tk y1) y2)) none q3 Z1 := by rw [hZ]; exact hT3.set1 hp3
            have HTn := Lib.hid hTZ
            try rw [← hZ]
            clear hT3 hp3 hb3 c0 f0 hZ hTZ HT HC
            have HT := HTn
            clear HTn
            have HE : Hid (∃ q y, DH w w1.heap.size none y none q Z1 ∧ S1 (KL more l) y (n1 + (n0 - j))) := Lib.hid ⟨_, _, HT.out, by have h := HS.out.put HIK.out y2 (.inr ⟨_, HMem.out, rfl⟩); rw [show n1 + (n0 - (j + 1)) + 1 = n1 + (n0 - j) by omega] at h; exact h⟩
            clear HT q1 q2 kb
            go_wp2_with fail
            go_roundw
            case rel => exact ⟨j, by go_num, by omega, HE⟩
            case measure => simp [intOf] <;> omega
        · obtain rfl : jj = 0 := by omega
          have HI3 : Hid (∃ p q x y, DH w w1.heap.size x y p q wr ∧ S3 more l x y 0 (n1 + n0 + 0)) := Lib.hid ⟨none, q, none, o, hT, S3.start HS.out⟩
          clear hT HS
          rw [show ((0 : Nat) : Int) - 1 = -1 by omega]
          go_wp2_with fail
          go_loopw [10] (fun iv wr => ∃ j : Nat, iv = .int .i64 j ∧ j ≤ n0 ∧ Hid (∃ p q x y, DH w w1.heap.size x y p q wr ∧ S3 more l x y j (n1 + n0 + j))) (fun iv _ => n0 - (intOf iv).toNat)
          case atStart => exact ⟨0, rfl, Nat.zero_le _, HI3⟩
          case round =>
            obtain ⟨j, rfl, hj, HF⟩ := hrel
            obtain ⟨p, q, x, o, hT, hS⟩ := HF.out
            have j0 : (0 : Int) ≤ (j : Int) := by omega
            clear HF HI3
            have HS := Lib.hid hS
            clear hS
            by_cases hlt : j < n0
            · skip
              obtain ⟨qa, oa, rfl, q01, q02⟩ := HR.out.1.at (k := j) (by rw [HR.out.2.1]; exact hlt)
              have hik : I64 (l.getD j (0, 0)).1 := HR.out.2.2 _ (by rw [List.getD_eq_getElem?_getD, List.getElem?_eq_getElem (by rw [HR.out.2.1]; exact hlt)]; exact List.getElem_mem _)
              have hmem : l.getD j (0, 0) ∈ l := by rw [List.getD_eq_getElem?_getD, List.getElem?_eq_getElem (by rw [HR.out.2.1]; exact hlt)]; exact List.getElem_mem _
              obtain ⟨y, hy⟩ : ∃ y, y = l.getD j (0, 0) := ⟨_, rfl⟩
              have HY := Lib.hid hy
              obtain ⟨y1, y2⟩ := y
              rw [← hy] at q01 q02 hik hmem
              dsimp only at q01 q02 hik
              have HMem := Lib.hid hmem
              have HIK := Lib.hid hik
              have q1 := upc hT.bel q01
              have q2 := upc hT.bel q02
              have j1 : (j : Int) < (n0 : Int) := by omega
              have HQ := Lib.hid (And.intro q01 q02)
              have HT := Lib.hid hT
              clear q01 q02 hy hik hmem hT
              have kb := cell_of_one HT.out.b0
              have HC : Hid (∀ W, Below wr.heap.size wr W → Calls Try.prog 9 #[.agg #[.pointer p], .int .i64 y1, .int .i64 y2] W (RetM w.heap.size W (some (oput x (tk y1) y2)))) := Lib.hid (fun W hW => Put_any w.heap.size W p x y1 y2 (szle hW HT.out.bel.size) (HT.out.h0.up hW) HS.out.ok HIK.out (by have := HS.out.c; omega))
              go_wp2_with fail
              go_region_with (first | (go_at_call 9; refine (HC.out _ (by exact belowDrew _)).mono ?_; rintro e x3 ⟨p3, rfl, hp3, hb3⟩; replace hb3 := belowTrans (belowDrew _) hb3; have hT3 := HT.out.up hb3; have c0 := cell_of_one hT3.b0; have f0 := free_of_one hT3.b0))
              all_goals
                obtain ⟨Z0, hZ⟩ : ∃ Z, Z = x3.setCell ⟨w1.heap.size, 0, none⟩ (.pointer p3) := ⟨_, rfl⟩
                have hTZ : DH w w1.heap.size (some (oput x (tk y1) y2)) o p3 q Z0 := by rw [hZ]; exact hT3.set0 hp3
                have q1 := upc hTZ.bel HQ.out.1
                have q2 := upc hTZ.bel HQ.out.2
                have kb := cell_of_one hTZ.b1
                have HTn := Lib.hid hTZ
                try rw [← hZ]
                clear hT3 hp3 hb3 c0 f0 hZ hTZ HT HC
                have HT := HTn
                clear HTn
                have HC : Hid (∀ W, Below Z0.heap.size Z0 W → Calls Try.prog 9 #[.agg #[.pointer q], .int .i64 y1, .int .i64 y2] W (RetM w.heap.size W (some (oput o (tk y1) y2)))) := Lib.hid (fun W hW => Put_any w.heap.size W q o y1 y2 (szle hW HT.out.bel.size) (HT.out.h1.up hW) HS.out.oky HIK.out (by have := HS.out.cy; omega))
                go_wp2_with fail
                go_region_with (first | (go_at_call 9; refine (HC.out _ (by exact belowDrew _)).mono ?_; rintro e x3 ⟨q3, rfl, hp3, hb3⟩; replace hb3 := belowTrans (belowDrew _) hb3; have hT3 := HT.out.up hb3; have c0 := cell_of_one hT3.b1; have f0 := free_of_one hT3.b1))
                all_goals
                  obtain ⟨Z1, hZ⟩ : ∃ Z, Z = x3.setCell ⟨w1.heap.size + 1, 0, none⟩ (.pointer q3) := ⟨_, rfl⟩
                  have hTZ : DH w w1.heap.size (some (oput x (tk y1) y2)) (some (oput o (tk y1) y2)) p3 q3 Z1 := by rw [hZ]; exact hT3.set1 hp3
                  have HTn := Lib.hid hTZ
                  try rw [← hZ]
                  clear hT3 hp3 hb3 c0 f0 hZ hTZ HT HC
                  have HT := HTn
                  clear HTn
                  have HE : Hid (∃ p q x y, DH w w1.heap.size x y p q Z1 ∧ S3 more l x y (j + 1) (n1 + n0 + (j + 1))) := Lib.hid ⟨_, _, _, _, HT.out, HS.out.put (by rw [HR.out.2.1]; exact hlt) HY.out HIK.out⟩
                  clear HT q1 q2 kb
                  go_wp2_with fail
                  go_roundw
                  case rel => exact ⟨j + 1, by go_num, hlt, HE⟩
                  case measure => simp [intOf]; omega
            · obtain rfl : j = n0 := by omega
              have HI4 : Hid (∃ p q x y, DH w w1.heap.size x y p q wr ∧ S4 more x y 0 j (n1 + j + j)) := Lib.hid ⟨p, q, x, o, hT, S4.start HS.out HR.out.2.1⟩
              clear hT HS
              go_wp2_with fail
              go_loopw [11] (fun iv wr => ∃ i : Nat, iv = .int .i64 i ∧ i ≤ n1 ∧ Hid (∃ p q x y, DH w w1.heap.size x y p q wr ∧ S4 more x y i j (n1 + j + j))) (fun iv _ => n1 - (intOf iv).toNat)
              case atStart => exact ⟨0, rfl, Nat.zero_le _, HI4⟩
              case round =>
                obtain ⟨i, rfl, hi, HF⟩ := hrel
                obtain ⟨p, q, x, o, hT, hS⟩ := HF.out
                have i0 : (0 : Int) ≤ (i : Int) := by omega
                clear HF HI4
                have HS := Lib.hid hS
                clear hS
                by_cases hlt : i < n1
                · obtain ⟨qa, oa, rfl, q01⟩ := reads_at HM.out.1 (k := i) (by rw [HM.out.2.1]; exact hlt)
                  have hmem : more.getD i 0 ∈ more := by rw [List.getD_eq_getElem?_getD, List.getElem?_eq_getElem (by rw [HM.out.2.1]; exact hlt)]; exact List.getElem_mem _
                  obtain ⟨y1, hy⟩ : ∃ y, y = more.getD i 0 := ⟨_, rfl⟩
                  rw [← hy] at q01 hmem
                  have HY := Lib.hid hy
                  have HIK := Lib.hid (HM.out.2.2 _ hmem)
                  have HQ := Lib.hid q01
                  have q1 := upc hT.bel q01
                  have i1 : (i : Int) < (n1 : Int) := by omega
                  have kb := cell_of_one hT.b0
                  have HT := Lib.hid hT
                  clear q01 hy hmem hT
                  obtain ⟨r, hr⟩ : ∃ r, oget x (tk y1) = r := ⟨_, rfl⟩
                  have Hr := Lib.hid hr
                  clear hr
                  have HC := Lib.hid (fun W (hW : Below wr.heap.size wr W) => Get_any w.heap.size W p x y1 (HT.out.h0.up hW) HS.out.ok HIK.out r Hr.out)
                  rcases r with _ | v
                  · skip
                    go_wp2_with fail
                    go_region_held3 (fun w' => w'.cell? ⟨qa, oa + i, none⟩ = some (.int .i64 y1) ∧ w'.cell? ⟨w1.heap.size, 0, none⟩ = some (.pointer p)) (first | exact ⟨s1, s2⟩ | exact ⟨q1, kb⟩ | go_keep)
                      (first | (go_at_call 19; refine (HC.out _ (by exact belowDrew wr)).mono ?_; rintro e V ⟨rfl, hbV⟩; have hbZ := belowTrans (belowDrew wr) hbV; have s1 := upc hbZ q1; have s2 := upc hbZ kb))
                    have HTn := Lib.hid (HT.out.up hbZ)
                    clear HT s1 s2 q1 kb hbV hbZ HC
                    have HT := HTn
                    clear HTn
                    have q1 := upc HT.out.bel HQ.out
                    have kb := cell_of_one HT.out.b1
                    have HC : Hid (∀ W, Below V.heap.size V W → Calls Try.prog 21 #[.agg #[.pointer q], .int .i64 y1] W (RetM w.heap.size W (odrop o (tk y1)))) := Lib.hid (fun W hW => Drop_any w.heap.size W q o y1 (szle hW HT.out.bel.size) (HT.out.h1.up hW) HS.out.oky HIK.out (by have := HS.out.cy; omega))
                    go_wp2_with fail
                    go_region_with (first | (go_at_call 21; refine (HC.out _ (by exact belowDrew _)).mono ?_; rintro e x3 ⟨q3, rfl, hp3, hb3⟩; replace hb3 := belowTrans (belowDrew _) hb3; have hT3 := HT.out.up hb3; have c0 := cell_of_one hT3.b1; have f0 := free_of_one hT3.b1))
                    all_goals
                      obtain ⟨Z1, hZ⟩ : ∃ Z, Z = x3.setCell ⟨w1.heap.size + 1, 0, none⟩ (.pointer q3) := ⟨_, rfl⟩
                      have hTZ : DH w w1.heap.size x (odrop o (tk y1)) p q3 Z1 := by rw [hZ]; exact hT3.set1 hp3
                      have HTn := Lib.hid hTZ
                      try rw [← hZ]
                      clear hT3 hp3 hb3 c0 f0 hZ hTZ HT HC
                      have HT := HTn
                      clear HTn
                      have HE : Hid (∃ p q x y, DH w w1.heap.size x y p q Z1 ∧ S4 more x y (i + 1) j (n1 + j + j)) := Lib.hid ⟨_, _, _, _, HT.out, by have h := HS.out.drop (by rw [HM.out.2.1]; exact hlt) (by rw [← HY.out]; exact Hr.out); rw [← HY.out] at h; exact h⟩
                      clear HT q1 kb
                      go_wp2_with fail
                      go_roundw
                      case rel => exact ⟨i + 1, by go_num, hlt, HE⟩
                      case measure => simp [intOf]; omega
                  · skip
                    go_wp2_with fail
                    go_region_held3 (fun w' => w'.cell? ⟨qa, oa + i, none⟩ = some (.int .i64 y1) ∧ w'.cell? ⟨w1.heap.size, 0, none⟩ = some (.pointer p)) (first | exact ⟨s1, s2⟩ | exact ⟨q1, kb⟩ | go_keep)
                      (first | (go_at_call 19; refine (HC.out _ (by exact belowDrew wr)).mono ?_; rintro e V ⟨rfl, hbV⟩; have hbZ := belowTrans (belowDrew wr) hbV; have s1 := upc hbZ q1; have s2 := upc hbZ kb))
                    have HTn := Lib.hid (HT.out.up hbZ)
                    clear HT s1 s2 q1 kb hbV hbZ HC
                    have HT := HTn
                    clear HTn
                    have HE : Hid (∃ p q x y, DH w w1.heap.size x y p q V ∧ S4 more x y (i + 1) j (n1 + j + j)) := Lib.hid ⟨_, _, _, _, HT.out, HS.out.keep (by rw [HM.out.2.1]; exact hlt) (by rw [← HY.out]; exact Hr.out)⟩
                    clear HT
                    go_wp2_with fail
                    go_roundw
                    case rel => exact ⟨i + 1, by go_num, hlt, HE⟩
                    case measure => simp [intOf]; omega
                · obtain rfl : i = n1 := by omega
                  have HX : Hid (Mh x o (told x) (ocnt x)) := Lib.hid (HS.out.mh (by rw [HM.out.2.1]; exact Nat.le_refl _))
                  have hmj := HS.out.c
                  obtain ⟨ts, hts⟩ : ∃ t, t = told x := ⟨_, rfl⟩
                  obtain ⟨m, hm⟩ : ∃ t, t = ocnt x := ⟨_, rfl⟩
                  rw [← hts, ← hm] at HX
                  rw [← hm] at hmj
                  have HT := Lib.hid hT
                  clear hts hm HS hT
                  have kb := cell_of_one HT.out.b0
                  have kc := cell_of_one HT.out.b1
                  go_wp2_with fail
                  refine grow.wp_grow [grow.kEq (.agg #[.pointer p]), kRow m ts, grow.kEq (.agg #[.pointer q]), kRow m ts, grow.kEq (.bool true), grow.kEq (.bool true)] (by kernel_rfl) (by kernel_rfl) (by kernel_rfl) (by kernel_rfl) ?step ?fin
                  case step =>
                    clear kb kc
                    refine grow.Each.cons ?_ ?_
                    · intro A W hB hs hJ K hK
                      have s0 := hs 6 (by kernel_rfl)
                      simp at s0
                      have kk := upc hB (cell_of_one HT.out.b0)
                      rw [if_pos (by rfl)]
                      clear hs hJ
                      go_simp
                      exact hK _ _ (Below.refl _ _) rfl
                    refine grow.Each.cons ?_ ?_
                    · intro A W hB hs hJ K hK
                      have s0 : A.tmps.getD 103 undef = .agg #[.pointer p] := hJ 0 103 (by kernel_rfl) (by kernel_rfl)
                      simp at s0
                      rw [if_pos (by rfl)]
                      clear hs hJ
                      go_simp
                      go_at_call 12
                      refine (Pairs_num w.heap.size W p x m (HT.out.h0.up hB) HX.out.ok HX.out.c (by omega) ts HX.out.t).mono ?_
                      rintro e W2 ⟨a1, c1, rfl, ho1, hb1⟩
                      exact hK _ _ hb1 ⟨a1, c1, rfl, OwnP.reads ho1⟩
                    refine grow.Each.cons ?_ ?_
                    · intro A W hB hs hJ K hK
                      have s0 := hs 7 (by kernel_rfl)
                      simp at s0
                      have kk := upc hB (cell_of_one HT.out.b1)
                      rw [if_pos (by rfl)]
                      clear hs hJ
                      go_simp
                      exact hK _ _ (Below.refl _ _) rfl
                    refine grow.Each.cons ?_ ?_
                    · intro A W hB hs hJ K hK
                      have s0 : A.tmps.getD 105 undef = .agg #[.pointer q] := hJ 2 105 (by kernel_rfl) (by kernel_rfl)
                      simp at s0
                      rw [if_pos (by rfl)]
                      clear hs hJ
                      go_simp
                      go_at_call 12
                      refine (Pairs_num w.heap.size W q o m (HT.out.h1.up hB) HX.out.oky HX.out.cy (by omega) ts HX.out.ty).mono ?_
                      rintro e W2 ⟨a1, c1, rfl, ho1, hb1⟩
                      exact hK _ _ hb1 ⟨a1, c1, rfl, OwnP.reads ho1⟩
                    refine grow.Each.cons ?_ ?_
                    · intro A W hB hs hJ K hK
                      obtain ⟨aP, cP, s0, hrP⟩ := hJ 1 104 (by kernel_rfl) (by kernel_rfl)
                      simp at s0
                      obtain ⟨aH, cH, s1, hrH⟩ := hJ 3 106 (by kernel_rfl) (by kernel_rfl)
                      simp at s1
                      rw [if_pos (by rfl)]
                      clear hs hJ
                      go_simp
                      go_at_call 13
                      refine (samePairs_any aP aH cP cH m m ts ts W HX.out.tl HX.out.tl hrP hrH (by unfold maxLen; omega) true (decide_eq_true rfl)).mono ?_
                      rintro e W2 ⟨rfl, qq, hU⟩
                      exact hK _ _ (by rw [hU]; exact belowDrewN _ _) rfl
                    refine grow.Each.cons ?_ ?_
                    · intro A W hB hs hJ K hK
                      have s0 : A.tmps.getD 107 undef = .bool true := hJ 4 107 (by kernel_rfl) (by kernel_rfl)
                      simp at s0
                      rw [if_pos (by rfl)]
                      clear hs hJ
                      go_simp
                      exact hK _ _ (Below.refl _ _) rfl
                    exact grow.Each.nil
                  case fin =>
                    intro f W hB hF
                    have f0 : f 0 = .agg #[.pointer p] := hF 0 (by decide)
                    obtain ⟨aP_1, cP_1, f1, -⟩ := hF 1 (by decide)
                    have f2 : f 2 = .agg #[.pointer q] := hF 2 (by decide)
                    obtain ⟨aH_3, cH_3, f3, -⟩ := hF 3 (by decide)
                    have f4 : f 4 = .bool true := hF 4 (by decide)
                    have f5 : f 5 = .bool true := hF 5 (by decide)
                    clear hF
                    generalize hA : grow.puts _ _ f _ = A'
                    simp only [List.length_cons, List.length_nil, Nat.reduceAdd, grow.puts, Act.put, List.getElem?_toArray, List.getElem?_cons_zero, List.getElem?_cons_succ, Option.bind_some, List.setIfInBounds_toArray, List.set_cons_zero, List.set_cons_succ, f0, f1, f2, f3, f4, f5] at hA
                    subst hA
                    have HTn := Lib.hid (HT.out.up hB)
                    clear hB kb kc HT
                    obtain ⟨U2, hU2⟩ : ∃ U, U = W := ⟨_, rfl⟩
                    rw [← hU2] at HTn ⊢
                    clear hU2
                    have HTb := HTn
                    clear HTn
                    have kb := cell_of_one HTb.out.b0
                    have kc := cell_of_one HTb.out.b1
                    have HLa := Lib.hid (fun W (hW : Below U2.heap.size U2 W) => Len_num w.heap.size W p x m (HTb.out.h0.up hW) HX.out.c)
                    have HLb := Lib.hid (fun W (hW : Below U2.heap.size U2 W) => Len_num w.heap.size W q o m (HTb.out.h1.up hW) HX.out.cy)
                    go_wp2_with fail
                    go_region_held3 (fun w' => w'.cell? ⟨w1.heap.size, 0, none⟩ = some (.pointer p) ∧ w'.cell? ⟨w1.heap.size + 1, 0, none⟩ = some (.pointer q)) (first | exact ⟨x5, x7⟩ | exact ⟨y5, y7⟩ | exact ⟨kb, kc⟩ | go_keep)
                      (first
                      | (go_at_call_of 10 (Value.agg #[Value.pointer p]); refine (HLa.out _ (by first | exact hbY | exact belowDrew U2)).mono ?_; rintro e wX ⟨rfl, hrX⟩; have hbX : Below U2.heap.size U2 wX := (by first | exact belowTrans hbY hrX | exact belowTrans (belowDrew U2) hrX); have x5 := upc hbX kb; have x7 := upc hbX kc)
                      | (go_at_call_of 10 (Value.agg #[Value.pointer q]); refine (HLb.out _ (by first | exact hbX | exact belowDrew U2)).mono ?_; rintro e wY ⟨rfl, hrY⟩; have hbY : Below U2.heap.size U2 wY := (by first | exact belowTrans hbX hrY | exact belowTrans (belowDrew U2) hrY); have y5 := upc hbY kb; have y7 := upc hbY kc))
                    all_goals
                      go_wp2_with fail
                      go_ret
                      first
                      | exact ⟨rfl, HTb.out.bel.trans (hbX.mono HTb.out.bel.size)⟩
                      | exact ⟨rfl, HTb.out.bel.trans (hbY.mono HTb.out.bel.size)⟩

theorem order_any (a0 : Option Addr) (c0 : Nat) (l : List (Int × Int)) (a1 : Option Addr) (c1 : Nat) (more : List Int) (w : World) (hb0 : l.length ≤ 1048576) (hr0 : ReadsP w a0 l) (hi0 : ∀ p ∈ l, I64 p.1) (hb1 : more.length ≤ 1048576) (hr1 : Reads w a1 more) (hi1 : ∀ x ∈ more, I64 x) :
    Calls Try.prog 7 #[.slice a0 l.length c0, .slice a1 more.length c1] w (Yes w) := order a0 a1 c0 c1 _ _ l more w rfl rfl hb0 hb1 hr0 hi0 hr1 hi1
end Go.Proofs.Ytenaddjnaeebbaa.hamt
