/- Package bino: Pop. (Printed by bp.py.) -/
import Derived.Test.YtnigadnjppeckaaBinoZ
namespace Go.Proofs.Ytnigadnjppeckaa.bino
open Go.RowKit
open concatP (OwnT RetT)

def tyH (W : World) (b : Nat) : Prop := ∃ c, W.heap[b]? = some (.cells c 75 (0, 0)) ∧ c.size = 1
theorem tyUp {W W' : World} {b : Nat} (hb : Below W.heap.size W W') (h : tyH W b) : tyH W' b := by
  obtain ⟨c, h1, h2⟩ := h
  exact ⟨c, upb hb h1, h2⟩
theorem tyH.upS {S : List Nat} {W W' : World} {b : Nat} (h : tyH W b) (hb : grow.BelowS S W W') : tyH W' b := by
  obtain ⟨c, h1, h2⟩ := h
  obtain ⟨c', h3, h4⟩ := hb.typ _ _ _ _ h1
  exact ⟨c', h3, h4.trans h2⟩
theorem tyS {S : List Nat} {W W' : World} {b : Nat} {u : Value} (hb : grow.BelowS S W W') (h : W.heap[b]? = some (.cells #[u] 75 (0, 0))) : tyH W' b := tyH.upS ⟨_, h, rfl⟩ hb
theorem RowR.lower {B B' : Nat} {W : World} {v : Value} {ps : List (Option Addr)} (hB : B ≤ B') (h : RowR B' W v ps) : RowR B W v ps := by
  obtain ⟨a, c, h1, h2, h3⟩ := h
  refine ⟨a, c, h1, h2, ?_⟩
  rcases h3 with h3 | ⟨b, o, h4, ⟨h5, h6⟩, h7⟩
  · exact .inl h3
  · exact .inr ⟨b, o, h4, ⟨by omega, h6⟩, h7⟩
def kHp (B b : Nat) (f : F) : grow.Kept := ⟨fun v W => ∃ ra rn rc, v = .slice ra rn rc ∧ HeapR B W (.slice ra rn rc) f ∧ tyH W b, fun _ _ _ hb ⟨a, n, c, h1, h2, h3⟩ => ⟨a, n, c, h1, h2.up hb, tyUp hb h3⟩⟩
def kHpA (B b : Nat) (f : F) : grow.Kept := ⟨fun v W => ∃ ra rn rc, v = .agg #[.slice ra rn rc] ∧ HeapR B W (.slice ra rn rc) f ∧ tyH W b, fun _ _ _ hb ⟨a, n, c, h1, h2, h3⟩ => ⟨a, n, c, h1, h2.up hb, tyUp hb h3⟩⟩
def kTwo (b : Nat) (v1 v2 : Value) : grow.Kept := ⟨fun v W => ∃ g1, v = .slice (some ⟨g1, 0, none⟩) 2 2 ∧ W.heap[g1]? = some (.cells #[v1, v2] 73 (0, 0)) ∧ tyH W b, fun _ _ _ hb ⟨g, h1, h2, h3⟩ => ⟨g, h1, upb hb h2, tyUp hb h3⟩⟩
def kStH (B b : Nat) (f : F) : grow.Kept := ⟨fun _ W => ∃ ra rn rc, W.heap[b]? = some (.cells #[.slice ra rn rc] 75 (0, 0)) ∧ HeapR B W (.slice ra rn rc) f, fun _ _ _ hb ⟨a, n, c, h1, h2⟩ => ⟨a, n, c, upb hb h1, h2.up hb⟩⟩
theorem kHp_of {B b : Nat} {f : F} {v : Value} {W : World} (h : HeapR B W v f) (h' : tyH W b) : (kHp B b f).q v W := by
  obtain ⟨ps, ⟨a, c, rfl, h2⟩, h3⟩ := h
  exact ⟨a, _, c, rfl, ⟨ps, ⟨a, c, rfl, h2⟩, h3⟩, h'⟩
theorem kHp_flat {B b : Nat} {f : F} {v : Value} {W W' : World} (hb : grow.BelowS [b] W W') (h : (kHp B b f).q v W) : (kHp B b f).q v W' := by
  change ∃ ra rn rc, v = .slice ra rn rc ∧ HeapR B W (.slice ra rn rc) f ∧ tyH W b at h
  obtain ⟨a, n, c, h1, h2, h3⟩ := h
  exact ⟨a, n, c, h1, h2.upS h3.choose_spec.1 hb, h3.upS hb⟩
theorem kHpA_flat {B b : Nat} {f : F} {v : Value} {W W' : World} (hb : grow.BelowS [b] W W') (h : (kHpA B b f).q v W) : (kHpA B b f).q v W' := by
  change ∃ ra rn rc, v = .agg #[.slice ra rn rc] ∧ HeapR B W (.slice ra rn rc) f ∧ tyH W b at h
  obtain ⟨a, n, c, h1, h2, h3⟩ := h
  exact ⟨a, n, c, h1, h2.upS h3.choose_spec.1 hb, h3.upS hb⟩
theorem kTwo_flat {b : Nat} {v1 v2 v : Value} {W W' : World} (hb : grow.BelowS [b] W W') (h : (kTwo b v1 v2).q v W) : (kTwo b v1 v2).q v W' := by
  change ∃ g1, v = .slice (some ⟨g1, 0, none⟩) 2 2 ∧ W.heap[g1]? = some (.cells #[v1, v2] 73 (0, 0)) ∧ tyH W b at h
  obtain ⟨g, h1, h2, h3⟩ := h
  refine ⟨g, h1, hb.up ?_ h2, h3.upS hb⟩
  have : g ≠ b := by
    rintro rfl
    obtain ⟨c, h4, _⟩ := h3
    rw [h2] at h4
    cases h4
  simpa using this
theorem one_of {b1 j b : Nat} (h : ([none, none, none, none, none, none, none, none, none, none, none, none, none, none, none, none, none, none, none, some b1, none] : List (Option Nat)).getD j none = some b) : b = b1 := by
  match j, h with
  | 0, h | 1, h | 2, h | 3, h | 4, h | 5, h | 6, h | 7, h | 8, h | 9, h | 10, h | 11, h | 12, h | 13, h | 14, h | 15, h | 16, h | 17, h | 18, h | 20, h => simp at h
  | 19, h => simpa using h.symm
  | j + 21, h => simp at h
set_option maxRecDepth 100000 in
set_option maxHeartbeats 8000000 in
theorem Pop_some (f : F) (hf : 0 < flen f) (hS : f.size ≤ 17592186043950) : ∃ (x : Int) (fr : F), (fr.size + 1 = f.size ∧ Out f x fr) ∧ ∀ (B : Nat) (w : World) (a : Option Addr) (n c : Nat), B ≤ w.heap.size → HeapR B w (.slice a n c) f →
    Calls Try.prog 63 #[.agg #[.slice a n c]] w fun e w' => ∃ a' n' c', e = .returned (.tuple #[.int .i64 x, .agg #[.slice a' n' c'], .bool true]) ∧ HeapR B w' (.slice a' n' c') fr ∧ Below w.heap.size w w' := by
  obtain ⟨i, hi0⟩ : ∃ i, i = bestOf f (flen f) := ⟨_, rfl⟩
  have hi : i < flen f := by rw [hi0]; exact bestOf_lt f hf _ (Nat.le_refl _)
  have hds := fdel_size f i hi
  obtain ⟨fr, h1, hQ, hM⟩ := merged_any (frev (nthF f i).2) (fdel f i) (by rw [frev_size]; omega)
  rw [frev_size] at h1
  refine ⟨(nthF f i).1.1, fr, ⟨by omega, Out.mk hi0 hi hQ⟩, fun B w a n c hB hH => ?_⟩
  clear hQ
  have hH0 := hH
  obtain ⟨ps, ⟨a', c', hv, ⟨_, hnc⟩, hrow⟩, hfo⟩ := hH
  injection hv with e1 e2 e3
  subst e1 e2 e3
  have hlen := Fo.len hfo
  have hfs := flen_size f
  rcases hrow with h0 | ⟨g, o, rfl, hbg, hc⟩
  · rw [h0] at hlen; simp at hlen; omega
  obtain ⟨bt, vk, ks, g1, hBt, g2, hrk, hfk⟩ := Fo.at hfo i hi
  obtain ⟨n, hn⟩ : ∃ n, n = ps.length := ⟨_, rfl⟩
  obtain ⟨x, hx⟩ : ∃ x, x = (nthF f i).1.1 := ⟨_, rfl⟩
  obtain ⟨k, hk⟩ : ∃ k, k = (nthF f i).2 := ⟨_, rfl⟩
  rw [← hx] at g2 ⊢
  rw [← hk] at hfk hM hds
  rw [← hn] at hH0 hnc hc ⊢
  have hin : i < n := by omega
  have hnb : n ≤ 17592186043950 := by omega
  have hbt : bt < w.heap.size := (Array.getElem?_eq_some_iff.1 g2).1
  have hks : ks.length ≤ 17592186043950 := by have h2 := Fo.len hfk; have h3 := flen_size k; omega
  have hps : (ps.take i).length + (ps.drop (i + 1)).length ≤ 17592186044416 := by rw [List.length_take, List.length_drop]; omega
  have hr1 : RowR B w (.slice (some ⟨g, o, none⟩) i c) (ps.take i) := ⟨_, c, by rw [List.length_take, Nat.min_eq_left (by omega)], ⟨(fun h => by cases h), by rw [List.length_take]; omega⟩, .inr ⟨g, o, rfl, hbg, fun j hj => by
    rw [List.length_take] at hj
    rw [hc j (by omega)]
    simp [List.getD_eq_getElem?_getD, show j < i by omega]⟩⟩
  have hr2 : RowR B w (.slice (if c = i + 1 then some ⟨g, o, none⟩ else some ⟨g, o + (i + 1), none⟩) (n - (i + 1)) (c - (i + 1))) (ps.drop (i + 1)) := by
    by_cases hz : c = i + 1
    · rw [if_pos hz]
      have h0 : ps.drop (i + 1) = [] := List.drop_of_length_le (by omega)
      rw [h0]
      exact ⟨_, _, by rw [show n - (i + 1) = 0 by omega]; rfl, ⟨(fun h => by cases h), Nat.zero_le _⟩, .inl rfl⟩
    · rw [if_neg hz]
      refine ⟨_, _, by rw [List.length_drop, ← hn], ⟨(fun h => by cases h), by rw [List.length_drop]; omega⟩, .inr ⟨g, o + (i + 1), rfl, hbg, fun j hj => ?_⟩⟩
      rw [List.length_drop] at hj
      rw [show o + (i + 1) + j = o + (i + 1 + j) by omega, hc _ (by omega)]
      simp [List.getD_eq_getElem?_getD, List.getElem?_drop]
  have hfd := Fo.del hfo i
  obtain ⟨V0, hV⟩ : ∃ V0, V0 = (w.alloc (.cells #[.slice (some ⟨g, o, none⟩) n c] 75)).alloc (.cells #[.slice none 0 0] 75) := ⟨_, rfl⟩
  have hb0 : Below w.heap.size w V0 := by rw [hV]; exact belowTrans (belowAlloc _ _) (belowAlloc _ _)
  have kb : V0.cell? ⟨w.heap.size, 0, none⟩ = some (.slice (some ⟨g, o, none⟩) n c) := by rw [hV]; exact upc (belowAlloc _ _) (cell_of_one (heap_alloc_new _ _))
  have ht : V0.heap[w.heap.size + 1]? = some (.cells #[.slice none 0 0] 75 (0, 0)) := by rw [hV]; exact heapNew2 _ _ _
  have HL := Lib.hid (least_any B V0 _ n c f (hH0.up hb0) hf (by omega))
  rw [← hi0] at HL
  obtain ⟨ak, ck, hvk, hrk'⟩ := hrk
  subst hvk
  have hrk : RowR B w (.slice ak ks.length ck) ks := ⟨ak, ck, rfl, hrk'⟩
  obtain ⟨nk, hnk⟩ : ∃ nk, nk = ks.length := ⟨_, rfl⟩
  rw [← hnk] at hrk g2
  have kt : w.cell? ⟨g, o + i, none⟩ = some (.pointer (some ⟨bt, 0, none⟩)) := by rw [hc i hin, g1]
  have kx : w.cell? ⟨bt, 0, none⟩ = some (.int .i64 x) := by simp [World.cell?, g2]
  have kk : w.cell? ⟨bt, 2, none⟩ = some (.slice ak nk ck) := by simp [World.cell?, g2]
  have Hrk := Lib.hid hrk
  have Hfk := Lib.hid hfk
  have HR := Lib.hid (And.intro hr1 (And.intro hr2 (And.intro hps hfd)))
  have HB := Lib.hid hB
  have Hb0 := Lib.hid hb0
  have HT := Lib.hid ht
  have HV := Lib.hid hV
  have hn0 : ¬ ((n : Int) = 0) := by omega
  have Hks := Lib.hid hks
  have Hlow : Hid (g < w.heap.size ∧ bt < w.heap.size) := Lib.hid ⟨by obtain ⟨cs, fz, h⟩ := hbg.2; exact (Array.getElem?_eq_some_iff.1 h).1, hbt⟩
  clear hi0 hds h1 hH0 hlen hfs hbg hc g1 hBt g2 hrk hfk hx hk hn hks hps hr1 hr2 hfd hb0 ht hV hB hf hS hfo hrk' hnk
  go_enter Try.func63, Try.ntmps63
  go_wp2_with fail
  rw [← HV.out]
  go_wp2_with fail
  refine HL.out.mono ?_
  rintro e w1 ⟨rfl, hb1⟩
  have hbw := belowTrans Hb0.out hb1
  have kt1 := upc hbw kt
  have kk1 := upc hbw kk
  have kb1 := upc hb1 kb
  have h0 : (0 : Int) ≤ (i : Int) := by omega
  have h1 : (i : Int) < (n : Int) := by omega
  have HC := Lib.hid (concatP.clone_any B w1 _ ks (Hrk.out.up hbw) (by have := Hks.out; omega))
  have Hbw := Lib.hid hbw
  have HT1 := Lib.hid (upb hb1 HT.out)
  clear hb1 hbw HL
  go_wp2_with fail
  refine HC.out.mono ?_
  rintro e w2 ⟨v7, rfl, ho7, hb2⟩
  have hrv := rev_any w1.heap.size w2 v7 ks hb2.size (by have := Hks.out; omega) ho7
  obtain ⟨a7, c7, hv7, _⟩ := ho7.row
  subst hv7
  obtain ⟨n7, hn7⟩ : ∃ n7, n7 = ks.length := ⟨_, rfl⟩
  rw [← hn7] at hrv
  rw [← hn7]
  have HRv := Lib.hid hrv
  have Hb2 := Lib.hid hb2
  clear hb2 ho7 hrv hn7 HC
  go_wp2_with fail
  refine HRv.out.mono ?_
  rintro e V ⟨rfl, hr7, hb3⟩
  have hb13 : Below w1.heap.size w1 V := Hb2.out.trans hb3
  have hb03 := belowTrans Hbw.out hb13
  have kb' := upc hb13 kb1
  have kx' := upc hb03 kx
  replace HT := Lib.hid (upb hb13 HT1.out)
  have HK := Lib.hid (And.intro (RowR.lower (B := B) (Nat.le_trans HB.out Hbw.out.size) hr7) (Fo.rev (Fo.up hb03 Hfk.out)))
  have HS := Lib.hid (And.intro (HR.out.1.up hb03) (And.intro (HR.out.2.1.up hb03) (And.intro HR.out.2.2.1 (Fo.up hb03 HR.out.2.2.2))))
  have HbV := Lib.hid hb03
  replace HB := Lib.hid (Nat.le_trans HB.out hb03.size)
  clear kb kx kt1 kk1 kb1 kt kk hr7 hb3 hb13 hb03 HRv HT1
  replace kb := kb'
  replace kx := kx'
  clear kb' kx'
  go_wp2_with fail
  refine grow.wp_grow_dag [(w.heap.size + 1)] [grow.kEq (.pointer (some ⟨bt, 0, none⟩)), grow.kEq (.pointer (some ⟨bt, 0, none⟩)), grow.kEq (.pointer (some ⟨bt, 0, none⟩)), grow.kEq (.int .i64 x), grow.kEq (.slice a7 n7 c7), grow.kEq (.pointer (some ⟨w.heap.size, 0, none⟩)), grow.kEq (.slice (some ⟨g, o, none⟩) n c), grow.kEq (.int .i64 (i : Nat)), grow.kEq (.slice (some ⟨g, o, none⟩) i c), grow.kEq (.pointer (some ⟨w.heap.size, 0, none⟩)), grow.kEq (.slice (some ⟨g, o, none⟩) n c), grow.kEq (.int .i64 (i : Nat)), grow.kEq (.int .i64 ((i : Nat) + 1 : Int)), grow.kEq (.slice (if c = i + 1 then some ⟨g, o, none⟩ else some ⟨g, o + (i + 1), none⟩) (n - (i + 1)) (c - (i + 1))), kTwo (w.heap.size + 1) (.slice (some ⟨g, o, none⟩) i c) (.slice (if c = i + 1 then some ⟨g, o, none⟩ else some ⟨g, o + (i + 1), none⟩) (n - (i + 1)) (c - (i + 1))), kHp B (w.heap.size + 1) (fdel f i), kHp B (w.heap.size + 1) fr, kHpA B (w.heap.size + 1) fr, grow.kEq (.int .i64 x), kStH B (w.heap.size + 1) fr, grow.kEq (.bool true)] [none, none, none, none, none, none, none, none, none, none, none, none, none, none, none, none, none, none, none, some ((w.heap.size + 1)), none] (grow.sps_of (by simp)) (by kernel_rfl) (by kernel_rfl) (by kernel_rfl) (by kernel_rfl) ?monoS ?step ?fin
  case monoS =>
    refine grow.monoS_of ?_
    intro i hi j b hne hsj
    match i, hi with
    | 0, _ => exact fun _ _ _ _ h => h
    | 1, _ => exact fun _ _ _ _ h => h
    | 2, _ => exact fun _ _ _ _ h => h
    | 3, _ => exact fun _ _ _ _ h => h
    | 4, _ => exact fun _ _ _ _ h => h
    | 5, _ => exact fun _ _ _ _ h => h
    | 6, _ => exact fun _ _ _ _ h => h
    | 7, _ => exact fun _ _ _ _ h => h
    | 8, _ => exact fun _ _ _ _ h => h
    | 9, _ => exact fun _ _ _ _ h => h
    | 10, _ => exact fun _ _ _ _ h => h
    | 11, _ => exact fun _ _ _ _ h => h
    | 12, _ => exact fun _ _ _ _ h => h
    | 13, _ => exact fun _ _ _ _ h => h
    | 14, _ => exact fun _ _ _ hb h => kTwo_flat (by rw [one_of hsj] at hb; exact hb) h
    | 15, _ => exact fun _ _ _ hb h => kHp_flat (by rw [one_of hsj] at hb; exact hb) h
    | 16, _ => exact fun _ _ _ hb h => kHp_flat (by rw [one_of hsj] at hb; exact hb) h
    | 17, _ => exact fun _ _ _ hb h => kHpA_flat (by rw [one_of hsj] at hb; exact hb) h
    | 18, _ => exact fun _ _ _ _ h => h
    | 19, _ => exact absurd (grow.only_of (s := 19) (by kernel_rfl) hsj) hne
    | 20, _ => exact fun _ _ _ _ h => h
    | i + 21, hi => simp at hi; omega
  case step =>
    refine grow.EachD.cons ?_ ?_
    · intro A Wx hB hs hJ K hK
      have s0 := hs 6 (by kernel_rfl)
      simp at s0
      rw [if_pos (by rfl)]
      clear hs hJ
      go_simp
      exact hK _ _ (Below.refl _ _) rfl
    refine grow.EachD.cons ?_ ?_
    · intro A Wx hB hs hJ K hK
      have s0 : A.tmps.getD 27 undef = .pointer (some ⟨bt, 0, none⟩) := hJ 0 27 (by kernel_rfl) (by kernel_rfl)
      simp at s0
      rw [if_pos (by rfl)]
      clear hs hJ
      go_simp
      exact hK _ _ (Below.refl _ _) rfl
    refine grow.EachD.cons ?_ ?_
    · intro A Wx hB hs hJ K hK
      have s0 : A.tmps.getD 28 undef = .pointer (some ⟨bt, 0, none⟩) := hJ 1 28 (by kernel_rfl) (by kernel_rfl)
      simp at s0
      rw [if_pos (by rfl)]
      clear hs hJ
      go_simp
      exact hK _ _ (Below.refl _ _) rfl
    refine grow.EachD.cons ?_ ?_
    · intro A Wx hB hs hJ K hK
      have s0 : A.tmps.getD 29 undef = .pointer (some ⟨bt, 0, none⟩) := hJ 2 29 (by kernel_rfl) (by kernel_rfl)
      simp at s0
      have kk := hB.upc (by simp; omega) kx
      rw [if_pos (by rfl)]
      clear hs hJ
      go_simp
      exact hK _ _ (Below.refl _ _) rfl
    refine grow.EachD.cons ?_ ?_
    · intro A Wx hB hs hJ K hK
      have s0 := hs 7 (by kernel_rfl)
      simp at s0
      rw [if_pos (by rfl)]
      clear hs hJ
      go_simp
      exact hK _ _ (Below.refl _ _) rfl
    refine grow.EachD.cons ?_ ?_
    · intro A Wx hB hs hJ K hK
      have s0 := hs 1 (by kernel_rfl)
      simp at s0
      rw [if_pos (by rfl)]
      clear hs hJ
      go_simp
      exact hK _ _ (Below.refl _ _) rfl
    refine grow.EachD.cons ?_ ?_
    · intro A Wx hB hs hJ K hK
      have s0 : A.tmps.getD 32 undef = .pointer (some ⟨w.heap.size, 0, none⟩) := hJ 5 32 (by kernel_rfl) (by kernel_rfl)
      simp at s0
      have kk := hB.upc (by simp) kb
      rw [if_pos (by rfl)]
      clear hs hJ
      go_simp
      exact hK _ _ (Below.refl _ _) rfl
    refine grow.EachD.cons ?_ ?_
    · intro A Wx hB hs hJ K hK
      have s0 := hs 5 (by kernel_rfl)
      simp at s0
      rw [if_pos (by rfl)]
      clear hs hJ
      go_simp
      exact hK _ _ (Below.refl _ _) rfl
    refine grow.EachD.cons ?_ ?_
    · intro A Wx hB hs hJ K hK
      have s0 : A.tmps.getD 33 undef = .slice (some ⟨g, o, none⟩) n c := hJ 6 33 (by kernel_rfl) (by kernel_rfl)
      simp at s0
      have s1 : A.tmps.getD 34 undef = .int .i64 (i : Nat) := hJ 7 34 (by kernel_rfl) (by kernel_rfl)
      simp at s1
      have q1 : (0 : Int) ≤ (i : Int) := by omega
      have q2 : (i : Int) ≤ (c : Int) := by omega
      rw [if_pos (by rfl)]
      clear hs hJ
      go_simp
      exact hK _ _ (Below.refl _ _) rfl
    refine grow.EachD.cons ?_ ?_
    · intro A Wx hB hs hJ K hK
      have s0 := hs 1 (by kernel_rfl)
      simp at s0
      rw [if_pos (by rfl)]
      clear hs hJ
      go_simp
      exact hK _ _ (Below.refl _ _) rfl
    refine grow.EachD.cons ?_ ?_
    · intro A Wx hB hs hJ K hK
      have s0 : A.tmps.getD 36 undef = .pointer (some ⟨w.heap.size, 0, none⟩) := hJ 9 36 (by kernel_rfl) (by kernel_rfl)
      simp at s0
      have kk := hB.upc (by simp) kb
      rw [if_pos (by rfl)]
      clear hs hJ
      go_simp
      exact hK _ _ (Below.refl _ _) rfl
    refine grow.EachD.cons ?_ ?_
    · intro A Wx hB hs hJ K hK
      have s0 := hs 5 (by kernel_rfl)
      simp at s0
      rw [if_pos (by rfl)]
      clear hs hJ
      go_simp
      exact hK _ _ (Below.refl _ _) rfl
    refine grow.EachD.cons ?_ ?_
    · intro A Wx hB hs hJ K hK
      have s0 : A.tmps.getD 38 undef = .int .i64 (i : Nat) := hJ 11 38 (by kernel_rfl) (by kernel_rfl)
      simp at s0
      have hw : IntKind.i64.wrap ((i : Nat) + 1 : Int) = (i : Nat) + 1 := IntWalk.i64_in _ (by omega)
      rw [if_pos (by rfl)]
      clear hs hJ
      go_simp
      exact hK _ _ (Below.refl _ _) rfl
    refine grow.EachD.cons ?_ ?_
    · intro A Wx hB hs hJ K hK
      have s0 : A.tmps.getD 37 undef = .slice (some ⟨g, o, none⟩) n c := hJ 10 37 (by kernel_rfl) (by kernel_rfl)
      simp at s0
      have s1 : A.tmps.getD 39 undef = .int .i64 ((i : Nat) + 1 : Int) := hJ 12 39 (by kernel_rfl) (by kernel_rfl)
      simp at s1
      have q1 : (0 : Int) ≤ (i : Int) + 1 := by omega
      have q2 : (i : Int) + 1 ≤ (n : Int) := by omega
      have q3 : (n : Int) ≤ (c : Int) := by omega
      rw [if_pos (by rfl)]
      clear hs hJ
      go_simp
      exact hK _ _ (Below.refl _ _) rfl
    refine grow.EachD.cons ?_ ?_
    · intro A Wx hB hs hJ K hK
      have s0 : A.tmps.getD 35 undef = .slice (some ⟨g, o, none⟩) i c := hJ 8 35 (by kernel_rfl) (by kernel_rfl)
      simp at s0
      have s1 : A.tmps.getD 40 undef = .slice (if c = i + 1 then some ⟨g, o, none⟩ else some ⟨g, o + (i + 1), none⟩) (n - (i + 1)) (c - (i + 1)) := hJ 13 40 (by kernel_rfl) (by kernel_rfl)
      simp at s1
      rw [if_pos (by rfl)]
      clear hs hJ
      go_simp
      exact hK _ _ (belowAlloc _ _) ⟨_, rfl, heap_alloc_new _ _, tyUp (belowAlloc _ _) (tyS hB HT.out)⟩
    refine grow.EachD.cons ?_ ?_
    · intro A Wx hB hs hJ K hK
      obtain ⟨g1, s0, hk1, y1⟩ := hJ 14 41 (by kernel_rfl) (by kernel_rfl)
      simp at s0
      rw [if_pos (by rfl)]
      clear hs hJ
      go_simp
      go_at_call 105
      refine (concatP.concat2 B Wx g1 _ _ _ _ hk1 (HS.out.1.upS HT.out (by decide) hB) (HS.out.2.1.upS HT.out (by decide) hB) HS.out.2.2.1).mono ?_
      rintro e W2 ⟨v2, rfl, ho, hbn⟩
      exact hK _ _ hbn (kHp_of ⟨_, RowR.lower (Nat.le_trans HB.out hB.size) ho.row, Fo.up hbn (Fo.upS HT.out (by decide) (by decide) hB HS.out.2.2.2)⟩ (tyUp hbn (tyS hB HT.out)))
    refine grow.EachD.cons ?_ ?_
    · intro A Wx hB hs hJ K hK
      have s0 : A.tmps.getD 31 undef = .slice a7 n7 c7 := hJ 4 31 (by kernel_rfl) (by kernel_rfl)
      simp at s0
      obtain ⟨ra, rn, rc, s1, hh, y1⟩ := hJ 15 42 (by kernel_rfl) (by kernel_rfl)
      simp at s1
      obtain ⟨ps9, hr9, hf9⟩ := hh
      rw [if_pos (by rfl)]
      clear hs hJ
      go_simp
      go_at_call 62
      refine (hM B Wx _ _ _ _ (Nat.le_trans HB.out hB.size) (HK.out.1.upS HT.out (by decide) hB) (Fo.upS HT.out (by decide) (by decide) hB HK.out.2) hr9 hf9).mono ?_
      rintro e W2 ⟨v2, ps2, rfl, hr2, hf2, hbn⟩
      exact hK _ _ hbn (kHp_of ⟨ps2, hr2, hf2⟩ (tyUp hbn (tyS hB HT.out)))
    refine grow.EachD.cons ?_ ?_
    · intro A Wx hB hs hJ K hK
      obtain ⟨ra, rn, rc, s0, hh, y1⟩ := hJ 16 43 (by kernel_rfl) (by kernel_rfl)
      simp at s0
      rw [if_pos (by rfl)]
      clear hs hJ
      go_simp
      exact hK _ _ (Below.refl _ _) ⟨ra, rn, rc, rfl, hh, y1⟩
    refine grow.EachD.cons ?_ ?_
    · intro A Wx hB hs hJ K hK
      have s0 : A.tmps.getD 30 undef = .int .i64 x := hJ 3 30 (by kernel_rfl) (by kernel_rfl)
      simp at s0
      rw [if_pos (by rfl)]
      clear hs hJ
      go_simp
      exact hK _ _ (Below.refl _ _) rfl
    refine grow.EachD.cons ?_ ?_
    · intro A Wx hB hs hJ K hK
      have s0 := hs 3 (by kernel_rfl)
      simp at s0
      obtain ⟨ra, rn, rc, s1, hh, y1⟩ := hJ 17 44 (by kernel_rfl) (by kernel_rfl)
      simp at s1
      obtain ⟨c', hc', hcs⟩ := y1
      obtain ⟨u', rfl⟩ := grow.size1 hcs
      have k0 := cell_of_one hc'; have f0 := free_of_one hc'
      have Hc' := Lib.hid hc'
      clear hc' hcs
      rw [if_pos (by rfl)]
      clear hs hJ
      go_simp
      exact hK undef _ (grow.BelowS.set _ _ (w.heap.size + 1) 0 (by simp) _) ⟨ra, rn, rc, one_setCell Hc'.out, hh.store Hc'.out (by decide) (by decide)⟩
    refine grow.EachD.cons ?_ ?_
    · intro A Wx hB hs hJ K hK
      rw [if_pos (by rfl)]
      clear hs hJ
      go_simp
      exact hK _ _ (Below.refl _ _) rfl
    exact grow.EachD.nil
  case fin =>
    intro ff Wx hB hF
    have f0 : ff 0 = .pointer (some ⟨bt, 0, none⟩) := hF 0 (by decide)
    have f1 : ff 1 = .pointer (some ⟨bt, 0, none⟩) := hF 1 (by decide)
    have f2 : ff 2 = .pointer (some ⟨bt, 0, none⟩) := hF 2 (by decide)
    have f3 : ff 3 = .int .i64 x := hF 3 (by decide)
    have f4 : ff 4 = .slice a7 n7 c7 := hF 4 (by decide)
    have f5 : ff 5 = .pointer (some ⟨w.heap.size, 0, none⟩) := hF 5 (by decide)
    have f6 : ff 6 = .slice (some ⟨g, o, none⟩) n c := hF 6 (by decide)
    have f7 : ff 7 = .int .i64 (i : Nat) := hF 7 (by decide)
    have f8 : ff 8 = .slice (some ⟨g, o, none⟩) i c := hF 8 (by decide)
    have f9 : ff 9 = .pointer (some ⟨w.heap.size, 0, none⟩) := hF 9 (by decide)
    have f10 : ff 10 = .slice (some ⟨g, o, none⟩) n c := hF 10 (by decide)
    have f11 : ff 11 = .int .i64 (i : Nat) := hF 11 (by decide)
    have f12 : ff 12 = .int .i64 ((i : Nat) + 1 : Int) := hF 12 (by decide)
    have f13 : ff 13 = .slice (if c = i + 1 then some ⟨g, o, none⟩ else some ⟨g, o + (i + 1), none⟩) (n - (i + 1)) (c - (i + 1)) := hF 13 (by decide)
    obtain ⟨g1_14, f14, -, y1_14⟩ := hF 14 (by decide)
    obtain ⟨ra_15, rn_15, rc_15, f15, -, y1_15⟩ := hF 15 (by decide)
    obtain ⟨ra_16, rn_16, rc_16, f16, -, y1_16⟩ := hF 16 (by decide)
    obtain ⟨ra_17, rn_17, rc_17, f17, -, y1_17⟩ := hF 17 (by decide)
    have f18 : ff 18 = .int .i64 x := hF 18 (by decide)
    have hst19 := hF 19 (by decide)
    have f20 : ff 20 = .bool true := hF 20 (by decide)
    clear hF
    intro A hA
    simp only [List.length_cons, List.length_nil, Nat.reduceAdd, grow.puts, Act.put, List.getElem?_toArray, List.getElem?_cons_zero, List.getElem?_cons_succ, Option.bind_some, List.setIfInBounds_toArray, List.set_cons_zero, List.set_cons_succ, f0, f1, f2, f3, f4, f5, f6, f7, f8, f9, f10, f11, f12, f13, f14, f15, f16, f17, f18, f20] at hA
    subst hA
    obtain ⟨a9, n9, c9, hk9, hh9⟩ := hst19
    have e9 := cell_of_one hk9
    have HH9 := Lib.hid hh9
    have HB9 : Hid (Below w.heap.size w Wx) := Lib.hid (HbV.out.trans (hB.below HbV.out.size (fun b hb => by simp at hb; omega)))
    clear hk9 hh9 hB
    go_wp2_with fail
    all_goals exact bodyPost_ret (v := .tuple #[.int .i64 x, .agg #[.slice a9 n9 c9], .bool true]) (by simp [results, Try.results63, go_sem, e9]) rfl ⟨a9, n9, c9, rfl, HH9.out, HB9.out⟩
end Go.Proofs.Ytnigadnjppeckaa.bino
