/- Package bino: link. (Printed by bi.py.) -/
import Derived.Test.YtnigadnjppeckaaBino
namespace Go.Proofs.Ytnigadnjppeckaa.bino
open Go.RowKit

def kOneP (B : Nat) (u : Option Addr) : grow.Kept := ⟨fun v W => ∃ g, v = .slice (some ⟨g, 0, none⟩) 1 1 ∧ B ≤ g ∧ W.heap[g]? = some (.cells #[.pointer u] 168 (0, 0)), fun _ _ _ hb ⟨g, h1, h2, h3⟩ => ⟨g, h1, h2, upb hb h3⟩⟩
def kRow (B : Nat) (ps : List (Option Addr)) : grow.Kept := ⟨fun v W => ∃ ra rn rc, v = .slice ra rn rc ∧ RowR B W (.slice ra rn rc) ps, fun _ _ _ hb ⟨a, n, c, h1, h2⟩ => ⟨a, n, c, h1, h2.up hb⟩⟩
def kAgg (B : Nat) (x y : Int) (ps : List (Option Addr)) : grow.Kept := ⟨fun v W => ∃ ra rn rc, v = .agg #[.int .i64 x, .int .i64 y, .slice ra rn rc] ∧ RowR B W (.slice ra rn rc) ps, fun _ _ _ hb ⟨a, n, c, h1, h2⟩ => ⟨a, n, c, h1, h2.up hb⟩⟩
def kNode (B : Nat) (x y : Int) (ps : List (Option Addr)) : grow.Kept := ⟨fun v W => ∃ p r, v = .pointer (some ⟨p, 0, none⟩) ∧ B ≤ p ∧ W.heap[p]? = some (.cells #[.int .i64 x, .int .i64 y, r] 170 (0, 0)) ∧ RowR B W r ps, fun _ _ _ hb ⟨p, r, h1, h2, h3, h4⟩ => ⟨p, r, h1, h2, upb hb h3, h4.up hb⟩⟩

set_option maxRecDepth 100000 in
set_option maxHeartbeats 4000000 in
theorem link_le (B : Nat) (w : World) (b b' : Nat) (a a' : Int × Int) (k k' : F) (v v' : Value) (ks ks' : List (Option Addr)) (hB : B ≤ w.heap.size) (_hBb : B ≤ b) (hBb' : B ≤ b')
    (hb : w.heap[b]? = some (.cells #[.int .i64 a.1, .int .i64 a.2, v] 170 (0, 0))) (hr : RowR B w v ks) (hk : Fo B w ks k)
    (hb' : w.heap[b']? = some (.cells #[.int .i64 a'.1, .int .i64 a'.2, v'] 170 (0, 0))) (hr' : RowR B w v' ks') (hk' : Fo B w ks' k')
    (hle : ¬ a'.1 < a.1) (hs : k.size + k'.size ≤ 17592186044000) :
    Calls Try.prog 101 #[.pointer (some ⟨b, 0, none⟩), .pointer (some ⟨b', 0, none⟩)] w fun e w' => ∃ p, e = .returned (.pointer p) ∧ Fo B w' [p] (over a k a' k') ∧ Below w.heap.size w w' := by
  have c0 : w.cell? ⟨b, 0, none⟩ = some (.int .i64 a.1) := by simp [World.cell?, hb]
  have c1 : w.cell? ⟨b, 1, none⟩ = some (.int .i64 a.2) := by simp [World.cell?, hb]
  have c2 : w.cell? ⟨b, 2, none⟩ = some v := by simp [World.cell?, hb]
  have c0' : w.cell? ⟨b', 0, none⟩ = some (.int .i64 a'.1) := by simp [World.cell?, hb']
  have c1' : w.cell? ⟨b', 1, none⟩ = some (.int .i64 a'.2) := by simp [World.cell?, hb']
  have c2' : w.cell? ⟨b', 2, none⟩ = some v' := by simp [World.cell?, hb']
  have hlt : decide (a'.1 < a.1) = false := by simpa using hle
  have HR := Lib.hid hr
  obtain ⟨ad, cd, rfl, hnone, hrow⟩ := hr
  have hln : ks.length ≤ 17592186044000 := by have h1 := Fo.len hk; have h2 := flen_size k; omega
  have HY := Lib.hid (And.intro hBb' (And.intro hb' (And.intro hr' hk')))
  have HK := Lib.hid hk
  have HB := Lib.hid hB
  clear hb hb' hr' hk hk' hrow hnone hB hBb' hle
  go_enter Try.func101, Try.ntmps101
  go_wp2_with fail
  go_quiet (fail)
  go_wp2_with fail
  obtain ⟨V, hV⟩ : ∃ V, V = w.drewN nq := ⟨_, rfl⟩
  have hbV : Below w.heap.size w V := by rw [hV]; exact belowDrewN _ _
  rw [← hV]
  replace c0 := upc hbV c0
  replace c1 := upc hbV c1
  replace c2 := upc hbV c2
  replace c0' := upc hbV c0'
  replace c1' := upc hbV c1'
  replace c2' := upc hbV c2'
  replace HR := Lib.hid (HR.out.up hbV)
  replace HY := Lib.hid (And.intro HY.out.1 (And.intro (upb hbV HY.out.2.1) (And.intro (HY.out.2.2.1.up hbV) (Fo.up hbV HY.out.2.2.2))))
  replace HK := Lib.hid (Fo.up hbV HK.out)
  replace HB := Lib.hid (Nat.le_trans HB.out hbV.size)
  have HbV := Lib.hid hbV
  clear hV hbV
  refine grow.wp_grow [grow.kEq (.pointer (some ⟨b, 0, none⟩)), grow.kEq (.pointer (some ⟨b, 0, none⟩)), grow.kEq (.pointer (some ⟨b, 0, none⟩)), grow.kEq (.int .i64 a.1), grow.kEq (.pointer (some ⟨b, 0, none⟩)), grow.kEq (.pointer (some ⟨b, 0, none⟩)), grow.kEq (.pointer (some ⟨b, 1, none⟩)), grow.kEq (.int .i64 a.2), grow.kEq (.int .i64 (IntKind.i64.wrap (a.2 + 1))), grow.kEq (.pointer (some ⟨b', 0, none⟩)), kOneP B (some ⟨b', 0, none⟩), grow.kEq (.pointer (some ⟨b, 0, none⟩)), grow.kEq (.pointer (some ⟨b, 0, none⟩)), grow.kEq (.pointer (some ⟨b, 2, none⟩)), grow.kEq (.slice ad ks.length cd), kRow B (some ⟨b', 0, none⟩ :: ks), kAgg B a.1 (IntKind.i64.wrap (a.2 + 1)) (some ⟨b', 0, none⟩ :: ks), kNode B a.1 (IntKind.i64.wrap (a.2 + 1)) (some ⟨b', 0, none⟩ :: ks), kNode B a.1 (IntKind.i64.wrap (a.2 + 1)) (some ⟨b', 0, none⟩ :: ks)] (by kernel_rfl) (by kernel_rfl) (by kernel_rfl) (by kernel_rfl) ?step ?fin
  case step =>
    refine grow.Each.cons ?_ ?_
    · intro A Wx hB hs hJ K hK
      have s0 := hs 0 (by kernel_rfl)
      simp at s0
      rw [if_pos (by rfl)]
      clear hs hJ
      go_simp
      exact hK _ _ (Below.refl _ _) rfl
    refine grow.Each.cons ?_ ?_
    · intro A Wx hB hs hJ K hK
      have s0 : A.tmps.getD 16 undef = .pointer (some ⟨b, 0, none⟩) := hJ 0 16 (by kernel_rfl) (by kernel_rfl)
      simp at s0
      rw [if_pos (by rfl)]
      clear hs hJ
      go_simp
      exact hK _ _ (Below.refl _ _) rfl
    refine grow.Each.cons ?_ ?_
    · intro A Wx hB hs hJ K hK
      have s0 : A.tmps.getD 17 undef = .pointer (some ⟨b, 0, none⟩) := hJ 1 17 (by kernel_rfl) (by kernel_rfl)
      simp at s0
      rw [if_pos (by rfl)]
      clear hs hJ
      go_simp
      exact hK _ _ (Below.refl _ _) rfl
    refine grow.Each.cons ?_ ?_
    · intro A Wx hB hs hJ K hK
      have s0 : A.tmps.getD 18 undef = .pointer (some ⟨b, 0, none⟩) := hJ 2 18 (by kernel_rfl) (by kernel_rfl)
      simp at s0
      have kk := upc hB c0
      rw [if_pos (by rfl)]
      clear hs hJ
      go_simp
      exact hK _ _ (Below.refl _ _) rfl
    refine grow.Each.cons ?_ ?_
    · intro A Wx hB hs hJ K hK
      have s0 := hs 0 (by kernel_rfl)
      simp at s0
      rw [if_pos (by rfl)]
      clear hs hJ
      go_simp
      exact hK _ _ (Below.refl _ _) rfl
    refine grow.Each.cons ?_ ?_
    · intro A Wx hB hs hJ K hK
      have s0 : A.tmps.getD 20 undef = .pointer (some ⟨b, 0, none⟩) := hJ 4 20 (by kernel_rfl) (by kernel_rfl)
      simp at s0
      rw [if_pos (by rfl)]
      clear hs hJ
      go_simp
      exact hK _ _ (Below.refl _ _) rfl
    refine grow.Each.cons ?_ ?_
    · intro A Wx hB hs hJ K hK
      have s0 : A.tmps.getD 21 undef = .pointer (some ⟨b, 0, none⟩) := hJ 5 21 (by kernel_rfl) (by kernel_rfl)
      simp at s0
      rw [if_pos (by rfl)]
      clear hs hJ
      go_simp
      exact hK _ _ (Below.refl _ _) rfl
    refine grow.Each.cons ?_ ?_
    · intro A Wx hB hs hJ K hK
      have s0 : A.tmps.getD 22 undef = .pointer (some ⟨b, 1, none⟩) := hJ 6 22 (by kernel_rfl) (by kernel_rfl)
      simp at s0
      have kk := upc hB c1
      rw [if_pos (by rfl)]
      clear hs hJ
      go_simp
      exact hK _ _ (Below.refl _ _) rfl
    refine grow.Each.cons ?_ ?_
    · intro A Wx hB hs hJ K hK
      have s0 : A.tmps.getD 23 undef = .int .i64 a.2 := hJ 7 23 (by kernel_rfl) (by kernel_rfl)
      simp at s0
      have hwr : IntKind.i64.wrap (a.2 + 1) = IntKind.i64.wrap (a.2 + 1) := rfl
      rw [if_pos (by rfl)]
      clear hs hJ
      go_simp
      exact hK _ _ (Below.refl _ _) rfl
    refine grow.Each.cons ?_ ?_
    · intro A Wx hB hs hJ K hK
      have s0 := hs 1 (by kernel_rfl)
      simp at s0
      rw [if_pos (by rfl)]
      clear hs hJ
      go_simp
      exact hK _ _ (Below.refl _ _) rfl
    refine grow.Each.cons ?_ ?_
    · intro A Wx hB hs hJ K hK
      have s0 : A.tmps.getD 25 undef = .pointer (some ⟨b', 0, none⟩) := hJ 9 25 (by kernel_rfl) (by kernel_rfl)
      simp at s0
      rw [if_pos (by rfl)]
      clear hs hJ
      go_simp
      exact hK _ _ (belowAlloc _ _) ⟨_, rfl, Nat.le_trans HB.out hB.size, heap_alloc_new _ _⟩
    refine grow.Each.cons ?_ ?_
    · intro A Wx hB hs hJ K hK
      have s0 := hs 0 (by kernel_rfl)
      simp at s0
      rw [if_pos (by rfl)]
      clear hs hJ
      go_simp
      exact hK _ _ (Below.refl _ _) rfl
    refine grow.Each.cons ?_ ?_
    · intro A Wx hB hs hJ K hK
      have s0 : A.tmps.getD 27 undef = .pointer (some ⟨b, 0, none⟩) := hJ 11 27 (by kernel_rfl) (by kernel_rfl)
      simp at s0
      rw [if_pos (by rfl)]
      clear hs hJ
      go_simp
      exact hK _ _ (Below.refl _ _) rfl
    refine grow.Each.cons ?_ ?_
    · intro A Wx hB hs hJ K hK
      have s0 : A.tmps.getD 28 undef = .pointer (some ⟨b, 0, none⟩) := hJ 12 28 (by kernel_rfl) (by kernel_rfl)
      simp at s0
      rw [if_pos (by rfl)]
      clear hs hJ
      go_simp
      exact hK _ _ (Below.refl _ _) rfl
    refine grow.Each.cons ?_ ?_
    · intro A Wx hB hs hJ K hK
      have s0 : A.tmps.getD 29 undef = .pointer (some ⟨b, 2, none⟩) := hJ 13 29 (by kernel_rfl) (by kernel_rfl)
      simp at s0
      have kk := upc hB c2
      rw [if_pos (by rfl)]
      clear hs hJ
      go_simp
      exact hK _ _ (Below.refl _ _) rfl
    refine grow.Each.cons ?_ ?_
    · intro A Wx hB hs hJ K hK
      obtain ⟨g, s0, hg, hk⟩ := hJ 10 26 (by kernel_rfl) (by kernel_rfl)
      simp at s0
      have s1 : A.tmps.getD 30 undef = .slice ad ks.length cd := hJ 14 30 (by kernel_rfl) (by kernel_rfl)
      simp at s1
      rw [if_pos (by rfl)]
      clear hs hJ
      obtain ⟨v1, W1, hrun, hrow1, hbn⟩ := app_one B Wx g (some ⟨b', 0, none⟩) ks (.slice ad ks.length cd) _ hk hg (HR.out.up hB) (by omega)
      refine Lib.wp_append_run Wx (.tmp 26) (.tmp 30) _ _ rfl _ _ (by show A.tmps.getD 26 undef = _; simpa using s0) (by show A.tmps.getD 30 undef = _; simpa using s1) v1 W1 hrun ?_
      obtain ⟨a1, c1, hv1, hrest⟩ := hrow1
      subst hv1
      exact hK _ _ hbn ⟨_, _, _, rfl, ⟨a1, c1, rfl, hrest⟩⟩
    refine grow.Each.cons ?_ ?_
    · intro A Wx hB hs hJ K hK
      have s0 : A.tmps.getD 19 undef = .int .i64 a.1 := hJ 3 19 (by kernel_rfl) (by kernel_rfl)
      simp at s0
      have s1 : A.tmps.getD 24 undef = .int .i64 (IntKind.i64.wrap (a.2 + 1)) := hJ 8 24 (by kernel_rfl) (by kernel_rfl)
      simp at s1
      obtain ⟨ra, rn, rc, s2, hr⟩ := hJ 15 31 (by kernel_rfl) (by kernel_rfl)
      simp at s2
      rw [if_pos (by rfl)]
      clear hs hJ
      go_simp
      exact hK _ _ (Below.refl _ _) ⟨ra, rn, rc, rfl, hr⟩
    refine grow.Each.cons ?_ ?_
    · intro A Wx hB hs hJ K hK
      obtain ⟨ra, rn, rc, s0, hr⟩ := hJ 16 32 (by kernel_rfl) (by kernel_rfl)
      simp at s0
      rw [if_pos (by rfl)]
      clear hs hJ
      go_simp
      exact hK _ _ (belowAlloc _ _) ⟨_, _, rfl, Nat.le_trans HB.out hB.size, heap_alloc_new _ _, hr.up (belowAlloc _ _)⟩
    refine grow.Each.cons ?_ ?_
    · intro A Wx hB hs hJ K hK
      obtain ⟨p, r, s0, hp, hc, hr⟩ := hJ 17 33 (by kernel_rfl) (by kernel_rfl)
      simp at s0
      rw [if_pos (by rfl)]
      clear hs hJ
      go_simp
      exact hK _ _ (Below.refl _ _) ⟨p, r, rfl, hp, hc, hr⟩
    exact grow.Each.nil
  case fin =>
    intro f Wx hB hF
    have f0 : f 0 = .pointer (some ⟨b, 0, none⟩) := hF 0 (by decide)
    have f1 : f 1 = .pointer (some ⟨b, 0, none⟩) := hF 1 (by decide)
    have f2 : f 2 = .pointer (some ⟨b, 0, none⟩) := hF 2 (by decide)
    have f3 : f 3 = .int .i64 a.1 := hF 3 (by decide)
    have f4 : f 4 = .pointer (some ⟨b, 0, none⟩) := hF 4 (by decide)
    have f5 : f 5 = .pointer (some ⟨b, 0, none⟩) := hF 5 (by decide)
    have f6 : f 6 = .pointer (some ⟨b, 1, none⟩) := hF 6 (by decide)
    have f7 : f 7 = .int .i64 a.2 := hF 7 (by decide)
    have f8 : f 8 = .int .i64 (IntKind.i64.wrap (a.2 + 1)) := hF 8 (by decide)
    have f9 : f 9 = .pointer (some ⟨b', 0, none⟩) := hF 9 (by decide)
    obtain ⟨g_10, f10, hg_10, hk_10⟩ := hF 10 (by decide)
    have f11 : f 11 = .pointer (some ⟨b, 0, none⟩) := hF 11 (by decide)
    have f12 : f 12 = .pointer (some ⟨b, 0, none⟩) := hF 12 (by decide)
    have f13 : f 13 = .pointer (some ⟨b, 2, none⟩) := hF 13 (by decide)
    have f14 : f 14 = .slice ad ks.length cd := hF 14 (by decide)
    obtain ⟨ra_15, rn_15, rc_15, f15, hr_15⟩ := hF 15 (by decide)
    obtain ⟨ra_16, rn_16, rc_16, f16, hr_16⟩ := hF 16 (by decide)
    obtain ⟨p_17, r_17, f17, hp_17, hc_17, hr_17⟩ := hF 17 (by decide)
    obtain ⟨p_18, r_18, f18, hp_18, hc_18, hr_18⟩ := hF 18 (by decide)
    clear hF
    generalize hA : grow.puts _ _ f _ = A'
    simp only [List.length_cons, List.length_nil, Nat.reduceAdd, grow.puts, Act.put, List.getElem?_toArray, List.getElem?_cons_zero, List.getElem?_cons_succ, Option.bind_some, List.setIfInBounds_toArray, List.set_cons_zero, List.set_cons_succ, f0, f1, f2, f3, f4, f5, f6, f7, f8, f9, f10, f11, f12, f13, f14, f15, f16, f17, f18] at hA
    subst hA
    have hF : Fo B Wx [some ⟨p_18, 0, none⟩] (over a k a' k') := ⟨_, [], r_18, _, rfl, hp_18, hc_18, hr_18, ⟨b', ks, v', ks', rfl, HY.out.1, upb hB HY.out.2.1, HY.out.2.2.1.up hB, Fo.up hB HY.out.2.2.2, Fo.up hB HK.out⟩, rfl⟩
    have HF := Lib.hid hF
    have HBx := Lib.hid (belowTrans HbV.out hB)
    clear hF hB hp_18 hc_18 hr_18
    go_wp2_with fail
    go_ret
    exact ⟨_, rfl, HF.out, HBx.out⟩

set_option maxRecDepth 100000 in
set_option maxHeartbeats 4000000 in
theorem link_gt (B : Nat) (w : World) (b b' : Nat) (a a' : Int × Int) (k k' : F) (v v' : Value) (ks ks' : List (Option Addr)) (hB : B ≤ w.heap.size) (hBb : B ≤ b) (_hBb' : B ≤ b')
    (hb : w.heap[b]? = some (.cells #[.int .i64 a.1, .int .i64 a.2, v] 170 (0, 0))) (hr : RowR B w v ks) (hk : Fo B w ks k)
    (hb' : w.heap[b']? = some (.cells #[.int .i64 a'.1, .int .i64 a'.2, v'] 170 (0, 0))) (hr' : RowR B w v' ks') (hk' : Fo B w ks' k')
    (hle : a'.1 < a.1) (hs : k.size + k'.size ≤ 17592186044000) :
    Calls Try.prog 101 #[.pointer (some ⟨b, 0, none⟩), .pointer (some ⟨b', 0, none⟩)] w fun e w' => ∃ p, e = .returned (.pointer p) ∧ Fo B w' [p] (over a' k' a k) ∧ Below w.heap.size w w' := by
  have c0 : w.cell? ⟨b, 0, none⟩ = some (.int .i64 a.1) := by simp [World.cell?, hb]
  have c1 : w.cell? ⟨b, 1, none⟩ = some (.int .i64 a.2) := by simp [World.cell?, hb]
  have c2 : w.cell? ⟨b, 2, none⟩ = some v := by simp [World.cell?, hb]
  have c0' : w.cell? ⟨b', 0, none⟩ = some (.int .i64 a'.1) := by simp [World.cell?, hb']
  have c1' : w.cell? ⟨b', 1, none⟩ = some (.int .i64 a'.2) := by simp [World.cell?, hb']
  have c2' : w.cell? ⟨b', 2, none⟩ = some v' := by simp [World.cell?, hb']
  have hlt : decide (a'.1 < a.1) = true := by simpa using hle
  have HR := Lib.hid hr'
  obtain ⟨ad, cd, rfl, hnone, hrow⟩ := hr'
  have hln : ks'.length ≤ 17592186044000 := by have h1 := Fo.len hk'; have h2 := flen_size k'; omega
  have HY := Lib.hid (And.intro hBb (And.intro hb (And.intro hr hk)))
  have HK := Lib.hid hk'
  have HB := Lib.hid hB
  clear hb hb' hr hk hk' hrow hnone hB hBb hle
  go_enter Try.func101, Try.ntmps101
  go_wp2_with fail
  go_quiet (fail)
  go_wp2_with fail
  obtain ⟨V, hV⟩ : ∃ V, V = w.drewN nq := ⟨_, rfl⟩
  have hbV : Below w.heap.size w V := by rw [hV]; exact belowDrewN _ _
  rw [← hV]
  replace c0 := upc hbV c0
  replace c1 := upc hbV c1
  replace c2 := upc hbV c2
  replace c0' := upc hbV c0'
  replace c1' := upc hbV c1'
  replace c2' := upc hbV c2'
  replace HR := Lib.hid (HR.out.up hbV)
  replace HY := Lib.hid (And.intro HY.out.1 (And.intro (upb hbV HY.out.2.1) (And.intro (HY.out.2.2.1.up hbV) (Fo.up hbV HY.out.2.2.2))))
  replace HK := Lib.hid (Fo.up hbV HK.out)
  replace HB := Lib.hid (Nat.le_trans HB.out hbV.size)
  have HbV := Lib.hid hbV
  clear hV hbV
  refine grow.wp_grow [grow.kEq (.pointer (some ⟨b', 0, none⟩)), grow.kEq (.pointer (some ⟨b', 0, none⟩)), grow.kEq (.pointer (some ⟨b', 0, none⟩)), grow.kEq (.int .i64 a'.1), grow.kEq (.pointer (some ⟨b', 0, none⟩)), grow.kEq (.pointer (some ⟨b', 0, none⟩)), grow.kEq (.pointer (some ⟨b', 1, none⟩)), grow.kEq (.int .i64 a'.2), grow.kEq (.int .i64 (IntKind.i64.wrap (a'.2 + 1))), grow.kEq (.pointer (some ⟨b, 0, none⟩)), kOneP B (some ⟨b, 0, none⟩), grow.kEq (.pointer (some ⟨b', 0, none⟩)), grow.kEq (.pointer (some ⟨b', 0, none⟩)), grow.kEq (.pointer (some ⟨b', 2, none⟩)), grow.kEq (.slice ad ks'.length cd), kRow B (some ⟨b, 0, none⟩ :: ks'), kAgg B a'.1 (IntKind.i64.wrap (a'.2 + 1)) (some ⟨b, 0, none⟩ :: ks'), kNode B a'.1 (IntKind.i64.wrap (a'.2 + 1)) (some ⟨b, 0, none⟩ :: ks'), kNode B a'.1 (IntKind.i64.wrap (a'.2 + 1)) (some ⟨b, 0, none⟩ :: ks')] (by kernel_rfl) (by kernel_rfl) (by kernel_rfl) (by kernel_rfl) ?step ?fin
  case step =>
    refine grow.Each.cons ?_ ?_
    · intro A Wx hB hs hJ K hK
      have s0 := hs 0 (by kernel_rfl)
      simp at s0
      rw [if_pos (by rfl)]
      clear hs hJ
      go_simp
      exact hK _ _ (Below.refl _ _) rfl
    refine grow.Each.cons ?_ ?_
    · intro A Wx hB hs hJ K hK
      have s0 : A.tmps.getD 16 undef = .pointer (some ⟨b', 0, none⟩) := hJ 0 16 (by kernel_rfl) (by kernel_rfl)
      simp at s0
      rw [if_pos (by rfl)]
      clear hs hJ
      go_simp
      exact hK _ _ (Below.refl _ _) rfl
    refine grow.Each.cons ?_ ?_
    · intro A Wx hB hs hJ K hK
      have s0 : A.tmps.getD 17 undef = .pointer (some ⟨b', 0, none⟩) := hJ 1 17 (by kernel_rfl) (by kernel_rfl)
      simp at s0
      rw [if_pos (by rfl)]
      clear hs hJ
      go_simp
      exact hK _ _ (Below.refl _ _) rfl
    refine grow.Each.cons ?_ ?_
    · intro A Wx hB hs hJ K hK
      have s0 : A.tmps.getD 18 undef = .pointer (some ⟨b', 0, none⟩) := hJ 2 18 (by kernel_rfl) (by kernel_rfl)
      simp at s0
      have kk := upc hB c0'
      rw [if_pos (by rfl)]
      clear hs hJ
      go_simp
      exact hK _ _ (Below.refl _ _) rfl
    refine grow.Each.cons ?_ ?_
    · intro A Wx hB hs hJ K hK
      have s0 := hs 0 (by kernel_rfl)
      simp at s0
      rw [if_pos (by rfl)]
      clear hs hJ
      go_simp
      exact hK _ _ (Below.refl _ _) rfl
    refine grow.Each.cons ?_ ?_
    · intro A Wx hB hs hJ K hK
      have s0 : A.tmps.getD 20 undef = .pointer (some ⟨b', 0, none⟩) := hJ 4 20 (by kernel_rfl) (by kernel_rfl)
      simp at s0
      rw [if_pos (by rfl)]
      clear hs hJ
      go_simp
      exact hK _ _ (Below.refl _ _) rfl
    refine grow.Each.cons ?_ ?_
    · intro A Wx hB hs hJ K hK
      have s0 : A.tmps.getD 21 undef = .pointer (some ⟨b', 0, none⟩) := hJ 5 21 (by kernel_rfl) (by kernel_rfl)
      simp at s0
      rw [if_pos (by rfl)]
      clear hs hJ
      go_simp
      exact hK _ _ (Below.refl _ _) rfl
    refine grow.Each.cons ?_ ?_
    · intro A Wx hB hs hJ K hK
      have s0 : A.tmps.getD 22 undef = .pointer (some ⟨b', 1, none⟩) := hJ 6 22 (by kernel_rfl) (by kernel_rfl)
      simp at s0
      have kk := upc hB c1'
      rw [if_pos (by rfl)]
      clear hs hJ
      go_simp
      exact hK _ _ (Below.refl _ _) rfl
    refine grow.Each.cons ?_ ?_
    · intro A Wx hB hs hJ K hK
      have s0 : A.tmps.getD 23 undef = .int .i64 a'.2 := hJ 7 23 (by kernel_rfl) (by kernel_rfl)
      simp at s0
      have hwr : IntKind.i64.wrap (a'.2 + 1) = IntKind.i64.wrap (a'.2 + 1) := rfl
      rw [if_pos (by rfl)]
      clear hs hJ
      go_simp
      exact hK _ _ (Below.refl _ _) rfl
    refine grow.Each.cons ?_ ?_
    · intro A Wx hB hs hJ K hK
      have s0 := hs 1 (by kernel_rfl)
      simp at s0
      rw [if_pos (by rfl)]
      clear hs hJ
      go_simp
      exact hK _ _ (Below.refl _ _) rfl
    refine grow.Each.cons ?_ ?_
    · intro A Wx hB hs hJ K hK
      have s0 : A.tmps.getD 25 undef = .pointer (some ⟨b, 0, none⟩) := hJ 9 25 (by kernel_rfl) (by kernel_rfl)
      simp at s0
      rw [if_pos (by rfl)]
      clear hs hJ
      go_simp
      exact hK _ _ (belowAlloc _ _) ⟨_, rfl, Nat.le_trans HB.out hB.size, heap_alloc_new _ _⟩
    refine grow.Each.cons ?_ ?_
    · intro A Wx hB hs hJ K hK
      have s0 := hs 0 (by kernel_rfl)
      simp at s0
      rw [if_pos (by rfl)]
      clear hs hJ
      go_simp
      exact hK _ _ (Below.refl _ _) rfl
    refine grow.Each.cons ?_ ?_
    · intro A Wx hB hs hJ K hK
      have s0 : A.tmps.getD 27 undef = .pointer (some ⟨b', 0, none⟩) := hJ 11 27 (by kernel_rfl) (by kernel_rfl)
      simp at s0
      rw [if_pos (by rfl)]
      clear hs hJ
      go_simp
      exact hK _ _ (Below.refl _ _) rfl
    refine grow.Each.cons ?_ ?_
    · intro A Wx hB hs hJ K hK
      have s0 : A.tmps.getD 28 undef = .pointer (some ⟨b', 0, none⟩) := hJ 12 28 (by kernel_rfl) (by kernel_rfl)
      simp at s0
      rw [if_pos (by rfl)]
      clear hs hJ
      go_simp
      exact hK _ _ (Below.refl _ _) rfl
    refine grow.Each.cons ?_ ?_
    · intro A Wx hB hs hJ K hK
      have s0 : A.tmps.getD 29 undef = .pointer (some ⟨b', 2, none⟩) := hJ 13 29 (by kernel_rfl) (by kernel_rfl)
      simp at s0
      have kk := upc hB c2'
      rw [if_pos (by rfl)]
      clear hs hJ
      go_simp
      exact hK _ _ (Below.refl _ _) rfl
    refine grow.Each.cons ?_ ?_
    · intro A Wx hB hs hJ K hK
      obtain ⟨g, s0, hg, hk⟩ := hJ 10 26 (by kernel_rfl) (by kernel_rfl)
      simp at s0
      have s1 : A.tmps.getD 30 undef = .slice ad ks'.length cd := hJ 14 30 (by kernel_rfl) (by kernel_rfl)
      simp at s1
      rw [if_pos (by rfl)]
      clear hs hJ
      obtain ⟨v1, W1, hrun, hrow1, hbn⟩ := app_one B Wx g (some ⟨b, 0, none⟩) ks' (.slice ad ks'.length cd) _ hk hg (HR.out.up hB) (by omega)
      refine Lib.wp_append_run Wx (.tmp 26) (.tmp 30) _ _ rfl _ _ (by show A.tmps.getD 26 undef = _; simpa using s0) (by show A.tmps.getD 30 undef = _; simpa using s1) v1 W1 hrun ?_
      obtain ⟨a1, c1, hv1, hrest⟩ := hrow1
      subst hv1
      exact hK _ _ hbn ⟨_, _, _, rfl, ⟨a1, c1, rfl, hrest⟩⟩
    refine grow.Each.cons ?_ ?_
    · intro A Wx hB hs hJ K hK
      have s0 : A.tmps.getD 19 undef = .int .i64 a'.1 := hJ 3 19 (by kernel_rfl) (by kernel_rfl)
      simp at s0
      have s1 : A.tmps.getD 24 undef = .int .i64 (IntKind.i64.wrap (a'.2 + 1)) := hJ 8 24 (by kernel_rfl) (by kernel_rfl)
      simp at s1
      obtain ⟨ra, rn, rc, s2, hr⟩ := hJ 15 31 (by kernel_rfl) (by kernel_rfl)
      simp at s2
      rw [if_pos (by rfl)]
      clear hs hJ
      go_simp
      exact hK _ _ (Below.refl _ _) ⟨ra, rn, rc, rfl, hr⟩
    refine grow.Each.cons ?_ ?_
    · intro A Wx hB hs hJ K hK
      obtain ⟨ra, rn, rc, s0, hr⟩ := hJ 16 32 (by kernel_rfl) (by kernel_rfl)
      simp at s0
      rw [if_pos (by rfl)]
      clear hs hJ
      go_simp
      exact hK _ _ (belowAlloc _ _) ⟨_, _, rfl, Nat.le_trans HB.out hB.size, heap_alloc_new _ _, hr.up (belowAlloc _ _)⟩
    refine grow.Each.cons ?_ ?_
    · intro A Wx hB hs hJ K hK
      obtain ⟨p, r, s0, hp, hc, hr⟩ := hJ 17 33 (by kernel_rfl) (by kernel_rfl)
      simp at s0
      rw [if_pos (by rfl)]
      clear hs hJ
      go_simp
      exact hK _ _ (Below.refl _ _) ⟨p, r, rfl, hp, hc, hr⟩
    exact grow.Each.nil
  case fin =>
    intro f Wx hB hF
    have f0 : f 0 = .pointer (some ⟨b', 0, none⟩) := hF 0 (by decide)
    have f1 : f 1 = .pointer (some ⟨b', 0, none⟩) := hF 1 (by decide)
    have f2 : f 2 = .pointer (some ⟨b', 0, none⟩) := hF 2 (by decide)
    have f3 : f 3 = .int .i64 a'.1 := hF 3 (by decide)
    have f4 : f 4 = .pointer (some ⟨b', 0, none⟩) := hF 4 (by decide)
    have f5 : f 5 = .pointer (some ⟨b', 0, none⟩) := hF 5 (by decide)
    have f6 : f 6 = .pointer (some ⟨b', 1, none⟩) := hF 6 (by decide)
    have f7 : f 7 = .int .i64 a'.2 := hF 7 (by decide)
    have f8 : f 8 = .int .i64 (IntKind.i64.wrap (a'.2 + 1)) := hF 8 (by decide)
    have f9 : f 9 = .pointer (some ⟨b, 0, none⟩) := hF 9 (by decide)
    obtain ⟨g_10, f10, hg_10, hk_10⟩ := hF 10 (by decide)
    have f11 : f 11 = .pointer (some ⟨b', 0, none⟩) := hF 11 (by decide)
    have f12 : f 12 = .pointer (some ⟨b', 0, none⟩) := hF 12 (by decide)
    have f13 : f 13 = .pointer (some ⟨b', 2, none⟩) := hF 13 (by decide)
    have f14 : f 14 = .slice ad ks'.length cd := hF 14 (by decide)
    obtain ⟨ra_15, rn_15, rc_15, f15, hr_15⟩ := hF 15 (by decide)
    obtain ⟨ra_16, rn_16, rc_16, f16, hr_16⟩ := hF 16 (by decide)
    obtain ⟨p_17, r_17, f17, hp_17, hc_17, hr_17⟩ := hF 17 (by decide)
    obtain ⟨p_18, r_18, f18, hp_18, hc_18, hr_18⟩ := hF 18 (by decide)
    clear hF
    generalize hA : grow.puts _ _ f _ = A'
    simp only [List.length_cons, List.length_nil, Nat.reduceAdd, grow.puts, Act.put, List.getElem?_toArray, List.getElem?_cons_zero, List.getElem?_cons_succ, Option.bind_some, List.setIfInBounds_toArray, List.set_cons_zero, List.set_cons_succ, f0, f1, f2, f3, f4, f5, f6, f7, f8, f9, f10, f11, f12, f13, f14, f15, f16, f17, f18] at hA
    subst hA
    have hF : Fo B Wx [some ⟨p_18, 0, none⟩] (over a' k' a k) := ⟨_, [], r_18, _, rfl, hp_18, hc_18, hr_18, ⟨b, ks', v, ks, rfl, HY.out.1, upb hB HY.out.2.1, HY.out.2.2.1.up hB, Fo.up hB HY.out.2.2.2, Fo.up hB HK.out⟩, rfl⟩
    have HF := Lib.hid hF
    have HBx := Lib.hid (belowTrans HbV.out hB)
    clear hF hB hp_18 hc_18 hr_18
    go_wp2_with fail
    go_ret
    exact ⟨_, rfl, HF.out, HBx.out⟩

theorem link_any (B : Nat) (w : World) (p p' : Option Addr) (a a' : Int × Int) (k k' : F) (hB : B ≤ w.heap.size) (h : Fo B w [p] (.node a k .nil)) (h' : Fo B w [p'] (.node a' k' .nil)) (hs : k.size + k'.size ≤ 17592186044000) :
    Calls Try.prog 101 #[.pointer p, .pointer p'] w fun e w' => ∃ p, e = .returned (.pointer p) ∧ Fo B w' [p] (lk a k a' k') ∧ Below w.heap.size w w' := by
  obtain ⟨b, rest, v, ks, e1, hBb, hb, hr, hk, _⟩ := h
  obtain ⟨b', rest', v', ks', e2, hBb', hb', hr', hk', _⟩ := h'
  obtain ⟨rfl, rfl⟩ := List.cons.inj e1
  obtain ⟨rfl, rfl⟩ := List.cons.inj e2
  unfold lk
  by_cases hlt : a'.1 < a.1
  · rw [if_pos hlt]
    exact link_gt B w b b' a a' k k' v v' ks ks' hB hBb hBb' hb hr hk hb' hr' hk' hlt hs
  · rw [if_neg hlt]
    exact link_le B w b b' a a' k k' v v' ks ks' hB hBb hBb' hb hr hk hb' hr' hk' hlt hs
end Go.Proofs.Ytnigadnjppeckaa.bino
