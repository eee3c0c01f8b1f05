/- Package bino: merged. (Printed by bj.py.) -/
import Derived.Test.YtnigadnjppeckaaBinoL
import Derived.Test.YtnigadnjppeckaaBinoN
namespace Go.Proofs.Ytnigadnjppeckaa.bino
open Go.RowKit

/-- what a call that hands back a forest leaves -/
def RetF (B : Nat) (w : World) (f : F) (e : Ending) (w' : World) : Prop := ∃ v ps, e = .returned v ∧ RowR B w' v ps ∧ Fo B w' ps f ∧ Below w.heap.size w w'
def kF (B : Nat) (f : F) : grow.Kept := ⟨fun v W => ∃ ra rn rc ps, v = .slice ra rn rc ∧ RowR B W (.slice ra rn rc) ps ∧ Fo B W ps f, fun _ _ _ hb ⟨a, n, c, ps, h1, h2, h3⟩ => ⟨a, n, c, ps, h1, h2.up hb, Fo.up hb h3⟩⟩
theorem kF_of {B : Nat} {f : F} {v : Value} {ps : List (Option Addr)} {W : World} (h : RowR B W v ps) (hf : Fo B W ps f) : (kF B f).q v W := by
  obtain ⟨a, c, rfl, h2⟩ := h
  exact ⟨a, _, c, ps, rfl, ⟨a, c, rfl, h2⟩, hf⟩
theorem RowR.cons {B : Nat} {W : World} {v : Value} {p : Option Addr} {rest : List (Option Addr)} (h : RowR B W v (p :: rest)) :
    ∃ g o n c, v = .slice (some ⟨g, o, none⟩) (n + 1) (c + 1) ∧ n = rest.length ∧ n ≤ c ∧ W.cell? ⟨g, o, none⟩ = some (.pointer p) ∧ RowR B W (.slice (if c = 0 then some ⟨g, o, none⟩ else some ⟨g, o + 1, none⟩) n c) rest ∧ True := by
  obtain ⟨a, c, rfl, ⟨h1, h2⟩, h3⟩ := h
  rcases h3 with h3 | ⟨g, o, rfl, hB, hc⟩
  · cases h3
  · rw [List.length_cons] at h2
    obtain ⟨c', rfl⟩ : ∃ c', c = c' + 1 := ⟨c - 1, by omega⟩
    refine ⟨g, o, rest.length, c', by rw [List.length_cons], rfl, by omega, by simpa using hc 0 (by simp), ?_, trivial⟩
    by_cases hz : c' = 0
    · have hr0 : rest = [] := List.eq_nil_of_length_eq_zero (by omega)
      rw [if_pos hz]
      exact ⟨_, _, rfl, ⟨(fun h => by cases h), by omega⟩, .inl hr0⟩
    · rw [if_neg hz]
      refine ⟨_, _, rfl, ⟨(fun h => by cases h), by omega⟩, .inr ⟨g, o + 1, rfl, hB, fun i hi => ?_⟩⟩
      have h := hc (i + 1) (by rw [List.length_cons]; omega)
      rw [show o + 1 + i = o + (i + 1) by omega, h]
      simp [List.getD_eq_getElem?_getD]

set_option maxHeartbeats 1000000 in
theorem merged_l (w : World) (a : Option Addr) (c : Nat) (vb : Value) : Calls Try.prog 62 #[.slice a 0 c, vb] w fun e w' => e = .returned vb ∧ w' = w := by
  go_enter Try.func62, Try.ntmps62
  go_wp2_with fail
  go_ret
  exact ⟨rfl, rfl⟩
set_option maxHeartbeats 1000000 in
theorem merged_r (w : World) (a : Option Addr) (n c : Nat) (b : Option Addr) (d : Nat) : Calls Try.prog 62 #[.slice a (n + 1) c, .slice b 0 d] w fun e w' => e = .returned (.slice a (n + 1) c) ∧ w' = w := by
  have h : (((n + 1 : Nat) : Int) == 0) = false := by simp; omega
  go_enter Try.func62, Try.ntmps62
  go_wp2_with fail
  go_ret
  exact ⟨rfl, rfl⟩

set_option maxRecDepth 100000 in
set_option maxHeartbeats 4000000 in
theorem merged_less (B : Nat) (w : World) (va vb : Value) (ps qs : List (Option Addr)) (a b : Int × Int) (ka sa kb sb fr : F) (hB : B ≤ w.heap.size) (hRa : RowR B w va ps) (hFa : Fo B w ps (.node a ka sa)) (hRb : RowR B w vb qs) (hFb : Fo B w qs (.node b kb sb)) (hlt : a.2 < b.2) (hfr : flen fr ≤ 17592186044000)
    (ih : ∀ (w : World) (va vb : Value) (ps qs : List (Option Addr)), B ≤ w.heap.size → RowR B w va ps → Fo B w ps sa → RowR B w vb qs → Fo B w qs (.node b kb sb) → Calls Try.prog 62 #[va, vb] w (RetF B w fr)) :
    Calls Try.prog 62 #[va, vb] w (RetF B w (.node a ka fr)) := by
  obtain ⟨ba, ra, va', ksa, e1, hBa, ha, hra, hka, hsa⟩ := hFa
  obtain ⟨bb, rb, vb', ksb, e2, hBb', hb, hrb, hkb, hsb⟩ := hFb
  subst e1
  subst e2
  obtain ⟨ga, oa, na, ca, rfl, hna, hnca, kga, hta, hta0⟩ := hRa.cons
  obtain ⟨gb, ob, nb, cb, rfl, hnb, hncb, kgb, htb, htb0⟩ := hRb.cons
  have r0 : w.cell? ⟨ba, 1, none⟩ = some (.int .i64 a.2) := by simp [World.cell?, ha]
  have r1 : w.cell? ⟨bb, 1, none⟩ = some (.int .i64 b.2) := by simp [World.cell?, hb]
  have z0 : (((na + 1 : Nat) : Int) == 0) = false := by simp; omega
  have z1 : (((nb + 1 : Nat) : Int) == 0) = false := by simp; omega
  have p0 : (0 : Int) < ((na + 1 : Nat) : Int) := by omega
  have p1 : (0 : Int) < ((nb + 1 : Nat) : Int) := by omega
  have d0 : decide (a.2 < b.2) = true := by simpa using hlt
  have d1 : decide (b.2 < a.2) = false := by simp; omega
  have Hna := Lib.hid hna
  have Hnb := Lib.hid hnb
  clear hna hnb
  have HA := Lib.hid (And.intro hBa (And.intro ha (And.intro hra (And.intro hka (And.intro hsa (And.intro hta (And.intro hta0 hRa)))))))
  have HBb := Lib.hid (And.intro hBb' (And.intro hb (And.intro hrb (And.intro hkb (And.intro hsb (And.intro htb (And.intro htb0 hRb)))))))
  have HB := Lib.hid hB
  clear hBa ha hra hka hsa hta hta0 hRa hBb' hb hrb hkb hsb htb htb0 hRb hB hlt
  go_enter Try.func62, Try.ntmps62
  go_wp2_with fail
  go_quiet (fail)
  go_wp2_with fail
  obtain ⟨V, hV⟩ : ∃ V, V = w.drewN nq := ⟨_, rfl⟩
  have hbV : Below w.heap.size w V := by rw [hV]; exact belowDrewN _ _
  rw [← hV]
  replace kga := upc hbV kga
  replace kgb := upc hbV kgb
  replace r0 := upc hbV r0
  replace r1 := upc hbV r1
  replace HA := Lib.hid (And.intro HA.out.1 (And.intro (upb hbV HA.out.2.1) (And.intro (HA.out.2.2.1.up hbV) (And.intro (Fo.up hbV HA.out.2.2.2.1) (And.intro (Fo.up hbV HA.out.2.2.2.2.1) (And.intro (HA.out.2.2.2.2.2.1.up hbV) (And.intro trivial (HA.out.2.2.2.2.2.2.2.up hbV))))))))
  replace HBb := Lib.hid (And.intro HBb.out.1 (And.intro (upb hbV HBb.out.2.1) (And.intro (HBb.out.2.2.1.up hbV) (And.intro (Fo.up hbV HBb.out.2.2.2.1) (And.intro (Fo.up hbV HBb.out.2.2.2.2.1) (And.intro (HBb.out.2.2.2.2.2.1.up hbV) (And.intro trivial (HBb.out.2.2.2.2.2.2.2.up hbV))))))))
  replace HB := Lib.hid (Nat.le_trans HB.out hbV.size)
  have HbV := Lib.hid hbV
  clear hV hbV
  refine grow.wp_grow [grow.kEq (.slice (some ⟨ga, oa, none⟩) (na + 1) (ca + 1)), grow.kEq (.pointer (some ⟨ga, oa, none⟩)), grow.kEq (.pointer (some ⟨ba, 0, none⟩)), kOneP B (some ⟨ba, 0, none⟩), grow.kEq (.slice (some ⟨ga, oa, none⟩) (na + 1) (ca + 1)), grow.kEq (.slice (if ca = 0 then some ⟨ga, oa, none⟩ else some ⟨ga, oa + 1, none⟩) na ca), grow.kEq (.slice (some ⟨gb, ob, none⟩) (nb + 1) (cb + 1)), kF B fr, kF B (.node a ka fr), kF B (.node a ka fr)] (by kernel_rfl) (by kernel_rfl) (by kernel_rfl) (by kernel_rfl) ?step ?fin
  case step =>
    refine grow.Each.cons ?_ ?_
    · intro A Wx hB hs hJ K hK
      have s0 := hs 0 (by kernel_rfl)
      simp at s0
      rw [if_pos (by rfl)]
      clear hs hJ
      go_simp
      exact hK _ _ (Below.refl _ _) rfl
    refine grow.Each.cons ?_ ?_
    · intro A Wx hB hs hJ K hK
      have s0 : A.tmps.getD 29 undef = .slice (some ⟨ga, oa, none⟩) (na + 1) (ca + 1) := hJ 0 29 (by kernel_rfl) (by kernel_rfl)
      simp at s0
      rw [if_pos (by rfl)]
      clear hs hJ
      go_simp
      exact hK _ _ (Below.refl _ _) rfl
    refine grow.Each.cons ?_ ?_
    · intro A Wx hB hs hJ K hK
      have s0 : A.tmps.getD 30 undef = .pointer (some ⟨ga, oa, none⟩) := hJ 1 30 (by kernel_rfl) (by kernel_rfl)
      simp at s0
      have kk := upc hB kga
      rw [if_pos (by rfl)]
      clear hs hJ
      go_simp
      exact hK _ _ (Below.refl _ _) rfl
    refine grow.Each.cons ?_ ?_
    · intro A Wx hB hs hJ K hK
      have s0 : A.tmps.getD 31 undef = .pointer (some ⟨ba, 0, none⟩) := hJ 2 31 (by kernel_rfl) (by kernel_rfl)
      simp at s0
      rw [if_pos (by rfl)]
      clear hs hJ
      go_simp
      exact hK _ _ (belowAlloc _ _) ⟨_, rfl, Nat.le_trans HB.out hB.size, heap_alloc_new _ _⟩
    refine grow.Each.cons ?_ ?_
    · intro A Wx hB hs hJ K hK
      have s0 := hs 0 (by kernel_rfl)
      simp at s0
      rw [if_pos (by rfl)]
      clear hs hJ
      go_simp
      exact hK _ _ (Below.refl _ _) rfl
    refine grow.Each.cons ?_ ?_
    · intro A Wx hB hs hJ K hK
      have s0 : A.tmps.getD 33 undef = .slice (some ⟨ga, oa, none⟩) (na + 1) (ca + 1) := hJ 4 33 (by kernel_rfl) (by kernel_rfl)
      simp at s0
      have hs1 : (1 : Int) ≤ (na : Int) + 1 := by omega
      rw [if_pos (by rfl)]
      clear hs hJ
      go_simp
      exact hK _ _ (Below.refl _ _) rfl
    refine grow.Each.cons ?_ ?_
    · intro A Wx hB hs hJ K hK
      have s0 := hs 1 (by kernel_rfl)
      simp at s0
      rw [if_pos (by rfl)]
      clear hs hJ
      go_simp
      exact hK _ _ (Below.refl _ _) rfl
    refine grow.Each.cons ?_ ?_
    · intro A Wx hB hs hJ K hK
      have s0 : A.tmps.getD 34 undef = .slice (if ca = 0 then some ⟨ga, oa, none⟩ else some ⟨ga, oa + 1, none⟩) na ca := hJ 5 34 (by kernel_rfl) (by kernel_rfl)
      simp at s0
      have s1 : A.tmps.getD 35 undef = .slice (some ⟨gb, ob, none⟩) (nb + 1) (cb + 1) := hJ 6 35 (by kernel_rfl) (by kernel_rfl)
      simp at s1
      rw [if_pos (by rfl)]
      clear hs hJ
      go_simp
      go_at_call 62
      refine (ih Wx _ _ _ _ (Nat.le_trans HB.out hB.size) (HA.out.2.2.2.2.2.1.up hB) (Fo.up hB HA.out.2.2.2.2.1) (HBb.out.2.2.2.2.2.2.2.up hB) ⟨bb, rb, vb', ksb, rfl, HBb.out.1, upb hB HBb.out.2.1, HBb.out.2.2.1.up hB, Fo.up hB HBb.out.2.2.2.1, Fo.up hB HBb.out.2.2.2.2.1⟩).mono ?_
      rintro e W2 ⟨v2, ps2, rfl, hr2, hf2, hbn⟩
      exact hK _ _ hbn (kF_of hr2 hf2)
    refine grow.Each.cons ?_ ?_
    · intro A Wx hB hs hJ K hK
      obtain ⟨g, s0, hg, hk⟩ := hJ 3 32 (by kernel_rfl) (by kernel_rfl)
      simp at s0
      obtain ⟨sa1, sn, sc, ps1, s1, hr, hf⟩ := hJ 7 36 (by kernel_rfl) (by kernel_rfl)
      simp at s1
      rw [if_pos (by rfl)]
      clear hs hJ
      obtain ⟨v1, W1, hrun, hrow1, hbn⟩ := app_one B Wx g (some ⟨ba, 0, none⟩) ps1 (.slice sa1 sn sc) _ hk hg hr (by have h1 := Fo.len hf; omega)
      refine Lib.wp_append_run Wx (.tmp 32) (.tmp 36) _ _ rfl _ _ (by show A.tmps.getD 32 undef = _; simpa using s0) (by show A.tmps.getD 36 undef = _; simpa using s1) v1 W1 hrun ?_
      exact hK _ _ hbn (kF_of hrow1 ⟨ba, ps1, va', ksa, rfl, HA.out.1, upb (belowTrans hB hbn) HA.out.2.1, HA.out.2.2.1.up (belowTrans hB hbn), Fo.up (belowTrans hB hbn) HA.out.2.2.2.1, Fo.up hbn hf⟩)
    refine grow.Each.cons ?_ ?_
    · intro A Wx hB hs hJ K hK
      obtain ⟨sa1, sn, sc, ps1, s0, hr, hf⟩ := hJ 8 37 (by kernel_rfl) (by kernel_rfl)
      simp at s0
      rw [if_pos (by rfl)]
      clear hs hJ
      go_simp
      exact hK _ _ (Below.refl _ _) ⟨sa1, sn, sc, ps1, rfl, hr, hf⟩
    exact grow.Each.nil
  case fin =>
    intro f Wx hB hF
    have f0 : f 0 = .slice (some ⟨ga, oa, none⟩) (na + 1) (ca + 1) := hF 0 (by decide)
    have f1 : f 1 = .pointer (some ⟨ga, oa, none⟩) := hF 1 (by decide)
    have f2 : f 2 = .pointer (some ⟨ba, 0, none⟩) := hF 2 (by decide)
    obtain ⟨g_3, f3, hg_3, hk_3⟩ := hF 3 (by decide)
    have f4 : f 4 = .slice (some ⟨ga, oa, none⟩) (na + 1) (ca + 1) := hF 4 (by decide)
    have f5 : f 5 = .slice (if ca = 0 then some ⟨ga, oa, none⟩ else some ⟨ga, oa + 1, none⟩) na ca := hF 5 (by decide)
    have f6 : f 6 = .slice (some ⟨gb, ob, none⟩) (nb + 1) (cb + 1) := hF 6 (by decide)
    obtain ⟨sa1_7, sn_7, sc_7, ps1_7, f7, hr_7, hf_7⟩ := hF 7 (by decide)
    obtain ⟨sa1_8, sn_8, sc_8, ps1_8, f8, hr_8, hf_8⟩ := hF 8 (by decide)
    obtain ⟨sa1_9, sn_9, sc_9, ps1_9, f9, hr_9, hf_9⟩ := hF 9 (by decide)
    clear hF
    generalize hA : grow.puts _ _ f _ = A'
    simp only [List.length_cons, List.length_nil, Nat.reduceAdd, grow.puts, Act.put, List.getElem?_toArray, List.getElem?_cons_zero, List.getElem?_cons_succ, Option.bind_some, List.setIfInBounds_toArray, List.set_cons_zero, List.set_cons_succ, f0, f1, f2, f3, f4, f5, f6, f7, f8, f9] at hA
    subst hA
    have HR9 := Lib.hid hr_9
    have HF9 := Lib.hid hf_9
    have HBx := Lib.hid (belowTrans HbV.out hB)
    clear hB hr_9 hf_9 hr_8 hf_8 hr_7 hf_7 hk_3 hg_3
    go_wp2_with fail
    all_goals go_ret
    all_goals exact ⟨_, _, rfl, HR9.out, HF9.out, HBx.out⟩

set_option maxRecDepth 100000 in
set_option maxHeartbeats 4000000 in
theorem merged_more (B : Nat) (w : World) (va vb : Value) (ps qs : List (Option Addr)) (a b : Int × Int) (ka sa kb sb fr : F) (hB : B ≤ w.heap.size) (hRa : RowR B w va ps) (hFa : Fo B w ps (.node a ka sa)) (hRb : RowR B w vb qs) (hFb : Fo B w qs (.node b kb sb)) (hlt : ¬ a.2 < b.2) (hgt : b.2 < a.2) (hfr : flen fr ≤ 17592186044000)
    (ih : ∀ (w : World) (va vb : Value) (ps qs : List (Option Addr)), B ≤ w.heap.size → RowR B w va ps → Fo B w ps (.node a ka sa) → RowR B w vb qs → Fo B w qs sb → Calls Try.prog 62 #[va, vb] w (RetF B w fr)) :
    Calls Try.prog 62 #[va, vb] w (RetF B w (.node b kb fr)) := by
  obtain ⟨ba, ra, va', ksa, e1, hBa, ha, hra, hka, hsa⟩ := hFa
  obtain ⟨bb, rb, vb', ksb, e2, hBb', hb, hrb, hkb, hsb⟩ := hFb
  subst e1
  subst e2
  obtain ⟨ga, oa, na, ca, rfl, hna, hnca, kga, hta, hta0⟩ := hRa.cons
  obtain ⟨gb, ob, nb, cb, rfl, hnb, hncb, kgb, htb, htb0⟩ := hRb.cons
  have r0 : w.cell? ⟨ba, 1, none⟩ = some (.int .i64 a.2) := by simp [World.cell?, ha]
  have r1 : w.cell? ⟨bb, 1, none⟩ = some (.int .i64 b.2) := by simp [World.cell?, hb]
  have z0 : (((na + 1 : Nat) : Int) == 0) = false := by simp; omega
  have z1 : (((nb + 1 : Nat) : Int) == 0) = false := by simp; omega
  have p0 : (0 : Int) < ((na + 1 : Nat) : Int) := by omega
  have p1 : (0 : Int) < ((nb + 1 : Nat) : Int) := by omega
  have d0 : decide (a.2 < b.2) = false := by simpa using hlt
  have d1 : decide (b.2 < a.2) = true := by simpa using hgt
  have Hna := Lib.hid hna
  have Hnb := Lib.hid hnb
  clear hna hnb
  have HA := Lib.hid (And.intro hBa (And.intro ha (And.intro hra (And.intro hka (And.intro hsa (And.intro hta (And.intro hta0 hRa)))))))
  have HBb := Lib.hid (And.intro hBb' (And.intro hb (And.intro hrb (And.intro hkb (And.intro hsb (And.intro htb (And.intro htb0 hRb)))))))
  have HB := Lib.hid hB
  clear hBa ha hra hka hsa hta hta0 hRa hBb' hb hrb hkb hsb htb htb0 hRb hB hlt
  go_enter Try.func62, Try.ntmps62
  go_wp2_with fail
  go_quiet (fail)
  go_wp2_with fail
  obtain ⟨V1, hV⟩ : ∃ V, V = w.drewN nq := ⟨_, rfl⟩
  have hbV : Below w.heap.size w V1 := by rw [hV]; exact belowDrewN _ _
  rw [← hV]
  replace kga := upc hbV kga
  replace kgb := upc hbV kgb
  replace r0 := upc hbV r0
  replace r1 := upc hbV r1
  replace HA := Lib.hid (And.intro HA.out.1 (And.intro (upb hbV HA.out.2.1) (And.intro (HA.out.2.2.1.up hbV) (And.intro (Fo.up hbV HA.out.2.2.2.1) (And.intro (Fo.up hbV HA.out.2.2.2.2.1) (And.intro (HA.out.2.2.2.2.2.1.up hbV) (And.intro trivial (HA.out.2.2.2.2.2.2.2.up hbV))))))))
  replace HBb := Lib.hid (And.intro HBb.out.1 (And.intro (upb hbV HBb.out.2.1) (And.intro (HBb.out.2.2.1.up hbV) (And.intro (Fo.up hbV HBb.out.2.2.2.1) (And.intro (Fo.up hbV HBb.out.2.2.2.2.1) (And.intro (HBb.out.2.2.2.2.2.1.up hbV) (And.intro trivial (HBb.out.2.2.2.2.2.2.2.up hbV))))))))
  replace HB := Lib.hid (Nat.le_trans HB.out hbV.size)
  have HbV := Lib.hid hbV
  clear hV hbV
  go_quiet (fail)
  go_wp2_with fail
  obtain ⟨V, hV⟩ : ∃ V, V = V1.drewN nq := ⟨_, rfl⟩
  have hbV : Below V1.heap.size V1 V := by rw [hV]; exact belowDrewN _ _
  rw [← hV]
  replace kga := upc hbV kga
  replace kgb := upc hbV kgb
  replace r0 := upc hbV r0
  replace r1 := upc hbV r1
  replace HA := Lib.hid (And.intro HA.out.1 (And.intro (upb hbV HA.out.2.1) (And.intro (HA.out.2.2.1.up hbV) (And.intro (Fo.up hbV HA.out.2.2.2.1) (And.intro (Fo.up hbV HA.out.2.2.2.2.1) (And.intro (HA.out.2.2.2.2.2.1.up hbV) (And.intro trivial (HA.out.2.2.2.2.2.2.2.up hbV))))))))
  replace HBb := Lib.hid (And.intro HBb.out.1 (And.intro (upb hbV HBb.out.2.1) (And.intro (HBb.out.2.2.1.up hbV) (And.intro (Fo.up hbV HBb.out.2.2.2.1) (And.intro (Fo.up hbV HBb.out.2.2.2.2.1) (And.intro (HBb.out.2.2.2.2.2.1.up hbV) (And.intro trivial (HBb.out.2.2.2.2.2.2.2.up hbV))))))))
  replace HB := Lib.hid (Nat.le_trans HB.out hbV.size)
  replace HbV := Lib.hid (belowTrans HbV.out hbV)
  clear hV hbV
  refine grow.wp_grow [grow.kEq (.slice (some ⟨gb, ob, none⟩) (nb + 1) (cb + 1)), grow.kEq (.pointer (some ⟨gb, ob, none⟩)), grow.kEq (.pointer (some ⟨bb, 0, none⟩)), kOneP B (some ⟨bb, 0, none⟩), grow.kEq (.slice (some ⟨ga, oa, none⟩) (na + 1) (ca + 1)), grow.kEq (.slice (some ⟨gb, ob, none⟩) (nb + 1) (cb + 1)), grow.kEq (.slice (if cb = 0 then some ⟨gb, ob, none⟩ else some ⟨gb, ob + 1, none⟩) nb cb), kF B fr, kF B (.node b kb fr), kF B (.node b kb fr)] (by kernel_rfl) (by kernel_rfl) (by kernel_rfl) (by kernel_rfl) ?step ?fin
  case step =>
    refine grow.Each.cons ?_ ?_
    · intro A Wx hB hs hJ K hK
      have s0 := hs 1 (by kernel_rfl)
      simp at s0
      rw [if_pos (by rfl)]
      clear hs hJ
      go_simp
      exact hK _ _ (Below.refl _ _) rfl
    refine grow.Each.cons ?_ ?_
    · intro A Wx hB hs hJ K hK
      have s0 : A.tmps.getD 52 undef = .slice (some ⟨gb, ob, none⟩) (nb + 1) (cb + 1) := hJ 0 52 (by kernel_rfl) (by kernel_rfl)
      simp at s0
      rw [if_pos (by rfl)]
      clear hs hJ
      go_simp
      exact hK _ _ (Below.refl _ _) rfl
    refine grow.Each.cons ?_ ?_
    · intro A Wx hB hs hJ K hK
      have s0 : A.tmps.getD 53 undef = .pointer (some ⟨gb, ob, none⟩) := hJ 1 53 (by kernel_rfl) (by kernel_rfl)
      simp at s0
      have kk := upc hB kgb
      rw [if_pos (by rfl)]
      clear hs hJ
      go_simp
      exact hK _ _ (Below.refl _ _) rfl
    refine grow.Each.cons ?_ ?_
    · intro A Wx hB hs hJ K hK
      have s0 : A.tmps.getD 54 undef = .pointer (some ⟨bb, 0, none⟩) := hJ 2 54 (by kernel_rfl) (by kernel_rfl)
      simp at s0
      rw [if_pos (by rfl)]
      clear hs hJ
      go_simp
      exact hK _ _ (belowAlloc _ _) ⟨_, rfl, Nat.le_trans HB.out hB.size, heap_alloc_new _ _⟩
    refine grow.Each.cons ?_ ?_
    · intro A Wx hB hs hJ K hK
      have s0 := hs 0 (by kernel_rfl)
      simp at s0
      rw [if_pos (by rfl)]
      clear hs hJ
      go_simp
      exact hK _ _ (Below.refl _ _) rfl
    refine grow.Each.cons ?_ ?_
    · intro A Wx hB hs hJ K hK
      have s0 := hs 1 (by kernel_rfl)
      simp at s0
      rw [if_pos (by rfl)]
      clear hs hJ
      go_simp
      exact hK _ _ (Below.refl _ _) rfl
    refine grow.Each.cons ?_ ?_
    · intro A Wx hB hs hJ K hK
      have s0 : A.tmps.getD 57 undef = .slice (some ⟨gb, ob, none⟩) (nb + 1) (cb + 1) := hJ 5 57 (by kernel_rfl) (by kernel_rfl)
      simp at s0
      have hs1 : (1 : Int) ≤ (nb : Int) + 1 := by omega
      rw [if_pos (by rfl)]
      clear hs hJ
      go_simp
      exact hK _ _ (Below.refl _ _) rfl
    refine grow.Each.cons ?_ ?_
    · intro A Wx hB hs hJ K hK
      have s0 : A.tmps.getD 56 undef = .slice (some ⟨ga, oa, none⟩) (na + 1) (ca + 1) := hJ 4 56 (by kernel_rfl) (by kernel_rfl)
      simp at s0
      have s1 : A.tmps.getD 58 undef = .slice (if cb = 0 then some ⟨gb, ob, none⟩ else some ⟨gb, ob + 1, none⟩) nb cb := hJ 6 58 (by kernel_rfl) (by kernel_rfl)
      simp at s1
      rw [if_pos (by rfl)]
      clear hs hJ
      go_simp
      go_at_call 62
      refine (ih Wx _ _ _ _ (Nat.le_trans HB.out hB.size) (HA.out.2.2.2.2.2.2.2.up hB) ⟨ba, ra, va', ksa, rfl, HA.out.1, upb hB HA.out.2.1, HA.out.2.2.1.up hB, Fo.up hB HA.out.2.2.2.1, Fo.up hB HA.out.2.2.2.2.1⟩ (HBb.out.2.2.2.2.2.1.up hB) (Fo.up hB HBb.out.2.2.2.2.1)).mono ?_
      rintro e W2 ⟨v2, ps2, rfl, hr2, hf2, hbn⟩
      exact hK _ _ hbn (kF_of hr2 hf2)
    refine grow.Each.cons ?_ ?_
    · intro A Wx hB hs hJ K hK
      obtain ⟨g, s0, hg, hk⟩ := hJ 3 55 (by kernel_rfl) (by kernel_rfl)
      simp at s0
      obtain ⟨sa1, sn, sc, ps1, s1, hr, hf⟩ := hJ 7 59 (by kernel_rfl) (by kernel_rfl)
      simp at s1
      rw [if_pos (by rfl)]
      clear hs hJ
      obtain ⟨v1, W1, hrun, hrow1, hbn⟩ := app_one B Wx g (some ⟨bb, 0, none⟩) ps1 (.slice sa1 sn sc) _ hk hg hr (by have h1 := Fo.len hf; omega)
      refine Lib.wp_append_run Wx (.tmp 55) (.tmp 59) _ _ rfl _ _ (by show A.tmps.getD 55 undef = _; simpa using s0) (by show A.tmps.getD 59 undef = _; simpa using s1) v1 W1 hrun ?_
      exact hK _ _ hbn (kF_of hrow1 ⟨bb, ps1, vb', ksb, rfl, HBb.out.1, upb (belowTrans hB hbn) HBb.out.2.1, HBb.out.2.2.1.up (belowTrans hB hbn), Fo.up (belowTrans hB hbn) HBb.out.2.2.2.1, Fo.up hbn hf⟩)
    refine grow.Each.cons ?_ ?_
    · intro A Wx hB hs hJ K hK
      obtain ⟨sa1, sn, sc, ps1, s0, hr, hf⟩ := hJ 8 60 (by kernel_rfl) (by kernel_rfl)
      simp at s0
      rw [if_pos (by rfl)]
      clear hs hJ
      go_simp
      exact hK _ _ (Below.refl _ _) ⟨sa1, sn, sc, ps1, rfl, hr, hf⟩
    exact grow.Each.nil
  case fin =>
    intro f Wx hB hF
    have f0 : f 0 = .slice (some ⟨gb, ob, none⟩) (nb + 1) (cb + 1) := hF 0 (by decide)
    have f1 : f 1 = .pointer (some ⟨gb, ob, none⟩) := hF 1 (by decide)
    have f2 : f 2 = .pointer (some ⟨bb, 0, none⟩) := hF 2 (by decide)
    obtain ⟨g_3, f3, hg_3, hk_3⟩ := hF 3 (by decide)
    have f4 : f 4 = .slice (some ⟨ga, oa, none⟩) (na + 1) (ca + 1) := hF 4 (by decide)
    have f5 : f 5 = .slice (some ⟨gb, ob, none⟩) (nb + 1) (cb + 1) := hF 5 (by decide)
    have f6 : f 6 = .slice (if cb = 0 then some ⟨gb, ob, none⟩ else some ⟨gb, ob + 1, none⟩) nb cb := hF 6 (by decide)
    obtain ⟨sa1_7, sn_7, sc_7, ps1_7, f7, hr_7, hf_7⟩ := hF 7 (by decide)
    obtain ⟨sa1_8, sn_8, sc_8, ps1_8, f8, hr_8, hf_8⟩ := hF 8 (by decide)
    obtain ⟨sa1_9, sn_9, sc_9, ps1_9, f9, hr_9, hf_9⟩ := hF 9 (by decide)
    clear hF
    generalize hA : grow.puts _ _ f _ = A'
    simp only [List.length_cons, List.length_nil, Nat.reduceAdd, grow.puts, Act.put, List.getElem?_toArray, List.getElem?_cons_zero, List.getElem?_cons_succ, Option.bind_some, List.setIfInBounds_toArray, List.set_cons_zero, List.set_cons_succ, f0, f1, f2, f3, f4, f5, f6, f7, f8, f9] at hA
    subst hA
    have HR9 := Lib.hid hr_9
    have HF9 := Lib.hid hf_9
    have HBx := Lib.hid (belowTrans HbV.out hB)
    clear hB hr_9 hf_9 hr_8 hf_8 hr_7 hf_7 hk_3 hg_3
    go_wp2_with fail
    all_goals go_ret
    all_goals exact ⟨_, _, rfl, HR9.out, HF9.out, HBx.out⟩
def kTr (B : Nat) (f : F) : grow.Kept := ⟨fun v W => ∃ q, v = .pointer q ∧ Fo B W [q] f, fun _ _ _ hb ⟨q, h1, h2⟩ => ⟨q, h1, Fo.up hb h2⟩⟩

set_option maxRecDepth 100000 in
set_option maxHeartbeats 4000000 in
theorem merged_both (B : Nat) (w : World) (va vb : Value) (ps qs : List (Option Addr)) (a b : Int × Int) (ka sa kb sb fr : F) (hB : B ≤ w.heap.size) (hRa : RowR B w va ps) (hFa : Fo B w ps (.node a ka sa)) (hRb : RowR B w vb qs) (hFb : Fo B w qs (.node b kb sb)) (hlt : ¬ a.2 < b.2) (hgt : ¬ b.2 < a.2) (f1 : F) (hsz : ka.size + kb.size ≤ 17592186044000)
    (ih1 : ∀ (w : World) (va vb : Value) (ps qs : List (Option Addr)), B ≤ w.heap.size → RowR B w va ps → Fo B w ps sa → RowR B w vb qs → Fo B w qs sb → Calls Try.prog 62 #[va, vb] w (RetF B w f1))
    (ih2 : ∀ (w : World) (va vb : Value) (ps qs : List (Option Addr)), B ≤ w.heap.size → RowR B w va ps → Fo B w ps (lk a ka b kb) → RowR B w vb qs → Fo B w qs f1 → Calls Try.prog 62 #[va, vb] w (RetF B w fr)) :
    Calls Try.prog 62 #[va, vb] w (RetF B w fr) := by
  obtain ⟨ba, ra, va', ksa, e1, hBa, ha, hra, hka, hsa⟩ := hFa
  obtain ⟨bb, rb, vb', ksb, e2, hBb', hb, hrb, hkb, hsb⟩ := hFb
  subst e1
  subst e2
  obtain ⟨ga, oa, na, ca, rfl, hna, hnca, kga, hta, hta0⟩ := hRa.cons
  obtain ⟨gb, ob, nb, cb, rfl, hnb, hncb, kgb, htb, htb0⟩ := hRb.cons
  have r0 : w.cell? ⟨ba, 1, none⟩ = some (.int .i64 a.2) := by simp [World.cell?, ha]
  have r1 : w.cell? ⟨bb, 1, none⟩ = some (.int .i64 b.2) := by simp [World.cell?, hb]
  have z0 : (((na + 1 : Nat) : Int) == 0) = false := by simp; omega
  have z1 : (((nb + 1 : Nat) : Int) == 0) = false := by simp; omega
  have p0 : (0 : Int) < ((na + 1 : Nat) : Int) := by omega
  have p1 : (0 : Int) < ((nb + 1 : Nat) : Int) := by omega
  have d0 : decide (a.2 < b.2) = false := by simpa using hlt
  have d1 : decide (b.2 < a.2) = false := by simpa using hgt
  have Hna := Lib.hid hna
  have Hnb := Lib.hid hnb
  clear hna hnb
  have HA := Lib.hid (And.intro hBa (And.intro ha (And.intro hra (And.intro hka (And.intro hsa (And.intro hta (And.intro hta0 hRa)))))))
  have HBb := Lib.hid (And.intro hBb' (And.intro hb (And.intro hrb (And.intro hkb (And.intro hsb (And.intro htb (And.intro htb0 hRb)))))))
  have HB := Lib.hid hB
  clear hBa ha hra hka hsa hta hta0 hRa hBb' hb hrb hkb hsb htb htb0 hRb hB hlt
  go_enter Try.func62, Try.ntmps62
  go_wp2_with fail
  go_quiet (fail)
  go_wp2_with fail
  obtain ⟨V1, hV⟩ : ∃ V, V = w.drewN nq := ⟨_, rfl⟩
  have hbV : Below w.heap.size w V1 := by rw [hV]; exact belowDrewN _ _
  rw [← hV]
  replace kga := upc hbV kga
  replace kgb := upc hbV kgb
  replace r0 := upc hbV r0
  replace r1 := upc hbV r1
  replace HA := Lib.hid (And.intro HA.out.1 (And.intro (upb hbV HA.out.2.1) (And.intro (HA.out.2.2.1.up hbV) (And.intro (Fo.up hbV HA.out.2.2.2.1) (And.intro (Fo.up hbV HA.out.2.2.2.2.1) (And.intro (HA.out.2.2.2.2.2.1.up hbV) (And.intro trivial (HA.out.2.2.2.2.2.2.2.up hbV))))))))
  replace HBb := Lib.hid (And.intro HBb.out.1 (And.intro (upb hbV HBb.out.2.1) (And.intro (HBb.out.2.2.1.up hbV) (And.intro (Fo.up hbV HBb.out.2.2.2.1) (And.intro (Fo.up hbV HBb.out.2.2.2.2.1) (And.intro (HBb.out.2.2.2.2.2.1.up hbV) (And.intro trivial (HBb.out.2.2.2.2.2.2.2.up hbV))))))))
  replace HB := Lib.hid (Nat.le_trans HB.out hbV.size)
  have HbV := Lib.hid hbV
  clear hV hbV
  go_quiet (fail)
  go_wp2_with fail
  obtain ⟨V, hV⟩ : ∃ V, V = V1.drewN nq := ⟨_, rfl⟩
  have hbV : Below V1.heap.size V1 V := by rw [hV]; exact belowDrewN _ _
  rw [← hV]
  replace kga := upc hbV kga
  replace kgb := upc hbV kgb
  replace r0 := upc hbV r0
  replace r1 := upc hbV r1
  replace HA := Lib.hid (And.intro HA.out.1 (And.intro (upb hbV HA.out.2.1) (And.intro (HA.out.2.2.1.up hbV) (And.intro (Fo.up hbV HA.out.2.2.2.1) (And.intro (Fo.up hbV HA.out.2.2.2.2.1) (And.intro (HA.out.2.2.2.2.2.1.up hbV) (And.intro trivial (HA.out.2.2.2.2.2.2.2.up hbV))))))))
  replace HBb := Lib.hid (And.intro HBb.out.1 (And.intro (upb hbV HBb.out.2.1) (And.intro (HBb.out.2.2.1.up hbV) (And.intro (Fo.up hbV HBb.out.2.2.2.1) (And.intro (Fo.up hbV HBb.out.2.2.2.2.1) (And.intro (HBb.out.2.2.2.2.2.1.up hbV) (And.intro trivial (HBb.out.2.2.2.2.2.2.2.up hbV))))))))
  replace HB := Lib.hid (Nat.le_trans HB.out hbV.size)
  replace HbV := Lib.hid (belowTrans HbV.out hbV)
  clear hV hbV
  refine grow.wp_grow [grow.kEq (.slice (some ⟨ga, oa, none⟩) (na + 1) (ca + 1)), grow.kEq (.pointer (some ⟨ga, oa, none⟩)), grow.kEq (.pointer (some ⟨ba, 0, none⟩)), grow.kEq (.slice (some ⟨gb, ob, none⟩) (nb + 1) (cb + 1)), grow.kEq (.pointer (some ⟨gb, ob, none⟩)), grow.kEq (.pointer (some ⟨bb, 0, none⟩)), kTr B (lk a ka b kb), kF B (lk a ka b kb), grow.kEq (.slice (some ⟨ga, oa, none⟩) (na + 1) (ca + 1)), grow.kEq (.slice (if ca = 0 then some ⟨ga, oa, none⟩ else some ⟨ga, oa + 1, none⟩) na ca), grow.kEq (.slice (some ⟨gb, ob, none⟩) (nb + 1) (cb + 1)), grow.kEq (.slice (if cb = 0 then some ⟨gb, ob, none⟩ else some ⟨gb, ob + 1, none⟩) nb cb), kF B f1, kF B fr, kF B fr] (by kernel_rfl) (by kernel_rfl) (by kernel_rfl) (by kernel_rfl) ?step ?fin
  case step =>
    refine grow.Each.cons ?_ ?_
    · intro A Wx hB hs hJ K hK
      have s0 := hs 0 (by kernel_rfl)
      simp at s0
      rw [if_pos (by rfl)]
      clear hs hJ
      go_simp
      exact hK _ _ (Below.refl _ _) rfl
    refine grow.Each.cons ?_ ?_
    · intro A Wx hB hs hJ K hK
      have s0 : A.tmps.getD 61 undef = .slice (some ⟨ga, oa, none⟩) (na + 1) (ca + 1) := hJ 0 61 (by kernel_rfl) (by kernel_rfl)
      simp at s0
      rw [if_pos (by rfl)]
      clear hs hJ
      go_simp
      exact hK _ _ (Below.refl _ _) rfl
    refine grow.Each.cons ?_ ?_
    · intro A Wx hB hs hJ K hK
      have s0 : A.tmps.getD 62 undef = .pointer (some ⟨ga, oa, none⟩) := hJ 1 62 (by kernel_rfl) (by kernel_rfl)
      simp at s0
      have kk := upc hB kga
      rw [if_pos (by rfl)]
      clear hs hJ
      go_simp
      exact hK _ _ (Below.refl _ _) rfl
    refine grow.Each.cons ?_ ?_
    · intro A Wx hB hs hJ K hK
      have s0 := hs 1 (by kernel_rfl)
      simp at s0
      rw [if_pos (by rfl)]
      clear hs hJ
      go_simp
      exact hK _ _ (Below.refl _ _) rfl
    refine grow.Each.cons ?_ ?_
    · intro A Wx hB hs hJ K hK
      have s0 : A.tmps.getD 64 undef = .slice (some ⟨gb, ob, none⟩) (nb + 1) (cb + 1) := hJ 3 64 (by kernel_rfl) (by kernel_rfl)
      simp at s0
      rw [if_pos (by rfl)]
      clear hs hJ
      go_simp
      exact hK _ _ (Below.refl _ _) rfl
    refine grow.Each.cons ?_ ?_
    · intro A Wx hB hs hJ K hK
      have s0 : A.tmps.getD 65 undef = .pointer (some ⟨gb, ob, none⟩) := hJ 4 65 (by kernel_rfl) (by kernel_rfl)
      simp at s0
      have kk := upc hB kgb
      rw [if_pos (by rfl)]
      clear hs hJ
      go_simp
      exact hK _ _ (Below.refl _ _) rfl
    refine grow.Each.cons ?_ ?_
    · intro A Wx hB hs hJ K hK
      have s0 : A.tmps.getD 63 undef = .pointer (some ⟨ba, 0, none⟩) := hJ 2 63 (by kernel_rfl) (by kernel_rfl)
      simp at s0
      have s1 : A.tmps.getD 66 undef = .pointer (some ⟨bb, 0, none⟩) := hJ 5 66 (by kernel_rfl) (by kernel_rfl)
      simp at s1
      rw [if_pos (by rfl)]
      clear hs hJ
      go_simp
      go_at_call 101
      refine (link_any B Wx _ _ a b ka kb (Nat.le_trans HB.out hB.size) ⟨ba, [], va', ksa, rfl, HA.out.1, upb hB HA.out.2.1, HA.out.2.2.1.up hB, Fo.up hB HA.out.2.2.2.1, rfl⟩ ⟨bb, [], vb', ksb, rfl, HBb.out.1, upb hB HBb.out.2.1, HBb.out.2.2.1.up hB, Fo.up hB HBb.out.2.2.2.1, rfl⟩ hsz).mono ?_
      rintro e W2 ⟨q, rfl, hq, hbn⟩
      exact hK _ _ hbn ⟨q, rfl, hq⟩
    refine grow.Each.cons ?_ ?_
    · intro A Wx hB hs hJ K hK
      obtain ⟨q, s0, hq⟩ := hJ 6 67 (by kernel_rfl) (by kernel_rfl)
      simp at s0
      rw [if_pos (by rfl)]
      clear hs hJ
      go_simp
      exact hK _ _ (belowAlloc _ _) ⟨_, 1, 1, [q], rfl, ⟨_, _, rfl, ⟨(fun h => by cases h), Nat.le_refl _⟩, .inr ⟨_, 0, rfl, ⟨Nat.le_trans HB.out hB.size, _, _, heap_alloc_new _ _⟩, fun i hi => by obtain rfl : i = 0 := (by simpa using hi); exact cell_of_one (heap_alloc_new _ _)⟩⟩, Fo.up (belowAlloc _ _) hq⟩
    refine grow.Each.cons ?_ ?_
    · intro A Wx hB hs hJ K hK
      have s0 := hs 0 (by kernel_rfl)
      simp at s0
      rw [if_pos (by rfl)]
      clear hs hJ
      go_simp
      exact hK _ _ (Below.refl _ _) rfl
    refine grow.Each.cons ?_ ?_
    · intro A Wx hB hs hJ K hK
      have s0 : A.tmps.getD 69 undef = .slice (some ⟨ga, oa, none⟩) (na + 1) (ca + 1) := hJ 8 69 (by kernel_rfl) (by kernel_rfl)
      simp at s0
      have hs1 : (1 : Int) ≤ (na : Int) + 1 := by omega
      rw [if_pos (by rfl)]
      clear hs hJ
      go_simp
      exact hK _ _ (Below.refl _ _) rfl
    refine grow.Each.cons ?_ ?_
    · intro A Wx hB hs hJ K hK
      have s0 := hs 1 (by kernel_rfl)
      simp at s0
      rw [if_pos (by rfl)]
      clear hs hJ
      go_simp
      exact hK _ _ (Below.refl _ _) rfl
    refine grow.Each.cons ?_ ?_
    · intro A Wx hB hs hJ K hK
      have s0 : A.tmps.getD 71 undef = .slice (some ⟨gb, ob, none⟩) (nb + 1) (cb + 1) := hJ 10 71 (by kernel_rfl) (by kernel_rfl)
      simp at s0
      have hs1 : (1 : Int) ≤ (nb : Int) + 1 := by omega
      rw [if_pos (by rfl)]
      clear hs hJ
      go_simp
      exact hK _ _ (Below.refl _ _) rfl
    refine grow.Each.cons ?_ ?_
    · intro A Wx hB hs hJ K hK
      have s0 : A.tmps.getD 70 undef = .slice (if ca = 0 then some ⟨ga, oa, none⟩ else some ⟨ga, oa + 1, none⟩) na ca := hJ 9 70 (by kernel_rfl) (by kernel_rfl)
      simp at s0
      have s1 : A.tmps.getD 72 undef = .slice (if cb = 0 then some ⟨gb, ob, none⟩ else some ⟨gb, ob + 1, none⟩) nb cb := hJ 11 72 (by kernel_rfl) (by kernel_rfl)
      simp at s1
      rw [if_pos (by rfl)]
      clear hs hJ
      go_simp
      go_at_call 62
      refine (ih1 Wx _ _ _ _ (Nat.le_trans HB.out hB.size) (HA.out.2.2.2.2.2.1.up hB) (Fo.up hB HA.out.2.2.2.2.1) (HBb.out.2.2.2.2.2.1.up hB) (Fo.up hB HBb.out.2.2.2.2.1)).mono ?_
      rintro e W2 ⟨v2, ps2, rfl, hr2, hf2, hbn⟩
      exact hK _ _ hbn (kF_of hr2 hf2)
    refine grow.Each.cons ?_ ?_
    · intro A Wx hB hs hJ K hK
      obtain ⟨sa1, sn, sc, ps1, s0, hr, hf⟩ := hJ 7 68 (by kernel_rfl) (by kernel_rfl)
      simp at s0
      obtain ⟨sa2, sn2, sc2, ps3, s1, hr2, hf2⟩ := hJ 12 73 (by kernel_rfl) (by kernel_rfl)
      simp at s1
      rw [if_pos (by rfl)]
      clear hs hJ
      go_simp
      go_at_call 62
      refine (ih2 Wx _ _ _ _ (Nat.le_trans HB.out hB.size) hr hf hr2 hf2).mono ?_
      rintro e W2 ⟨v2, ps2, rfl, hr2, hf2, hbn⟩
      exact hK _ _ hbn (kF_of hr2 hf2)
    refine grow.Each.cons ?_ ?_
    · intro A Wx hB hs hJ K hK
      obtain ⟨sa1, sn, sc, ps1, s0, hr, hf⟩ := hJ 13 74 (by kernel_rfl) (by kernel_rfl)
      simp at s0
      rw [if_pos (by rfl)]
      clear hs hJ
      go_simp
      exact hK _ _ (Below.refl _ _) ⟨sa1, sn, sc, ps1, rfl, hr, hf⟩
    exact grow.Each.nil
  case fin =>
    intro f Wx hB hF
    have f0 : f 0 = .slice (some ⟨ga, oa, none⟩) (na + 1) (ca + 1) := hF 0 (by decide)
    have f1 : f 1 = .pointer (some ⟨ga, oa, none⟩) := hF 1 (by decide)
    have f2 : f 2 = .pointer (some ⟨ba, 0, none⟩) := hF 2 (by decide)
    have f3 : f 3 = .slice (some ⟨gb, ob, none⟩) (nb + 1) (cb + 1) := hF 3 (by decide)
    have f4 : f 4 = .pointer (some ⟨gb, ob, none⟩) := hF 4 (by decide)
    have f5 : f 5 = .pointer (some ⟨bb, 0, none⟩) := hF 5 (by decide)
    obtain ⟨q_6, f6, hq_6⟩ := hF 6 (by decide)
    obtain ⟨sa1_7, sn_7, sc_7, ps1_7, f7, hr_7, hf_7⟩ := hF 7 (by decide)
    have f8 : f 8 = .slice (some ⟨ga, oa, none⟩) (na + 1) (ca + 1) := hF 8 (by decide)
    have f9 : f 9 = .slice (if ca = 0 then some ⟨ga, oa, none⟩ else some ⟨ga, oa + 1, none⟩) na ca := hF 9 (by decide)
    have f10 : f 10 = .slice (some ⟨gb, ob, none⟩) (nb + 1) (cb + 1) := hF 10 (by decide)
    have f11 : f 11 = .slice (if cb = 0 then some ⟨gb, ob, none⟩ else some ⟨gb, ob + 1, none⟩) nb cb := hF 11 (by decide)
    obtain ⟨sa2_12, sn2_12, sc2_12, ps3_12, f12, hr2_12, hf2_12⟩ := hF 12 (by decide)
    obtain ⟨sa1_13, sn_13, sc_13, ps1_13, f13, hr_13, hf_13⟩ := hF 13 (by decide)
    obtain ⟨sa1_14, sn_14, sc_14, ps1_14, f14, hr_14, hf_14⟩ := hF 14 (by decide)
    clear hF
    generalize hA : grow.puts _ _ f _ = A'
    simp only [List.length_cons, List.length_nil, Nat.reduceAdd, grow.puts, Act.put, List.getElem?_toArray, List.getElem?_cons_zero, List.getElem?_cons_succ, Option.bind_some, List.setIfInBounds_toArray, List.set_cons_zero, List.set_cons_succ, f0, f1, f2, f3, f4, f5, f6, f7, f8, f9, f10, f11, f12, f13, f14] at hA
    subst hA
    have HR9 := Lib.hid hr_14
    have HF9 := Lib.hid hf_14
    have HBx := Lib.hid (belowTrans HbV.out hB)
    clear hB hr_14 hf_14 hr_13 hf_13 hr2_12 hf2_12 hr_7 hf_7 hq_6
    go_wp2_with fail
    all_goals go_ret
    all_goals exact ⟨_, _, rfl, HR9.out, HF9.out, HBx.out⟩

theorem merged_ind (N : Nat) : ∀ fa fb : F, flen fa + flen fb ≤ N → fa.size + fb.size ≤ 17592186044000 → ∃ fr : F, fr.size = fa.size + fb.size ∧ flen fr ≤ flen fa + flen fb ∧ Both fa fb fr ∧
    ∀ (B : Nat) (w : World) (va vb : Value) (ps qs : List (Option Addr)), B ≤ w.heap.size → RowR B w va ps → Fo B w ps fa → RowR B w vb qs → Fo B w qs fb → Calls Try.prog 62 #[va, vb] w (RetF B w fr) := by
  induction N with
  | zero =>
    intro fa fb hN hS
    cases fa with
    | node _ _ _ => simp [flen] at hN
    | nil =>
      refine ⟨fb, by simp [BT.size], by simp [flen], Both.l fb, fun B w va vb ps qs hB hRa hFa hRb hFb => ?_⟩
      obtain rfl : ps = [] := hFa
      obtain ⟨a, c, rfl, _⟩ := hRa
      refine (merged_l w a c vb).mono ?_
      rintro e w' ⟨rfl, rfl⟩
      exact ⟨vb, qs, rfl, hRb, hFb, Below.refl _ _⟩
  | succ N ih =>
    intro fa fb hN hS
    cases fa with
    | nil =>
      refine ⟨fb, by simp [BT.size], by simp [flen], Both.l fb, fun B w va vb ps qs hB hRa hFa hRb hFb => ?_⟩
      obtain rfl : ps = [] := hFa
      obtain ⟨a, c, rfl, _⟩ := hRa
      refine (merged_l w a c vb).mono ?_
      rintro e w' ⟨rfl, rfl⟩
      exact ⟨vb, qs, rfl, hRb, hFb, Below.refl _ _⟩
    | node a ka sa =>
      cases fb with
      | nil =>
        refine ⟨.node a ka sa, by simp [BT.size], by simp [flen], Both.r _, fun B w va vb ps qs hB hRa hFa hRb hFb => ?_⟩
        obtain rfl : qs = [] := hFb
        obtain ⟨b, d, rfl, _⟩ := hRb
        have hl := Fo.len hFa
        have hRa' := hRa
        obtain ⟨a0, c0, rfl, _⟩ := hRa'
        obtain ⟨n, hn⟩ : ∃ n, ps.length = n + 1 := ⟨flen sa, by rw [hl]; rfl⟩
        rw [hn] at hRa ⊢
        refine (merged_r w a0 n c0 b d).mono ?_
        rintro e w' ⟨rfl, rfl⟩
        exact ⟨_, ps, rfl, hRa, hFa, Below.refl _ _⟩
      | node b kb sb =>
        simp only [flen] at hN
        simp only [BT.size] at hS
        have z1 := flen_size sa
        have z2 := flen_size sb
        by_cases hlt : a.2 < b.2
        · obtain ⟨f1, h1, h2, hQ1, h3⟩ := ih sa (.node b kb sb) (by simp only [flen]; omega) (by simp only [BT.size]; omega)
          simp only [BT.size] at h1
          simp only [flen] at h2
          refine ⟨.node a ka f1, by simp only [BT.size]; omega, by simp only [flen]; omega, hQ1.less, fun B w va vb ps qs hB hRa hFa hRb hFb => ?_⟩
          exact merged_less B w va vb ps qs a b ka sa kb sb f1 hB hRa hFa hRb hFb hlt (by omega) (fun w va vb ps qs => h3 B w va vb ps qs)
        · by_cases hgt : b.2 < a.2
          · obtain ⟨f1, h1, h2, hQ1, h3⟩ := ih (.node a ka sa) sb (by simp only [flen]; omega) (by simp only [BT.size]; omega)
            simp only [BT.size] at h1
            simp only [flen] at h2
            refine ⟨.node b kb f1, by simp only [BT.size]; omega, by simp only [flen]; omega, hQ1.more, fun B w va vb ps qs hB hRa hFa hRb hFb => ?_⟩
            exact merged_more B w va vb ps qs a b ka sa kb sb f1 hB hRa hFa hRb hFb hlt hgt (by omega) (fun w va vb ps qs => h3 B w va vb ps qs)
          · obtain ⟨f1, h1, h2, hQ1, h3⟩ := ih sa sb (by omega) (by omega)
            have g1 := lk_size a ka b kb
            have g2 := lk_flen a ka b kb
            obtain ⟨fr, h4, h5, hQ2, h6⟩ := ih (lk a ka b kb) f1 (by omega) (by omega)
            refine ⟨fr, by simp only [BT.size]; omega, by simp only [flen]; omega, hQ1.both hQ2, fun B w va vb ps qs hB hRa hFa hRb hFb => ?_⟩
            exact merged_both B w va vb ps qs a b ka sa kb sb fr hB hRa hFa hRb hFb hlt hgt f1 (by omega) (fun w va vb ps qs => h3 B w va vb ps qs) (fun w va vb ps qs => h6 B w va vb ps qs)
theorem merged_any (fa fb : F) (hS : fa.size + fb.size ≤ 17592186044000) : ∃ fr : F, fr.size = fa.size + fb.size ∧ Both fa fb fr ∧
    ∀ (B : Nat) (w : World) (va vb : Value) (ps qs : List (Option Addr)), B ≤ w.heap.size → RowR B w va ps → Fo B w ps fa → RowR B w vb qs → Fo B w qs fb → Calls Try.prog 62 #[va, vb] w (RetF B w fr) := by
  obtain ⟨fr, h1, _, hQ, h3⟩ := merged_ind _ fa fb (Nat.le_refl _) hS
  exact ⟨fr, h1, hQ, h3⟩
end Go.Proofs.Ytnigadnjppeckaa.bino
