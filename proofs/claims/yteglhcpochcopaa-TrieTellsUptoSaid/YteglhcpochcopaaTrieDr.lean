/- trie.node.drop. -/
import Derived.Test.YteglhcpochcopaaTrieV
import Derived.BigQuiet
import Derived.BigRegion
namespace Go.Proofs.Yteglhcpochcopaa.trie
open Go.RowKit

theorem drop_nil (w : World) (s : Wd) : Calls Try.prog 24 #[.pointer none, sv s] w (RetT w .nil) := by
  obtain ⟨xs, hxs⟩ : ∃ xs, xs = sv s := ⟨_, rfl⟩
  rw [← hxs]
  clear hxs
  go_enter Try.func24, Try.ntmps24
  go_wp2_with fail
  go_ret
  exact ⟨none, rfl, rfl, Below.refl _ _⟩
set_option maxRecDepth 100000 in
set_option maxHeartbeats 4000000 in
theorem drop_end (w : World) (b : Nat) (v : Option Int) (n : Int) (k : UInt8 → TT) (h : NodeAt w b v n k) (hc : cnt (.node none k) < 9223372036854775808) :
    Calls Try.prog 24 #[.pointer (some ⟨b, 0, none⟩), sv []] w (RetT w (mk none k)) := by
  obtain ⟨mo, f, hb, hm, hk⟩ := h
  unfold nodeC at hb
  obtain ⟨h0, hh0⟩ : ∃ x, x = v.isSome := ⟨_, rfl⟩
  obtain ⟨x0, hx0⟩ : ∃ x, x = v.getD 0 := ⟨_, rfl⟩
  rw [← hh0, ← hx0] at hb
  clear hh0 hx0
  have c0 := nodeC0 hb
  have c1 := nodeC1 hb
  have c2 := nodeC2 hb
  have c3 := nodeC3 hb
  obtain ⟨V, hV⟩ : ∃ V, V = w.alloc (.cells #[.int .i64 0, .int .i64 n, .bool false, .map mo] 50) := ⟨_, rfl⟩
  have hBV : Below w.heap.size w V := by rw [hV]; exact belowAlloc w _
  have HC := Lib.hid (counted_any V none n mo f k (hm.up hBV) (fun c => (hk c).up hBV) hc)
  rw [show (none : Option Int).getD 0 = 0 from rfl, show (none : Option Int).isSome = false from rfl] at HC
  have HV := Lib.hid (And.intro hBV hV)
  have he := sv_eql_nil
  have hgd := fun x y => sv_guard .eql 9 x y [] { data := #[] }
  obtain ⟨xs, hxs⟩ : ∃ xs, xs = sv [] := ⟨_, rfl⟩
  rw [← hxs] at he ⊢
  simp only [← hxs] at hgd
  clear hBV hV hxs hb hm hk hc
  go_enter Try.func24, Try.ntmps24
  go_wp2_with fail
  rw [← HV.out.2]
  go_wp2_with fail
  refine HC.out.mono ?_
  rintro e w6 ⟨p6, rfl, h6, hb6⟩
  have H6 := Lib.hid (And.intro h6 hb6)
  clear h6 hb6 HC
  go_wp2_with fail
  go_ret
  exact ⟨p6, rfl, H6.out.1, belowTrans HV.out.1 H6.out.2⟩
set_option maxRecDepth 100000 in
set_option maxHeartbeats 4000000 in
theorem drop_none (w : World) (b : Nat) (v : Option Int) (n : Int) (k : UInt8 → TT) (c : UInt8) (s : Wd) (h : NodeAt w b v n k) (hin : In w (.node v k) (some ⟨b, 0, none⟩)) (hkc : k c = .nil) :
    Calls Try.prog 24 #[.pointer (some ⟨b, 0, none⟩), sv (c :: s)] w (RetT w (.node v k)) := by
  obtain ⟨mo, ff, hb, hm, hk⟩ := h
  unfold nodeC at hb
  have hfc : ff c = none := by have := hk c; rw [hkc] at this; exact this
  have hlk : ∀ W, Below w.heap.size w W → (Instr.lookup 48 (.map mo) (bv c) false).run Try.prog W = .ok (.pointer none) W := fun W hW => by rw [← hfc]; exact look (hm.up hW) c
  have HI := Lib.hid hin
  have c3 := nodeC3 hb
  have hix := sv_idx c s
  have he := sv_eql_cons c s
  have hgd := fun x y => sv_guard .eql 9 x y (c :: s) { data := #[] }
  obtain ⟨xs, hxs⟩ : ∃ xs, xs = sv (c :: s) := ⟨_, rfl⟩
  obtain ⟨cv, hcv⟩ : ∃ cv, cv = bv c := ⟨_, rfl⟩
  simp only [← hxs] at hgd
  simp only [← hxs] at hix he ⊢
  simp only [← hcv] at hix hlk
  have hl1 := hlk w (Below.refl _ _)
  have hl2 := hlk w.drew (belowDrew w)
  have hl3 := fun n => hlk (w.drewN n) (belowDrewN w n)
  clear hxs hcv hb hm hk hkc hfc hin hlk
  go_enter Try.func24, Try.ntmps24
  go_wp2_with fail
  go_quiet (fail)
  go_wp2_with fail
  go_ret
  exact ⟨_, rfl, HI.out.up (belowDrewN w nq), belowDrewN w nq⟩
set_option maxRecDepth 100000 in
set_option maxHeartbeats 8000000 in
theorem drop_step (w : World) (b : Nat) (v : Option Int) (n : Int) (k : UInt8 → TT) (c : UInt8) (s : Wd) (h : NodeAt w b v n k) (hkn : k c ≠ .nil) (hc : cnt (.node v k) < 9223372036854775808) (ih : ∀ (t : TT) (p : Option Addr) (W : World), In W t p → cnt t < 9223372036854775808 → Calls Try.prog 24 #[.pointer p, sv s] W (RetT W (drop t s))) :
    Calls Try.prog 24 #[.pointer (some ⟨b, 0, none⟩), sv (c :: s)] w (RetT w (mk v (upd k c (drop (k c) s)))) := by
  have HN := Lib.hid h
  obtain ⟨mo, ff, hb, hm, hk⟩ := h
  unfold nodeC at hb
  have hik := hk c
  have hlt : cnt (.node v (upd k c (drop (k c) s))) < 9223372036854775808 := by
    have h1 := cnt_upd v k c (drop (k c) s)
    have h2 := cnt_drop (k c) s
    omega
  have hkc : cnt (k c) < 9223372036854775808 := Nat.lt_of_le_of_lt (kid_le v k c) hc
  obtain ⟨pk, hpk⟩ : ∃ pk, pk = ff c := ⟨_, rfl⟩
  rw [← hpk] at hik
  obtain ⟨qk, rfl⟩ : ∃ q, pk = some q := by
    cases hp : pk with
    | none => rw [hp] at hik; exact absurd hik.isnil hkn
    | some q => exact ⟨q, rfl⟩
  have HE := Lib.hid (And.intro hb (And.intro hm (And.intro hik (And.intro hkc hlt))))
  have hlk : ∀ W, Below w.heap.size w W → (Instr.lookup 48 (.map mo) (bv c) false).run Try.prog W = .ok (.pointer (some qk)) W := fun W hW => by rw [hpk]; exact look (hm.up hW) c
  have c3 := nodeC3 hb
  have hix := sv_idx c s
  have hsl := sv_tail c s
  have he := sv_eql_cons c s
  have hgd := fun x y => sv_guard .eql 9 x y (c :: s) { data := #[] }
  obtain ⟨xs, hxs⟩ : ∃ xs, xs = sv (c :: s) := ⟨_, rfl⟩
  obtain ⟨ys, hys⟩ : ∃ ys, ys = sv s := ⟨_, rfl⟩
  obtain ⟨cv, hcv⟩ : ∃ cv, cv = bv c := ⟨_, rfl⟩
  simp only [← hxs] at hgd
  simp only [← hxs] at hix hsl he ⊢
  simp only [← hys] at hsl ih
  simp only [← hcv] at hix hlk
  have hw : ∀ W p1, Below w.heap.size w W → In W (drop (k c) s) p1 → Calls Try.prog 27 #[.pointer (some ⟨b, 0, none⟩), cv, .pointer p1] W (RetT W (mk v (upd k c (drop (k c) s)))) := fun W p1 hB h1 => by rw [hcv]; exact with_any W b v n k c _ p1 (NodeAt.up HN.out hB) h1 hlt
  have HX := Lib.hid (And.intro hw ih)
  have hl1 := hlk w (Below.refl _ _)
  have hl2 := hlk w.drew (belowDrew w)
  have hl3 := fun n => hlk (w.drewN n) (belowDrewN w n)
  have HL := Lib.hid hlk
  clear hw hxs hys hcv ih hb hm hk hik hkc hlt hlk hpk hkn hc
  go_enter Try.func24, Try.ntmps24
  go_wp2_with fail
  go_quiet (fail)
  have HBV := Lib.hid (belowDrewN w nq)
  obtain ⟨V, hV⟩ : ∃ V, V = w.drewN nq := ⟨_, rfl⟩
  rw [← hV] at HBV ⊢
  clear hV hl1 hl2 hl3 c3
  go_wp2_with fail
  refine grow.wp_grow [grow.kEq (.pointer (some ⟨b, 0, none⟩)), grow.kEq (xs), grow.kEq (cv), grow.kEq (.pointer (some ⟨b, 0, none⟩)), grow.kEq (.pointer (some ⟨b, 0, none⟩)), grow.kEq (.pointer (some ⟨b, 3, none⟩)), grow.kEq (.map mo), grow.kEq (xs), grow.kEq (cv), grow.kEq (.pointer (some qk)), grow.kEq (xs), grow.kEq (ys), kIn (drop (k c) s), kIn (mk v (upd k c (drop (k c) s))), kIn (mk v (upd k c (drop (k c) s)))] (by kernel_rfl) (by kernel_rfl) (by kernel_rfl) (by kernel_rfl) ?step ?fin
  case step =>
    refine grow.Each.cons ?_ ?_
    · intro A W hB hs hJ K hK
      have s0 := hs 0 (by kernel_rfl)
      simp at s0
      rw [if_pos (by rfl)]
      clear hs hJ
      go_simp
      exact hK _ _ (Below.refl _ _) rfl
    refine grow.Each.cons ?_ ?_
    · intro A W hB hs hJ K hK
      have s0 := hs 1 (by kernel_rfl)
      simp at s0
      rw [if_pos (by rfl)]
      clear hs hJ
      go_simp
      exact hK _ _ (Below.refl _ _) rfl
    refine grow.Each.cons ?_ ?_
    · intro A W hB hs hJ K hK
      have s0 : A.tmps.getD 30 undef = xs := hJ 1 30 (by kernel_rfl) (by kernel_rfl)
      simp at s0
      rw [if_pos (by rfl)]
      clear hs hJ
      go_simp
      exact hK _ _ (Below.refl _ _) rfl
    refine grow.Each.cons ?_ ?_
    · intro A W hB hs hJ K hK
      have s0 := hs 0 (by kernel_rfl)
      simp at s0
      rw [if_pos (by rfl)]
      clear hs hJ
      go_simp
      exact hK _ _ (Below.refl _ _) rfl
    refine grow.Each.cons ?_ ?_
    · intro A W hB hs hJ K hK
      have s0 : A.tmps.getD 32 undef = .pointer (some ⟨b, 0, none⟩) := hJ 3 32 (by kernel_rfl) (by kernel_rfl)
      simp at s0
      rw [if_pos (by rfl)]
      clear hs hJ
      go_simp
      exact hK _ _ (Below.refl _ _) rfl
    refine grow.Each.cons ?_ ?_
    · intro A W hB hs hJ K hK
      have s0 : A.tmps.getD 33 undef = .pointer (some ⟨b, 0, none⟩) := hJ 4 33 (by kernel_rfl) (by kernel_rfl)
      simp at s0
      rw [if_pos (by rfl)]
      clear hs hJ
      go_simp
      exact hK _ _ (Below.refl _ _) rfl
    refine grow.Each.cons ?_ ?_
    · intro A W hB hs hJ K hK
      have s0 : A.tmps.getD 34 undef = .pointer (some ⟨b, 3, none⟩) := hJ 5 34 (by kernel_rfl) (by kernel_rfl)
      simp at s0
      have kk := upc (belowTrans HBV.out hB) (nodeC3 HE.out.1)
      rw [if_pos (by rfl)]
      clear hs hJ
      go_simp
      exact hK _ _ (Below.refl _ _) rfl
    refine grow.Each.cons ?_ ?_
    · intro A W hB hs hJ K hK
      have s0 := hs 1 (by kernel_rfl)
      simp at s0
      rw [if_pos (by rfl)]
      clear hs hJ
      go_simp
      exact hK _ _ (Below.refl _ _) rfl
    refine grow.Each.cons ?_ ?_
    · intro A W hB hs hJ K hK
      have s0 : A.tmps.getD 36 undef = xs := hJ 7 36 (by kernel_rfl) (by kernel_rfl)
      simp at s0
      rw [if_pos (by rfl)]
      clear hs hJ
      go_simp
      exact hK _ _ (Below.refl _ _) rfl
    refine grow.Each.cons ?_ ?_
    · intro A W hB hs hJ K hK
      have s0 : A.tmps.getD 35 undef = .map mo := hJ 6 35 (by kernel_rfl) (by kernel_rfl)
      simp at s0
      have s1 : A.tmps.getD 37 undef = cv := hJ 8 37 (by kernel_rfl) (by kernel_rfl)
      simp at s1
      have hl := HL.out W (belowTrans HBV.out hB)
      rw [if_pos (by rfl)]
      clear hs hJ
      go_simp
      exact hK _ _ (Below.refl _ _) rfl
    refine grow.Each.cons ?_ ?_
    · intro A W hB hs hJ K hK
      have s0 := hs 1 (by kernel_rfl)
      simp at s0
      rw [if_pos (by rfl)]
      clear hs hJ
      go_simp
      exact hK _ _ (Below.refl _ _) rfl
    refine grow.Each.cons ?_ ?_
    · intro A W hB hs hJ K hK
      have s0 : A.tmps.getD 39 undef = xs := hJ 10 39 (by kernel_rfl) (by kernel_rfl)
      simp at s0
      rw [if_pos (by rfl)]
      clear hs hJ
      go_simp
      exact hK _ _ (Below.refl _ _) rfl
    refine grow.Each.cons ?_ ?_
    · intro A W hB hs hJ K hK
      have s0 : A.tmps.getD 38 undef = .pointer (some qk) := hJ 9 38 (by kernel_rfl) (by kernel_rfl)
      simp at s0
      have s1 : A.tmps.getD 40 undef = ys := hJ 11 40 (by kernel_rfl) (by kernel_rfl)
      simp at s1
      rw [if_pos (by rfl)]
      clear hs hJ
      go_simp
      go_at_call 24
      refine (HX.out.2 _ _ W (HE.out.2.2.1.up (belowTrans HBV.out hB)) HE.out.2.2.2.1).mono ?_
      rintro e W2 ⟨q1, rfl, hq1, hb1⟩
      exact hK _ _ hb1 ⟨q1, rfl, hq1⟩
    refine grow.Each.cons ?_ ?_
    · intro A W hB hs hJ K hK
      have s0 : A.tmps.getD 29 undef = .pointer (some ⟨b, 0, none⟩) := hJ 0 29 (by kernel_rfl) (by kernel_rfl)
      simp at s0
      have s1 : A.tmps.getD 31 undef = cv := hJ 2 31 (by kernel_rfl) (by kernel_rfl)
      simp at s1
      obtain ⟨p1, s2, h1⟩ := hJ 12 41 (by kernel_rfl) (by kernel_rfl)
      simp at s2
      rw [if_pos (by rfl)]
      clear hs hJ
      go_simp
      go_at_call 27
      refine (HX.out.1 W p1 (belowTrans HBV.out hB) h1).mono ?_
      rintro e W2 ⟨q1, rfl, hq1, hb1⟩
      exact hK _ _ hb1 ⟨q1, rfl, hq1⟩
    refine grow.Each.cons ?_ ?_
    · intro A W hB hs hJ K hK
      obtain ⟨p2, s0, h2⟩ := hJ 13 42 (by kernel_rfl) (by kernel_rfl)
      simp at s0
      rw [if_pos (by rfl)]
      clear hs hJ
      go_simp
      exact hK _ _ (Below.refl _ _) ⟨p2, rfl, h2⟩
    exact grow.Each.nil
  case fin =>
    intro f W hB hF
    have f0 : f 0 = .pointer (some ⟨b, 0, none⟩) := hF 0 (by decide)
    have f1 : f 1 = xs := hF 1 (by decide)
    have f2 : f 2 = cv := hF 2 (by decide)
    have f3 : f 3 = .pointer (some ⟨b, 0, none⟩) := hF 3 (by decide)
    have f4 : f 4 = .pointer (some ⟨b, 0, none⟩) := hF 4 (by decide)
    have f5 : f 5 = .pointer (some ⟨b, 3, none⟩) := hF 5 (by decide)
    have f6 : f 6 = .map mo := hF 6 (by decide)
    have f7 : f 7 = xs := hF 7 (by decide)
    have f8 : f 8 = cv := hF 8 (by decide)
    have f9 : f 9 = .pointer (some qk) := hF 9 (by decide)
    have f10 : f 10 = xs := hF 10 (by decide)
    have f11 : f 11 = ys := hF 11 (by decide)
    obtain ⟨p1_12, f12, -⟩ := hF 12 (by decide)
    obtain ⟨p2_13, f13, -⟩ := hF 13 (by decide)
    obtain ⟨p3_14, f14, h3_14⟩ := hF 14 (by decide)
    clear hF
    generalize hA : grow.puts _ _ f _ = A'
    simp only [List.length_cons, List.length_nil, Nat.reduceAdd, grow.puts, Act.put, List.getElem?_toArray, List.getElem?_cons_zero, List.getElem?_cons_succ, Option.bind_some, List.setIfInBounds_toArray, List.set_cons_zero, List.set_cons_succ, f0, f1, f2, f3, f4, f5, f6, f7, f8, f9, f10, f11, f12, f13, f14] at hA
    subst hA
    have H3 := Lib.hid (And.intro h3_14 hB)
    clear h3_14 hB
    go_wp2_with fail
    go_ret
    exact ⟨_, rfl, H3.out.1, belowTrans HBV.out H3.out.2⟩
theorem drop_any (s : Wd) : ∀ (t : TT) (p : Option Addr) (w : World), In w t p → cnt t < 9223372036854775808 → Calls Try.prog 24 #[.pointer p, sv s] w (RetT w (drop t s)) := by
  induction s with
  | nil =>
    intro t p w h hc
    cases t with
    | nil => obtain rfl : p = none := h; exact drop_nil w []
    | node v k =>
      obtain ⟨b, rfl, hn⟩ := h.node
      refine drop_end w b v _ k hn ?_
      have e1 := cnt_node v k
      have e2 := cnt_node none k
      simp at e2
      omega
  | cons c s ih =>
    intro t p w h hc
    cases t with
    | nil => obtain rfl : p = none := h; exact drop_nil w (c :: s)
    | node v k =>
      obtain ⟨b, rfl, hn⟩ := h.node
      by_cases hkc : k c = .nil
      · have e : drop (.node v k) (c :: s) = .node v k := by simp only [drop, hkc]
        rw [e]
        exact drop_none w b v _ k c s hn h hkc
      · have e : drop (.node v k) (c :: s) = mk v (upd k c (drop (k c) s)) := by
          cases hk : k c with
          | nil => exact absurd hk hkc
          | node v' k' => simp only [drop, hk]
        rw [e]
        exact drop_step w b v _ k c s hn hkc hc ih
set_option maxHeartbeats 4000000 in
theorem Drop_any (w : World) (p : Option Addr) (t : TT) (s : Wd) (h : In w t p) (hc : cnt t < 9223372036854775808) :
    Calls Try.prog 17 #[.agg #[.pointer p], sv s] w (RetM w (drop t s)) := by
  have h1 := belowTrans (belowAlloc w (.cells #[.pointer p] 26)) (belowAlloc _ (.cells #[.pointer none] 26))
  have hz := heapNew2 w (.cells #[.pointer p] 26) (.cells #[.pointer none] 26)
  have hz0 := heapNew1 w (.cells #[.pointer p] 26) (.cells #[.pointer none] 26)
  obtain ⟨W, hW⟩ : ∃ W, W = (w.alloc (.cells #[.pointer p] 26)).alloc (.cells #[.pointer none] 26) := ⟨_, rfl⟩
  rw [← hW] at h1 hz hz0
  have kz := cell_of_one hz0
  have HC := Lib.hid (drop_any s t p W (h.up h1) hc)
  obtain ⟨xs, hxs⟩ : ∃ xs, xs = sv s := ⟨_, rfl⟩
  rw [← hxs] at HC ⊢
  have HZ := Lib.hid (And.intro hz h1)
  have HW := Lib.hid hW
  clear hW hz hz0 h1 h hc hxs
  go_enter Try.func17, Try.ntmps17
  go_wp2_with fail
  rw [← HW.out]
  go_wp2_with fail
  refine HC.out.mono ?_
  rintro e w1 ⟨p1, rfl, hp1, hb1⟩
  have hz1 := upb hb1 HZ.out.1
  have c1 := cell_of_one hz1
  have f1 := free_of_one hz1
  have hst := one_setCell (u := .pointer p1) hz1
  have HF : Hid (In (w1.setCell ⟨w.heap.size + 1, 0, none⟩ (.pointer p1)) (drop t s) p1 ∧ Below w.heap.size w (w1.setCell ⟨w.heap.size + 1, 0, none⟩ (.pointer p1))) :=
    Lib.hid ⟨In.store (k := w.heap.size + 1) (off := 0) hz1 (by decide) hp1, belowSet (a := ⟨w.heap.size + 1, 0, none⟩) (belowTrans HZ.out.2 hb1) (Nat.le_succ _) _⟩
  have kr := cell_of_one hst
  clear hp1 hb1 hz1 HC hst
  go_wp2_with fail
  refine bodyPost_ret (v := .agg #[.pointer p1]) (by simp only [results, Try.results17]; simp [go_sem, kr]) rfl ?_
  exact ⟨_, rfl, HF.out.1, HF.out.2⟩
end Go.Proofs.Yteglhcpochcopaa.trie
