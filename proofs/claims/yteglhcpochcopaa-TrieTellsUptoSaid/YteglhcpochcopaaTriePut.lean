/- trie.node.put. -/
import Derived.Test.YteglhcpochcopaaTrieS
namespace Go.Proofs.Yteglhcpochcopaa.trie
open Go.RowKit

def kIn (t : TT) : grow.Kept := ⟨fun x W => ∃ p, x = .pointer p ∧ In W t p, fun _ _ _ hb ⟨p, e, h⟩ => ⟨p, e, h.up hb⟩⟩
theorem nodeNil (w : World) : NodeAt (w.alloc (.cells #[.int .i64 0, .int .i64 0, .bool false, .map none] 50)) w.heap.size none 0 fun _ => .nil :=
  ⟨none, fun _ => none, heap_alloc_new w _, fun _ => rfl, fun _ => rfl⟩
theorem RetT.below {w w1 : World} {t : TT} {e : Ending} {w' : World} (h : RetT w1 t e w') (hb : Below w.heap.size w w1) : RetT w t e w' := by
  obtain ⟨p, he, h1, h2⟩ := h
  exact ⟨p, he, h1, belowTrans hb h2⟩

set_option maxRecDepth 100000 in
set_option maxHeartbeats 4000000 in
theorem put_end_nil (w : World) (x : Int) : Calls Try.prog 20 #[.pointer none, sv [], .int .i64 x] w (RetT w (mk (some x) fun _ => .nil)) := by
  have hb := heap_alloc_new w (.cells #[.int .i64 0, .int .i64 0, .bool false, .map none] 50)
  have hB := belowAlloc w (.cells #[.int .i64 0, .int .i64 0, .bool false, .map none] 50)
  obtain ⟨W, hW⟩ : ∃ W, W = w.alloc (.cells #[.int .i64 0, .int .i64 0, .bool false, .map none] 50) := ⟨_, rfl⟩
  rw [← hW] at hb hB
  have HB := Lib.hid hB
  have HW := Lib.hid hW
  clear hB hW
  have c0 := nodeC0 hb
  have c1 := nodeC1 hb
  have c2 := nodeC2 hb
  have c3 := nodeC3 hb
  obtain ⟨V, hV⟩ : ∃ V, V = W.alloc (.cells #[.int .i64 x, .int .i64 0, .bool true, .map none] 50) := ⟨_, rfl⟩
  have hBV : Below W.heap.size W V := by rw [hV]; exact belowAlloc W _
  have HC := Lib.hid (counted_any V (some x) 0 none (fun _ => none) (fun _ => .nil) (fun _ => rfl) (fun _ => rfl) (by rw [cnt_leaf _ fun _ => rfl]; show (1 : Nat) < _; decide))
  rw [show (some x).getD 0 = x from rfl, show (some x).isSome = true from rfl] at HC
  have HV := Lib.hid (And.intro hBV hV)
  have he := sv_eql_nil
  have hgd := fun x y => sv_guard .eql 9 x y [] { data := #[] }
  obtain ⟨xs, hxs⟩ : ∃ xs, xs = sv [] := ⟨_, rfl⟩
  rw [← hxs] at he ⊢
  simp only [← hxs] at hgd
  clear hBV hV hxs hb
  go_enter Try.func20, Try.ntmps20
  go_wp2_with fail
  rw [← HW.out]
  go_wp2_with fail
  rw [← HV.out.2]
  go_wp2_with fail
  refine HC.out.mono ?_
  rintro e w6 ⟨p6, rfl, h6, hb6⟩
  have H6 := Lib.hid (And.intro h6 hb6)
  clear h6 hb6 HC
  go_wp2_with fail
  go_ret
  exact ⟨p6, rfl, H6.out.1, belowTrans HB.out (belowTrans HV.out.1 H6.out.2)⟩
set_option maxRecDepth 100000 in
set_option maxHeartbeats 4000000 in
theorem put_end (w : World) (b : Nat) (v : Option Int) (n : Int) (k : UInt8 → TT) (x : Int) (h : NodeAt w b v n k) (hc : cnt (.node (some x) k) < 9223372036854775808) :
    Calls Try.prog 20 #[.pointer (some ⟨b, 0, none⟩), sv [], .int .i64 x] w (RetT w (mk (some x) k)) := by
  obtain ⟨mo, f, hb, hm, hk⟩ := h
  unfold nodeC at hb
  obtain ⟨h0, hh0⟩ : ∃ x, x = v.isSome := ⟨_, rfl⟩
  obtain ⟨x0, hx0⟩ : ∃ x, x = v.getD 0 := ⟨_, rfl⟩
  rw [← hh0, ← hx0] at hb
  clear hh0 hx0
  have c0 := nodeC0 hb
  have c1 := nodeC1 hb
  have c2 := nodeC2 hb
  have c3 := nodeC3 hb
  obtain ⟨V, hV⟩ : ∃ V, V = w.alloc (.cells #[.int .i64 x, .int .i64 n, .bool true, .map mo] 50) := ⟨_, rfl⟩
  have hBV : Below w.heap.size w V := by rw [hV]; exact belowAlloc w _
  have HC := Lib.hid (counted_any V (some x) n mo f k (hm.up hBV) (fun c => (hk c).up hBV) hc)
  rw [show (some x).getD 0 = x from rfl, show (some x).isSome = true from rfl] at HC
  have HV := Lib.hid (And.intro hBV hV)
  have he := sv_eql_nil
  have hgd := fun x y => sv_guard .eql 9 x y [] { data := #[] }
  obtain ⟨xs, hxs⟩ : ∃ xs, xs = sv [] := ⟨_, rfl⟩
  rw [← hxs] at he ⊢
  simp only [← hxs] at hgd
  clear hBV hV hxs hb hm hk hc
  go_enter Try.func20, Try.ntmps20
  go_wp2_with fail
  rw [← HV.out.2]
  go_wp2_with fail
  refine HC.out.mono ?_
  rintro e w6 ⟨p6, rfl, h6, hb6⟩
  have H6 := Lib.hid (And.intro h6 hb6)
  clear h6 hb6 HC
  go_wp2_with fail
  go_ret
  exact ⟨p6, rfl, H6.out.1, belowTrans HV.out.1 H6.out.2⟩
theorem NodeAt.up {w w' : World} {b : Nat} {v : Option Int} {n : Int} {k : UInt8 → TT} (h : NodeAt w b v n k) (hb : Below w.heap.size w w') : NodeAt w' b v n k := by
  obtain ⟨mo, f, h1, h2, h3⟩ := h
  exact ⟨mo, f, upb hb h1, h2.up hb, fun c => (h3 c).up hb⟩
set_option maxRecDepth 100000 in
set_option maxHeartbeats 8000000 in
theorem put_step_nil (w : World) (c : UInt8) (s : Wd) (x : Int) (ih : ∀ (t : TT) (p : Option Addr) (W : World), In W t p → cnt t < 9223372036854775807 → Calls Try.prog 20 #[.pointer p, sv s, .int .i64 x] W (RetT W (put t s x))) : Calls Try.prog 20 #[.pointer none, sv (c :: s), .int .i64 x] w (RetT w (mk none (upd (fun _ => .nil) c (put .nil s x)))) := by
  have h := nodeNil w
  have hB := belowAlloc w (.cells #[.int .i64 0, .int .i64 0, .bool false, .map none] 50)
  obtain ⟨V, hV⟩ : ∃ W, W = w.alloc (.cells #[.int .i64 0, .int .i64 0, .bool false, .map none] 50) := ⟨_, rfl⟩
  rw [← hV] at h hB
  have HBV := Lib.hid hB
  have HV := Lib.hid hV
  clear hB hV
  have HN := Lib.hid h
  obtain ⟨mo, ff, hb, hm, hk⟩ := h
  unfold nodeC at hb
  have hik := hk c
  have hlt : cnt (mk none (upd (fun _ => .nil) c (put ((fun _ => .nil) c) s x))) < 9223372036854775808 := by
    have h1 := cnt_put (.node none (fun _ => .nil)) (c :: s) x
    have e : put (.node none (fun _ => .nil)) (c :: s) x = mk none (upd (fun _ => .nil) c (put ((fun _ => .nil) c) s x)) := rfl
    rw [e] at h1
    have h2 : cnt (.node none fun _ => .nil) = 0 := by rw [cnt_leaf _ fun _ => rfl]; rfl
    omega
  rw [cnt_mk] at hlt
  have hkc : cnt ((fun _ => .nil) c) < 9223372036854775807 := by show cnt .nil < _; rw [cnt_nil]; decide
  obtain ⟨pk, hpk⟩ : ∃ pk, pk = ff c := ⟨_, rfl⟩
  rw [← hpk] at hik
  have HE := Lib.hid (And.intro hb (And.intro hm (And.intro hik (And.intro hkc hlt))))
  have hlk : ∀ W, Below V.heap.size V W → (Instr.lookup 48 (.map mo) (bv c) false).run Try.prog W = .ok (.pointer pk) W := fun W hW => by rw [hpk]; exact look (hm.up hW) c
  have hix := sv_idx c s
  have hsl := sv_tail c s
  have he := sv_eql_cons c s
  have hgd := fun x y => sv_guard .eql 9 x y (c :: s) { data := #[] }
  obtain ⟨xs, hxs⟩ : ∃ xs, xs = sv (c :: s) := ⟨_, rfl⟩
  obtain ⟨ys, hys⟩ : ∃ ys, ys = sv s := ⟨_, rfl⟩
  obtain ⟨cv, hcv⟩ : ∃ cv, cv = bv c := ⟨_, rfl⟩
  simp only [← hxs] at hgd
  simp only [← hxs] at hix hsl he ⊢
  simp only [← hys] at hsl ih
  simp only [← hcv] at hix hlk
  have hw : ∀ W p1, Below V.heap.size V W → In W (put ((fun _ => .nil) c) s x) p1 → Calls Try.prog 27 #[.pointer (some ⟨w.heap.size, 0, none⟩), cv, .pointer p1] W (RetT W (mk none (upd (fun _ => .nil) c (put ((fun _ => .nil) c) s x)))) := fun W p1 hB h1 => by rw [hcv]; exact with_any W w.heap.size none 0 (fun _ => .nil) c _ p1 (NodeAt.up HN.out hB) h1 hlt
  have HX := Lib.hid (And.intro hw ih)
  clear hw
  have HL := Lib.hid hlk
  clear hxs hys hcv ih hb hm hk hik hkc hlt hlk hpk
  go_enter Try.func20, Try.ntmps20
  go_wp2_with fail
  rw [← HV.out]
  go_wp2_with fail
  refine grow.wp_grow [grow.kEq (.pointer (some ⟨w.heap.size, 0, none⟩)), grow.kEq (xs), grow.kEq (cv), grow.kEq (.pointer (some ⟨w.heap.size, 0, none⟩)), grow.kEq (.pointer (some ⟨w.heap.size, 0, none⟩)), grow.kEq (.pointer (some ⟨w.heap.size, 3, none⟩)), grow.kEq (.map mo), grow.kEq (xs), grow.kEq (cv), grow.kEq (.pointer pk), grow.kEq (xs), grow.kEq (ys), grow.kEq (.int .i64 x), kIn (put ((fun _ => .nil) c) s x), kIn (mk none (upd (fun _ => .nil) c (put ((fun _ => .nil) c) s x))), kIn (mk none (upd (fun _ => .nil) c (put ((fun _ => .nil) c) s x)))] (by kernel_rfl) (by kernel_rfl) (by kernel_rfl) (by kernel_rfl) ?step ?fin
  case step =>
    refine grow.Each.cons ?_ ?_
    · intro A W hB hs hJ K hK
      have s0 := hs 0 (by kernel_rfl)
      simp at s0
      rw [if_pos (by rfl)]
      clear hs hJ
      go_simp
      exact hK _ _ (Below.refl _ _) rfl
    refine grow.Each.cons ?_ ?_
    · intro A W hB hs hJ K hK
      have s0 := hs 1 (by kernel_rfl)
      simp at s0
      rw [if_pos (by rfl)]
      clear hs hJ
      go_simp
      exact hK _ _ (Below.refl _ _) rfl
    refine grow.Each.cons ?_ ?_
    · intro A W hB hs hJ K hK
      have s0 : A.tmps.getD 23 undef = xs := hJ 1 23 (by kernel_rfl) (by kernel_rfl)
      simp at s0
      rw [if_pos (by rfl)]
      clear hs hJ
      go_simp
      exact hK _ _ (Below.refl _ _) rfl
    refine grow.Each.cons ?_ ?_
    · intro A W hB hs hJ K hK
      have s0 := hs 0 (by kernel_rfl)
      simp at s0
      rw [if_pos (by rfl)]
      clear hs hJ
      go_simp
      exact hK _ _ (Below.refl _ _) rfl
    refine grow.Each.cons ?_ ?_
    · intro A W hB hs hJ K hK
      have s0 : A.tmps.getD 25 undef = .pointer (some ⟨w.heap.size, 0, none⟩) := hJ 3 25 (by kernel_rfl) (by kernel_rfl)
      simp at s0
      rw [if_pos (by rfl)]
      clear hs hJ
      go_simp
      exact hK _ _ (Below.refl _ _) rfl
    refine grow.Each.cons ?_ ?_
    · intro A W hB hs hJ K hK
      have s0 : A.tmps.getD 26 undef = .pointer (some ⟨w.heap.size, 0, none⟩) := hJ 4 26 (by kernel_rfl) (by kernel_rfl)
      simp at s0
      rw [if_pos (by rfl)]
      clear hs hJ
      go_simp
      exact hK _ _ (Below.refl _ _) rfl
    refine grow.Each.cons ?_ ?_
    · intro A W hB hs hJ K hK
      have s0 : A.tmps.getD 27 undef = .pointer (some ⟨w.heap.size, 3, none⟩) := hJ 5 27 (by kernel_rfl) (by kernel_rfl)
      simp at s0
      have kk := upc hB (nodeC3 HE.out.1)
      rw [if_pos (by rfl)]
      clear hs hJ
      go_simp
      exact hK _ _ (Below.refl _ _) rfl
    refine grow.Each.cons ?_ ?_
    · intro A W hB hs hJ K hK
      have s0 := hs 1 (by kernel_rfl)
      simp at s0
      rw [if_pos (by rfl)]
      clear hs hJ
      go_simp
      exact hK _ _ (Below.refl _ _) rfl
    refine grow.Each.cons ?_ ?_
    · intro A W hB hs hJ K hK
      have s0 : A.tmps.getD 29 undef = xs := hJ 7 29 (by kernel_rfl) (by kernel_rfl)
      simp at s0
      rw [if_pos (by rfl)]
      clear hs hJ
      go_simp
      exact hK _ _ (Below.refl _ _) rfl
    refine grow.Each.cons ?_ ?_
    · intro A W hB hs hJ K hK
      have s0 : A.tmps.getD 28 undef = .map mo := hJ 6 28 (by kernel_rfl) (by kernel_rfl)
      simp at s0
      have s1 : A.tmps.getD 30 undef = cv := hJ 8 30 (by kernel_rfl) (by kernel_rfl)
      simp at s1
      have hl := HL.out W hB
      rw [if_pos (by rfl)]
      clear hs hJ
      go_simp
      exact hK _ _ (Below.refl _ _) rfl
    refine grow.Each.cons ?_ ?_
    · intro A W hB hs hJ K hK
      have s0 := hs 1 (by kernel_rfl)
      simp at s0
      rw [if_pos (by rfl)]
      clear hs hJ
      go_simp
      exact hK _ _ (Below.refl _ _) rfl
    refine grow.Each.cons ?_ ?_
    · intro A W hB hs hJ K hK
      have s0 : A.tmps.getD 32 undef = xs := hJ 10 32 (by kernel_rfl) (by kernel_rfl)
      simp at s0
      rw [if_pos (by rfl)]
      clear hs hJ
      go_simp
      exact hK _ _ (Below.refl _ _) rfl
    refine grow.Each.cons ?_ ?_
    · intro A W hB hs hJ K hK
      have s0 := hs 2 (by kernel_rfl)
      simp at s0
      rw [if_pos (by rfl)]
      clear hs hJ
      go_simp
      exact hK _ _ (Below.refl _ _) rfl
    refine grow.Each.cons ?_ ?_
    · intro A W hB hs hJ K hK
      have s0 : A.tmps.getD 31 undef = .pointer pk := hJ 9 31 (by kernel_rfl) (by kernel_rfl)
      simp at s0
      have s1 : A.tmps.getD 33 undef = ys := hJ 11 33 (by kernel_rfl) (by kernel_rfl)
      simp at s1
      have s2 : A.tmps.getD 34 undef = .int .i64 x := hJ 12 34 (by kernel_rfl) (by kernel_rfl)
      simp at s2
      rw [if_pos (by rfl)]
      clear hs hJ
      go_simp
      go_at_call 20
      refine (HX.out.2 _ _ W (HE.out.2.2.1.up hB) HE.out.2.2.2.1).mono ?_
      rintro e W2 ⟨q1, rfl, hq1, hb1⟩
      exact hK _ _ hb1 ⟨q1, rfl, hq1⟩
    refine grow.Each.cons ?_ ?_
    · intro A W hB hs hJ K hK
      have s0 : A.tmps.getD 22 undef = .pointer (some ⟨w.heap.size, 0, none⟩) := hJ 0 22 (by kernel_rfl) (by kernel_rfl)
      simp at s0
      have s1 : A.tmps.getD 24 undef = cv := hJ 2 24 (by kernel_rfl) (by kernel_rfl)
      simp at s1
      obtain ⟨p1, s2, h1⟩ := hJ 13 35 (by kernel_rfl) (by kernel_rfl)
      simp at s2
      rw [if_pos (by rfl)]
      clear hs hJ
      go_simp
      go_at_call 27
      refine (HX.out.1 W p1 hB h1).mono ?_
      rintro e W2 ⟨q1, rfl, hq1, hb1⟩
      exact hK _ _ hb1 ⟨q1, rfl, hq1⟩
    refine grow.Each.cons ?_ ?_
    · intro A W hB hs hJ K hK
      obtain ⟨p2, s0, h2⟩ := hJ 14 36 (by kernel_rfl) (by kernel_rfl)
      simp at s0
      rw [if_pos (by rfl)]
      clear hs hJ
      go_simp
      exact hK _ _ (Below.refl _ _) ⟨p2, rfl, h2⟩
    exact grow.Each.nil
  case fin =>
    intro f W hB hF
    have f0 : f 0 = .pointer (some ⟨w.heap.size, 0, none⟩) := hF 0 (by decide)
    have f1 : f 1 = xs := hF 1 (by decide)
    have f2 : f 2 = cv := hF 2 (by decide)
    have f3 : f 3 = .pointer (some ⟨w.heap.size, 0, none⟩) := hF 3 (by decide)
    have f4 : f 4 = .pointer (some ⟨w.heap.size, 0, none⟩) := hF 4 (by decide)
    have f5 : f 5 = .pointer (some ⟨w.heap.size, 3, none⟩) := hF 5 (by decide)
    have f6 : f 6 = .map mo := hF 6 (by decide)
    have f7 : f 7 = xs := hF 7 (by decide)
    have f8 : f 8 = cv := hF 8 (by decide)
    have f9 : f 9 = .pointer pk := hF 9 (by decide)
    have f10 : f 10 = xs := hF 10 (by decide)
    have f11 : f 11 = ys := hF 11 (by decide)
    have f12 : f 12 = .int .i64 x := hF 12 (by decide)
    obtain ⟨p1_13, f13, -⟩ := hF 13 (by decide)
    obtain ⟨p2_14, f14, -⟩ := hF 14 (by decide)
    obtain ⟨p3_15, f15, h3_15⟩ := hF 15 (by decide)
    clear hF
    generalize hA : grow.puts _ _ f _ = A'
    simp only [List.length_cons, List.length_nil, Nat.reduceAdd, grow.puts, Act.put, List.getElem?_toArray, List.getElem?_cons_zero, List.getElem?_cons_succ, Option.bind_some, List.setIfInBounds_toArray, List.set_cons_zero, List.set_cons_succ, f0, f1, f2, f3, f4, f5, f6, f7, f8, f9, f10, f11, f12, f13, f14, f15] at hA
    subst hA
    have H3 := Lib.hid (And.intro h3_15 hB)
    clear h3_15 hB
    go_wp2_with fail
    go_ret
    exact ⟨_, rfl, H3.out.1, belowTrans HBV.out H3.out.2⟩
set_option maxRecDepth 100000 in
set_option maxHeartbeats 8000000 in
theorem put_step (w : World) (b : Nat) (v : Option Int) (n : Int) (k : UInt8 → TT) (c : UInt8) (s : Wd) (x : Int) (h : NodeAt w b v n k) (hc : cnt (.node v k) < 9223372036854775807) (ih : ∀ (t : TT) (p : Option Addr) (W : World), In W t p → cnt t < 9223372036854775807 → Calls Try.prog 20 #[.pointer p, sv s, .int .i64 x] W (RetT W (put t s x))) :
    Calls Try.prog 20 #[.pointer (some ⟨b, 0, none⟩), sv (c :: s), .int .i64 x] w (RetT w (mk v (upd k c (put (k c) s x)))) := by
  have HN := Lib.hid h
  obtain ⟨mo, ff, hb, hm, hk⟩ := h
  unfold nodeC at hb
  have hik := hk c
  have hlt : cnt (mk v (upd k c (put (k c) s x))) < 9223372036854775808 := by
    have h1 := cnt_put (.node v k) (c :: s) x
    have e : put (.node v k) (c :: s) x = mk v (upd k c (put (k c) s x)) := rfl
    rw [e] at h1
    omega
  rw [cnt_mk] at hlt
  have hkc : cnt (k c) < 9223372036854775807 := Nat.lt_of_le_of_lt (kid_le v k c) hc
  obtain ⟨pk, hpk⟩ : ∃ pk, pk = ff c := ⟨_, rfl⟩
  rw [← hpk] at hik
  have HE := Lib.hid (And.intro hb (And.intro hm (And.intro hik (And.intro hkc hlt))))
  have hlk : ∀ W, Below w.heap.size w W → (Instr.lookup 48 (.map mo) (bv c) false).run Try.prog W = .ok (.pointer pk) W := fun W hW => by rw [hpk]; exact look (hm.up hW) c
  have hix := sv_idx c s
  have hsl := sv_tail c s
  have he := sv_eql_cons c s
  have hgd := fun x y => sv_guard .eql 9 x y (c :: s) { data := #[] }
  obtain ⟨xs, hxs⟩ : ∃ xs, xs = sv (c :: s) := ⟨_, rfl⟩
  obtain ⟨ys, hys⟩ : ∃ ys, ys = sv s := ⟨_, rfl⟩
  obtain ⟨cv, hcv⟩ : ∃ cv, cv = bv c := ⟨_, rfl⟩
  simp only [← hxs] at hgd
  simp only [← hxs] at hix hsl he ⊢
  simp only [← hys] at hsl ih
  simp only [← hcv] at hix hlk
  have hw : ∀ W p1, Below w.heap.size w W → In W (put (k c) s x) p1 → Calls Try.prog 27 #[.pointer (some ⟨b, 0, none⟩), cv, .pointer p1] W (RetT W (mk v (upd k c (put (k c) s x)))) := fun W p1 hB h1 => by rw [hcv]; exact with_any W b v n k c _ p1 (NodeAt.up HN.out hB) h1 hlt
  have HX := Lib.hid (And.intro hw ih)
  clear hw
  have HL := Lib.hid hlk
  clear hxs hys hcv ih hb hm hk hik hkc hlt hlk hpk
  go_enter Try.func20, Try.ntmps20
  go_wp2_with fail
  refine grow.wp_grow [grow.kEq (.pointer (some ⟨b, 0, none⟩)), grow.kEq (xs), grow.kEq (cv), grow.kEq (.pointer (some ⟨b, 0, none⟩)), grow.kEq (.pointer (some ⟨b, 0, none⟩)), grow.kEq (.pointer (some ⟨b, 3, none⟩)), grow.kEq (.map mo), grow.kEq (xs), grow.kEq (cv), grow.kEq (.pointer pk), grow.kEq (xs), grow.kEq (ys), grow.kEq (.int .i64 x), kIn (put (k c) s x), kIn (mk v (upd k c (put (k c) s x))), kIn (mk v (upd k c (put (k c) s x)))] (by kernel_rfl) (by kernel_rfl) (by kernel_rfl) (by kernel_rfl) ?step ?fin
  case step =>
    refine grow.Each.cons ?_ ?_
    · intro A W hB hs hJ K hK
      have s0 := hs 0 (by kernel_rfl)
      simp at s0
      rw [if_pos (by rfl)]
      clear hs hJ
      go_simp
      exact hK _ _ (Below.refl _ _) rfl
    refine grow.Each.cons ?_ ?_
    · intro A W hB hs hJ K hK
      have s0 := hs 1 (by kernel_rfl)
      simp at s0
      rw [if_pos (by rfl)]
      clear hs hJ
      go_simp
      exact hK _ _ (Below.refl _ _) rfl
    refine grow.Each.cons ?_ ?_
    · intro A W hB hs hJ K hK
      have s0 : A.tmps.getD 23 undef = xs := hJ 1 23 (by kernel_rfl) (by kernel_rfl)
      simp at s0
      rw [if_pos (by rfl)]
      clear hs hJ
      go_simp
      exact hK _ _ (Below.refl _ _) rfl
    refine grow.Each.cons ?_ ?_
    · intro A W hB hs hJ K hK
      have s0 := hs 0 (by kernel_rfl)
      simp at s0
      rw [if_pos (by rfl)]
      clear hs hJ
      go_simp
      exact hK _ _ (Below.refl _ _) rfl
    refine grow.Each.cons ?_ ?_
    · intro A W hB hs hJ K hK
      have s0 : A.tmps.getD 25 undef = .pointer (some ⟨b, 0, none⟩) := hJ 3 25 (by kernel_rfl) (by kernel_rfl)
      simp at s0
      rw [if_pos (by rfl)]
      clear hs hJ
      go_simp
      exact hK _ _ (Below.refl _ _) rfl
    refine grow.Each.cons ?_ ?_
    · intro A W hB hs hJ K hK
      have s0 : A.tmps.getD 26 undef = .pointer (some ⟨b, 0, none⟩) := hJ 4 26 (by kernel_rfl) (by kernel_rfl)
      simp at s0
      rw [if_pos (by rfl)]
      clear hs hJ
      go_simp
      exact hK _ _ (Below.refl _ _) rfl
    refine grow.Each.cons ?_ ?_
    · intro A W hB hs hJ K hK
      have s0 : A.tmps.getD 27 undef = .pointer (some ⟨b, 3, none⟩) := hJ 5 27 (by kernel_rfl) (by kernel_rfl)
      simp at s0
      have kk := upc hB (nodeC3 HE.out.1)
      rw [if_pos (by rfl)]
      clear hs hJ
      go_simp
      exact hK _ _ (Below.refl _ _) rfl
    refine grow.Each.cons ?_ ?_
    · intro A W hB hs hJ K hK
      have s0 := hs 1 (by kernel_rfl)
      simp at s0
      rw [if_pos (by rfl)]
      clear hs hJ
      go_simp
      exact hK _ _ (Below.refl _ _) rfl
    refine grow.Each.cons ?_ ?_
    · intro A W hB hs hJ K hK
      have s0 : A.tmps.getD 29 undef = xs := hJ 7 29 (by kernel_rfl) (by kernel_rfl)
      simp at s0
      rw [if_pos (by rfl)]
      clear hs hJ
      go_simp
      exact hK _ _ (Below.refl _ _) rfl
    refine grow.Each.cons ?_ ?_
    · intro A W hB hs hJ K hK
      have s0 : A.tmps.getD 28 undef = .map mo := hJ 6 28 (by kernel_rfl) (by kernel_rfl)
      simp at s0
      have s1 : A.tmps.getD 30 undef = cv := hJ 8 30 (by kernel_rfl) (by kernel_rfl)
      simp at s1
      have hl := HL.out W hB
      rw [if_pos (by rfl)]
      clear hs hJ
      go_simp
      exact hK _ _ (Below.refl _ _) rfl
    refine grow.Each.cons ?_ ?_
    · intro A W hB hs hJ K hK
      have s0 := hs 1 (by kernel_rfl)
      simp at s0
      rw [if_pos (by rfl)]
      clear hs hJ
      go_simp
      exact hK _ _ (Below.refl _ _) rfl
    refine grow.Each.cons ?_ ?_
    · intro A W hB hs hJ K hK
      have s0 : A.tmps.getD 32 undef = xs := hJ 10 32 (by kernel_rfl) (by kernel_rfl)
      simp at s0
      rw [if_pos (by rfl)]
      clear hs hJ
      go_simp
      exact hK _ _ (Below.refl _ _) rfl
    refine grow.Each.cons ?_ ?_
    · intro A W hB hs hJ K hK
      have s0 := hs 2 (by kernel_rfl)
      simp at s0
      rw [if_pos (by rfl)]
      clear hs hJ
      go_simp
      exact hK _ _ (Below.refl _ _) rfl
    refine grow.Each.cons ?_ ?_
    · intro A W hB hs hJ K hK
      have s0 : A.tmps.getD 31 undef = .pointer pk := hJ 9 31 (by kernel_rfl) (by kernel_rfl)
      simp at s0
      have s1 : A.tmps.getD 33 undef = ys := hJ 11 33 (by kernel_rfl) (by kernel_rfl)
      simp at s1
      have s2 : A.tmps.getD 34 undef = .int .i64 x := hJ 12 34 (by kernel_rfl) (by kernel_rfl)
      simp at s2
      rw [if_pos (by rfl)]
      clear hs hJ
      go_simp
      go_at_call 20
      refine (HX.out.2 _ _ W (HE.out.2.2.1.up hB) HE.out.2.2.2.1).mono ?_
      rintro e W2 ⟨q1, rfl, hq1, hb1⟩
      exact hK _ _ hb1 ⟨q1, rfl, hq1⟩
    refine grow.Each.cons ?_ ?_
    · intro A W hB hs hJ K hK
      have s0 : A.tmps.getD 22 undef = .pointer (some ⟨b, 0, none⟩) := hJ 0 22 (by kernel_rfl) (by kernel_rfl)
      simp at s0
      have s1 : A.tmps.getD 24 undef = cv := hJ 2 24 (by kernel_rfl) (by kernel_rfl)
      simp at s1
      obtain ⟨p1, s2, h1⟩ := hJ 13 35 (by kernel_rfl) (by kernel_rfl)
      simp at s2
      rw [if_pos (by rfl)]
      clear hs hJ
      go_simp
      go_at_call 27
      refine (HX.out.1 W p1 hB h1).mono ?_
      rintro e W2 ⟨q1, rfl, hq1, hb1⟩
      exact hK _ _ hb1 ⟨q1, rfl, hq1⟩
    refine grow.Each.cons ?_ ?_
    · intro A W hB hs hJ K hK
      obtain ⟨p2, s0, h2⟩ := hJ 14 36 (by kernel_rfl) (by kernel_rfl)
      simp at s0
      rw [if_pos (by rfl)]
      clear hs hJ
      go_simp
      exact hK _ _ (Below.refl _ _) ⟨p2, rfl, h2⟩
    exact grow.Each.nil
  case fin =>
    intro f W hB hF
    have f0 : f 0 = .pointer (some ⟨b, 0, none⟩) := hF 0 (by decide)
    have f1 : f 1 = xs := hF 1 (by decide)
    have f2 : f 2 = cv := hF 2 (by decide)
    have f3 : f 3 = .pointer (some ⟨b, 0, none⟩) := hF 3 (by decide)
    have f4 : f 4 = .pointer (some ⟨b, 0, none⟩) := hF 4 (by decide)
    have f5 : f 5 = .pointer (some ⟨b, 3, none⟩) := hF 5 (by decide)
    have f6 : f 6 = .map mo := hF 6 (by decide)
    have f7 : f 7 = xs := hF 7 (by decide)
    have f8 : f 8 = cv := hF 8 (by decide)
    have f9 : f 9 = .pointer pk := hF 9 (by decide)
    have f10 : f 10 = xs := hF 10 (by decide)
    have f11 : f 11 = ys := hF 11 (by decide)
    have f12 : f 12 = .int .i64 x := hF 12 (by decide)
    obtain ⟨p1_13, f13, -⟩ := hF 13 (by decide)
    obtain ⟨p2_14, f14, -⟩ := hF 14 (by decide)
    obtain ⟨p3_15, f15, h3_15⟩ := hF 15 (by decide)
    clear hF
    generalize hA : grow.puts _ _ f _ = A'
    simp only [List.length_cons, List.length_nil, Nat.reduceAdd, grow.puts, Act.put, List.getElem?_toArray, List.getElem?_cons_zero, List.getElem?_cons_succ, Option.bind_some, List.setIfInBounds_toArray, List.set_cons_zero, List.set_cons_succ, f0, f1, f2, f3, f4, f5, f6, f7, f8, f9, f10, f11, f12, f13, f14, f15] at hA
    subst hA
    have H3 := Lib.hid (And.intro h3_15 hB)
    clear h3_15 hB
    go_wp2_with fail
    go_ret
    exact ⟨_, rfl, H3.out.1, H3.out.2⟩
theorem put_any (s : Wd) (x : Int) : ∀ (t : TT) (p : Option Addr) (w : World), In w t p → cnt t < 9223372036854775807 → Calls Try.prog 20 #[.pointer p, sv s, .int .i64 x] w (RetT w (put t s x)) := by
  induction s with
  | nil =>
    intro t p w h hc
    cases t with
    | nil => obtain rfl : p = none := h; exact put_end_nil w x
    | node v k =>
      obtain ⟨b, rfl, hn⟩ := h.node
      refine put_end w b v _ k x hn ?_
      have := val_le (.node v k) x
      have e : (TT.node v k).kid = k := rfl
      rw [e] at this
      omega
  | cons c s ih =>
    intro t p w h hc
    cases t with
    | nil => obtain rfl : p = none := h; exact put_step_nil w c s x ih
    | node v k =>
      obtain ⟨b, rfl, hn⟩ := h.node
      exact put_step w b v _ k c s x hn hc ih
end Go.Proofs.Yteglhcpochcopaa.trie
