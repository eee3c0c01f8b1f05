/- maps.Clone at a trie's map; trie.node.with: a copy of a node with another kid. -/
import Derived.Test.YteglhcpochcopaaTrieC
import Derived.Test.YteglhcpochcopaaGrow2
namespace Go.Proofs.Yteglhcpochcopaa.trie
open Go.RowKit

theorem Clone_any (w : World) (mo : Option Nat) (f : UInt8 → Option Addr) (h : MapAt w f mo) :
    Calls Try.prog 30 #[.map mo] w fun e w' => ∃ mo', e = .returned (.map mo') ∧ MapAt w' f mo' ∧ (∀ kb, mo' = some kb → w.heap.size ≤ kb) ∧ Below w.heap.size w w' := by
  cases mo with
  | none =>
    have hq := fun w => run_eql_map_nil_sl (P := Try.prog) w 48 _ _ none ru
    have HM := Lib.hid h
    clear h
    go_enter Try.func30, Try.ntmps30
    go_wp2_with fail
    go_ret
    exact ⟨none, rfl, HM.out, by simp, Below.refl _ _⟩
  | some kb =>
    obtain ⟨es, cl, hb, hst, he⟩ := h
    have hq := fun w => run_eql_map_nil_sl (P := Try.prog) w 48 _ _ (some kb) ru
    have hc := run_maps_clone_sl (P := Try.prog) w 48 hb
    have HM := Lib.hid (And.intro hst he)
    clear hst he hb
    go_enter Try.func30, Try.ntmps30
    go_wp2_with fail
    rw [run_callFunc_extern Try.func34 (by kernel_rfl) (by kernel_rfl) (by kernel_rfl) (e := Extern.MapsClone.clone) (by kernel_rfl), hc]
    simp only [Result.andThen]
    rw [Oper.upon_value]
    clear hc
    go_wp2_with fail
    rw [run_typeAssert_map_sl _ 48 20 _ _ _ ru]
    simp only [Result.andThen]
    rw [Oper.upon_value]
    go_wp2_with fail
    go_ret
    exact ⟨some w.heap.size, rfl, ⟨es, cl, heap_alloc_new w _, HM.out.1, HM.out.2⟩, fun kb e => by cases e; exact Nat.le_refl _, belowAlloc w _⟩

/-- block b is a node, of whatever number -/
def NodeAt (w : World) (b : Nat) (v : Option Int) (n : Int) (k : UInt8 → TT) : Prop := ∃ mo f, w.heap[b]? = some (.cells (nodeC v n mo) 50 (0, 0)) ∧ MapAt w f mo ∧ ∀ c, In w (k c) (f c)
theorem In.node {w : World} {v : Option Int} {k : UInt8 → TT} {p : Option Addr} (h : In w (.node v k) p) : ∃ b, p = some ⟨b, 0, none⟩ ∧ NodeAt w b v (cnt (.node v k) : Nat) k := by
  obtain ⟨b, mo, f, e, h1, h2, h3⟩ := h
  exact ⟨b, e, mo, f, h1, h2, h3⟩
def kClone (B : Nat) (f : UInt8 → Option Addr) : grow.Kept := ⟨fun x W => ∃ mo', x = .map mo' ∧ MapAt W f mo' ∧ ∀ kb, mo' = some kb → B ≤ kb, fun _ _ _ hb ⟨m, e, h, hk⟩ => ⟨m, e, h.up hb, hk⟩⟩
def kBuilt (B : Nat) (f : UInt8 → Option Addr) (x0 : Int) (h0 : Bool) : grow.Kept := ⟨fun x W => ∃ mo', x = .agg #[.int .i64 x0, .int .i64 0, .bool h0, .map mo'] ∧ MapAt W f mo' ∧ ∀ kb, mo' = some kb → B ≤ kb, fun _ _ _ hb ⟨m, e, h, hk⟩ => ⟨m, e, h.up hb, hk⟩⟩
def kOut (B : Nat) : grow.Kept := ⟨fun x W => ∃ g, x = .pointer (some ⟨g, 0, none⟩) ∧ B ≤ g ∧ W.heap[g]? = some (.cells #[.int .i64 0, .int .i64 0, .bool false, .map none] 50 (0, 0)), fun _ _ _ hb ⟨g, e, h, hk⟩ => ⟨g, e, h, upb hb hk⟩⟩

theorem MapAt.set {w : World} {f : UInt8 → Option Addr} {mo : Option Nat} {g o : Nat} {c : Array Value} {t : Nat} {z : Nat × Nat} {u : Value} (hg : w.heap[g]? = some (.cells c t z)) (h : MapAt w f mo) : MapAt (w.setCell ⟨g, o, none⟩ u) f mo := by
  cases mo with
  | none => exact h
  | some kb =>
    obtain ⟨es, cl, hb, h1, h2⟩ := h
    exact ⟨es, cl, (Below.heap_setCell w _ u kb (by rintro rfl; rw [hg] at hb; cases hb)).trans hb, h1, h2⟩
theorem kids_of {w w5 : World} {f : UInt8 → Option Addr} {k : UInt8 → TT} {c : UInt8} {t : TT} {q : Option Addr} (hk : ∀ c, In w (k c) (f c)) (ht : In w t q) (hb : Below w.heap.size w w5) : ∀ d, In w5 (upd k c t d) (updO f c q d) := by
  intro d
  unfold upd updO
  split
  · exact ht.up hb
  · exact (hk d).up hb
theorem Ents.empty : Ents #[] fun _ => none := ⟨fun x hx => by simp at hx, fun c a h => by cases h⟩
theorem run_makeMap (t : TypeId) (w : World) : (Instr.makeMap t none).run Try.prog w = .ok (.map (some w.heap.size)) (w.alloc (.map #[] 0)) := by simp [Instr.makeMap]

set_option maxRecDepth 100000 in
set_option maxHeartbeats 8000000 in
theorem with_any (w : World) (b : Nat) (v : Option Int) (n : Int) (k : UInt8 → TT) (c : UInt8) (t : TT) (q : Option Addr) (h : NodeAt w b v n k) (ht : In w t q) (hc : cnt (.node v (upd k c t)) < 9223372036854775808) :
    Calls Try.prog 27 #[.pointer (some ⟨b, 0, none⟩), bv c, .pointer q] w (RetT w (mk v (upd k c t))) := by
  obtain ⟨mo, ff, hb, hm, hk⟩ := h
  obtain ⟨h0, hh0⟩ : ∃ x, x = v.isSome := ⟨_, rfl⟩
  obtain ⟨x0, hx0⟩ : ∃ x, x = v.getD 0 := ⟨_, rfl⟩
  obtain ⟨cv, hcv⟩ : ∃ x, x = bv c := ⟨_, rfl⟩
  unfold nodeC at hb
  rw [← hh0, ← hx0] at hb
  rw [← hcv]
  have HE := Lib.hid (And.intro hb (And.intro hm (And.intro hk (And.intro ht hc))))
  have HV := Lib.hid (And.intro hh0 (And.intro hx0 hcv))
  clear hb hm hk ht hc hh0 hx0 hcv
  go_enter Try.func27, Try.ntmps27
  go_wp2_with fail
  refine grow.wp_grow_last 15 _ [grow.kEq (.pointer (some ⟨b, 0, none⟩)), grow.kEq (.pointer (some ⟨b, 0, none⟩)), grow.kEq (.pointer (some ⟨b, 0, none⟩)), grow.kEq (.int .i64 x0), grow.kEq (.pointer (some ⟨b, 0, none⟩)), grow.kEq (.pointer (some ⟨b, 0, none⟩)), grow.kEq (.pointer (some ⟨b, 2, none⟩)), grow.kEq (.bool h0), grow.kEq (.pointer (some ⟨b, 0, none⟩)), grow.kEq (.pointer (some ⟨b, 0, none⟩)), grow.kEq (.pointer (some ⟨b, 3, none⟩)), grow.kEq (.map mo), kClone w.heap.size ff, kBuilt w.heap.size ff x0 h0, kOut w.heap.size] rfl rfl rfl (by kernel_rfl) (by kernel_rfl) (by kernel_rfl) (by kernel_rfl) (by kernel_rfl) ?step ?fin
  case step =>
    refine grow.EachL.cons ?_ ?_
    · intro A W hB hs hJ K hK
      have s0 := hs 0 (by kernel_rfl)
      simp at s0
      rw [if_pos (by rfl)]
      clear hs hJ
      go_simp
      exact hK _ _ (Below.refl _ _) rfl
    refine grow.EachL.cons ?_ ?_
    · intro A W hB hs hJ K hK
      have s0 : A.tmps.getD 8 undef = .pointer (some ⟨b, 0, none⟩) := hJ 0 8 (by kernel_rfl) (by kernel_rfl)
      simp at s0
      rw [if_pos (by rfl)]
      clear hs hJ
      go_simp
      exact hK _ _ (Below.refl _ _) rfl
    refine grow.EachL.cons ?_ ?_
    · intro A W hB hs hJ K hK
      have s0 : A.tmps.getD 9 undef = .pointer (some ⟨b, 0, none⟩) := hJ 1 9 (by kernel_rfl) (by kernel_rfl)
      simp at s0
      rw [if_pos (by rfl)]
      clear hs hJ
      go_simp
      exact hK _ _ (Below.refl _ _) rfl
    refine grow.EachL.cons ?_ ?_
    · intro A W hB hs hJ K hK
      have s0 : A.tmps.getD 10 undef = .pointer (some ⟨b, 0, none⟩) := hJ 2 10 (by kernel_rfl) (by kernel_rfl)
      simp at s0
      have kk := upc hB (nodeC0 HE.out.1)
      rw [if_pos (by rfl)]
      clear hs hJ
      go_simp
      exact hK _ _ (Below.refl _ _) rfl
    refine grow.EachL.cons ?_ ?_
    · intro A W hB hs hJ K hK
      have s0 := hs 0 (by kernel_rfl)
      simp at s0
      rw [if_pos (by rfl)]
      clear hs hJ
      go_simp
      exact hK _ _ (Below.refl _ _) rfl
    refine grow.EachL.cons ?_ ?_
    · intro A W hB hs hJ K hK
      have s0 : A.tmps.getD 12 undef = .pointer (some ⟨b, 0, none⟩) := hJ 4 12 (by kernel_rfl) (by kernel_rfl)
      simp at s0
      rw [if_pos (by rfl)]
      clear hs hJ
      go_simp
      exact hK _ _ (Below.refl _ _) rfl
    refine grow.EachL.cons ?_ ?_
    · intro A W hB hs hJ K hK
      have s0 : A.tmps.getD 13 undef = .pointer (some ⟨b, 0, none⟩) := hJ 5 13 (by kernel_rfl) (by kernel_rfl)
      simp at s0
      rw [if_pos (by rfl)]
      clear hs hJ
      go_simp
      exact hK _ _ (Below.refl _ _) rfl
    refine grow.EachL.cons ?_ ?_
    · intro A W hB hs hJ K hK
      have s0 : A.tmps.getD 14 undef = .pointer (some ⟨b, 2, none⟩) := hJ 6 14 (by kernel_rfl) (by kernel_rfl)
      simp at s0
      have kk := upc hB (nodeC2 HE.out.1)
      rw [if_pos (by rfl)]
      clear hs hJ
      go_simp
      exact hK _ _ (Below.refl _ _) rfl
    refine grow.EachL.cons ?_ ?_
    · intro A W hB hs hJ K hK
      have s0 := hs 0 (by kernel_rfl)
      simp at s0
      rw [if_pos (by rfl)]
      clear hs hJ
      go_simp
      exact hK _ _ (Below.refl _ _) rfl
    refine grow.EachL.cons ?_ ?_
    · intro A W hB hs hJ K hK
      have s0 : A.tmps.getD 16 undef = .pointer (some ⟨b, 0, none⟩) := hJ 8 16 (by kernel_rfl) (by kernel_rfl)
      simp at s0
      rw [if_pos (by rfl)]
      clear hs hJ
      go_simp
      exact hK _ _ (Below.refl _ _) rfl
    refine grow.EachL.cons ?_ ?_
    · intro A W hB hs hJ K hK
      have s0 : A.tmps.getD 17 undef = .pointer (some ⟨b, 0, none⟩) := hJ 9 17 (by kernel_rfl) (by kernel_rfl)
      simp at s0
      rw [if_pos (by rfl)]
      clear hs hJ
      go_simp
      exact hK _ _ (Below.refl _ _) rfl
    refine grow.EachL.cons ?_ ?_
    · intro A W hB hs hJ K hK
      have s0 : A.tmps.getD 18 undef = .pointer (some ⟨b, 3, none⟩) := hJ 10 18 (by kernel_rfl) (by kernel_rfl)
      simp at s0
      have kk := upc hB (nodeC3 HE.out.1)
      rw [if_pos (by rfl)]
      clear hs hJ
      go_simp
      exact hK _ _ (Below.refl _ _) rfl
    refine grow.EachL.cons ?_ ?_
    · intro A W hB hs hJ K hK
      have s0 : A.tmps.getD 19 undef = .map mo := hJ 11 19 (by kernel_rfl) (by kernel_rfl)
      simp at s0
      rw [if_pos (by rfl)]
      clear hs hJ
      go_simp
      go_at_call 30
      refine (Clone_any W mo ff (HE.out.2.1.up hB)).mono ?_
      rintro e W2 ⟨m1, rfl, hM1, hF1, hb1⟩
      exact hK _ _ hb1 ⟨m1, rfl, hM1, fun kb e => Nat.le_trans hB.size (hF1 kb e)⟩
    refine grow.EachL.cons ?_ ?_
    · intro A W hB hs hJ K hK
      have s0 : A.tmps.getD 11 undef = .int .i64 x0 := hJ 3 11 (by kernel_rfl) (by kernel_rfl)
      simp at s0
      have s1 : A.tmps.getD 15 undef = .bool h0 := hJ 7 15 (by kernel_rfl) (by kernel_rfl)
      simp at s1
      obtain ⟨mc, s2, hM, hF⟩ := hJ 12 20 (by kernel_rfl) (by kernel_rfl)
      simp at s2
      rw [if_pos (by rfl)]
      clear hs hJ
      go_simp
      exact hK _ _ (Below.refl _ _) ⟨mc, rfl, hM, hF⟩
    refine grow.EachL.cons ?_ ?_
    · intro A W hB hs hJ K hK
      rw [if_pos (by rfl)]
      clear hs hJ
      go_simp
      exact hK _ _ (belowAlloc W _) ⟨W.heap.size, rfl, hB.size, heap_alloc_new W _⟩
    exact grow.EachL.nil
  case fin =>
    intro f W hB hF
    have f0 : f 0 = .pointer (some ⟨b, 0, none⟩) := hF 0 (by decide)
    have f1 : f 1 = .pointer (some ⟨b, 0, none⟩) := hF 1 (by decide)
    have f2 : f 2 = .pointer (some ⟨b, 0, none⟩) := hF 2 (by decide)
    have f3 : f 3 = .int .i64 x0 := hF 3 (by decide)
    have f4 : f 4 = .pointer (some ⟨b, 0, none⟩) := hF 4 (by decide)
    have f5 : f 5 = .pointer (some ⟨b, 0, none⟩) := hF 5 (by decide)
    have f6 : f 6 = .pointer (some ⟨b, 2, none⟩) := hF 6 (by decide)
    have f7 : f 7 = .bool h0 := hF 7 (by decide)
    have f8 : f 8 = .pointer (some ⟨b, 0, none⟩) := hF 8 (by decide)
    have f9 : f 9 = .pointer (some ⟨b, 0, none⟩) := hF 9 (by decide)
    have f10 : f 10 = .pointer (some ⟨b, 3, none⟩) := hF 10 (by decide)
    have f11 : f 11 = .map mo := hF 11 (by decide)
    obtain ⟨mc_12, f12, -, -⟩ := hF 12 (by decide)
    obtain ⟨mb_13, f13, hMb_13, hFb_13⟩ := hF 13 (by decide)
    obtain ⟨g_14, f14, hg_14, hG_14⟩ := hF 14 (by decide)
    clear hF
    intro A hA
    simp only [grow.puts, Act.put, List.getElem?_toArray, List.getElem?_cons_zero, List.getElem?_cons_succ, Option.bind_some, List.setIfInBounds_toArray, List.set_cons_zero, List.set_cons_succ, f0, f1, f2, f3, f4, f5, f6, f7, f8, f9, f10, f11, f12, f13, f14] at hA
    subst hA
    have y0 := nodeF (o := 0) hG_14
    have y1 := nodeF (o := 1) hG_14
    have y2 := nodeF (o := 2) hG_14
    have y3 := nodeF (o := 3) hG_14
    have z0 := nodeC0 hG_14
    have z1 := nodeC1 hG_14
    have z2 := nodeC2 hG_14
    have z3 := nodeC3 hG_14
    obtain ⟨W3, hW3⟩ : ∃ V, V = (((W.setCell ⟨g_14, 0, none⟩ (.int .i64 x0)).setCell ⟨g_14, 1, none⟩ (.int .i64 0)).setCell ⟨g_14, 2, none⟩ (.bool h0)).setCell ⟨g_14, 3, none⟩ (.map mb_13) := ⟨_, rfl⟩
    have hG3 : W3.heap[g_14]? = some (.cells #[.int .i64 x0, .int .i64 0, .bool h0, .map mb_13] 50 (0, 0)) := by rw [hW3]; exact nodeSet (nodeSet (nodeSet (nodeSet hG_14)))
    have hB3 : Below w.heap.size w W3 := by rw [hW3]; exact belowSet (a := ⟨g_14, 3, none⟩) (belowSet (a := ⟨g_14, 2, none⟩) (belowSet (a := ⟨g_14, 1, none⟩) (belowSet (a := ⟨g_14, 0, none⟩) hB hg_14 _) hg_14 _) hg_14 _) hg_14 _
    have hM3 : MapAt W3 ff mb_13 := by rw [hW3]; exact (((hMb_13.set hG_14).set (nodeSet hG_14)).set (nodeSet (nodeSet hG_14))).set (nodeSet (nodeSet (nodeSet hG_14)))
    go_simp
    rw [← hW3]
    have hq := fun W => run_eql_map_nil_sl (P := Try.prog) W 48 _ _ mb_13 ru
    have k3 := nodeC3 hG3
    have f3 := nodeF (o := 3) hG3
    clear hW3 hMb_13 hG_14 hB y0 y1 y2 y3 z0 z1 z2 z3
    cases q with
    | none =>
      cases mb_13 with
      | some kb =>
        have hkl : kb < W3.heap.size := by
          obtain ⟨es, cl, hb, _⟩ := hM3
          exact (Array.getElem?_eq_some_iff.1 hb).1
        have hkb : w.heap.size ≤ kb := hFb_13 kb rfl
        have hne : g_14 ≠ kb := by
          obtain ⟨es, cl, hb, _⟩ := hM3
          rintro rfl
          rw [hG3] at hb
          cases hb
        have hB4 := hB3
        have hG4 := hG3
        have hM4 := hM3
        clear hB3 hG3 hM3 k3 hFb_13
        obtain ⟨ob, hrun, hMd⟩ := delete_run hM4 c
        obtain ⟨W5, hW5⟩ : ∃ V, V = ChangeMaps.setBlock W3 (kb) ob := ⟨_, rfl⟩
        have hM5 : MapAt W5 (updO ff c none) (some (kb)) := hMd W5 (by rw [hW5]; exact setBlock_at _ hkl)
        have hB5 : Below w.heap.size w W5 := by rw [hW5]; exact belowBlock hB4 hkb _
        have hG5 : W5.heap[g_14]? = some (.cells #[.int .i64 x0, .int .i64 0, .bool h0, .map (some (kb))] 50 (0, 0)) := by rw [hW5, setBlock_ne _ hne]; exact hG4
        rw [← hW5, ← HV.out.2.2] at hrun
        have k3 := nodeC3 hG4
        have y0 := nodeC0 hG5
        have y1 := nodeC1 hG5
        have y2 := nodeC2 hG5
        have y3 := nodeC3 hG5
        have HC := Lib.hid (counted_any W5 v 0 (some (kb)) (updO ff c none) (upd k c t) hM5 (kids_of HE.out.2.2.1 HE.out.2.2.2.1 hB5) HE.out.2.2.2.2)
        rw [← HV.out.1, ← HV.out.2.1] at HC
        have H5 := Lib.hid hB5
        clear hM4 hM5 hMd hW5 hB5 hG5 hB4 hG4 hkl hkb hne
        go_wp2_with fail
        refine HC.out.mono ?_
        rintro e w6 ⟨p6, rfl, h6, hb6⟩
        have H6 := Lib.hid (And.intro h6 hb6)
        clear h6 hb6 HC
        go_wp2_with fail
        go_ret
        exact ⟨p6, rfl, H6.out.1, belowTrans H5.out H6.out.2⟩
      | none =>
        have hmk := run_makeMap 48 W3
        have hfn : ff = fun _ => none := funext hM3
        have hgl := (Array.getElem?_eq_some_iff.1 hG3).1
        have hG3n := heapAlloc1 W3 (.map #[] 0) hG3
        have f3n := nodeF (o := 3) hG3n
        have k3n := nodeC3 hG3n
        have hG4 : ((W3.alloc (.map #[] 0)).setCell ⟨g_14, 3, none⟩ (.map (some W3.heap.size))).heap[g_14]? = some (.cells #[.int .i64 x0, .int .i64 0, .bool h0, .map (some W3.heap.size)] 50 (0, 0)) := nodeSet hG3n
        have hB4 : Below w.heap.size w ((W3.alloc (.map #[] 0)).setCell ⟨g_14, 3, none⟩ (.map (some W3.heap.size))) := belowSet (a := ⟨g_14, 3, none⟩) (belowTrans hB3 (belowAlloc W3 _)) hg_14 _
        have hM4 : MapAt ((W3.alloc (.map #[] 0)).setCell ⟨g_14, 3, none⟩ (.map (some W3.heap.size))) ff (some W3.heap.size) := MapAt.set hG3n (by rw [hfn]; exact ⟨#[], 0, heap_alloc_new W3 _, MapKept.stamped_empty 0, Ents.empty⟩)
        have hne : g_14 ≠ W3.heap.size := by omega
        have hkb : w.heap.size ≤ W3.heap.size := hB3.size
        obtain ⟨W4, hW4⟩ : ∃ V, V = ((W3.alloc (.map #[] 0)).setCell ⟨g_14, 3, none⟩ (.map (some W3.heap.size))) := ⟨_, rfl⟩
        rw [← hW4] at hG4 hB4 hM4
        have hkl : W3.heap.size < W4.heap.size := by
          obtain ⟨es, cl, hb, _⟩ := hM4
          exact (Array.getElem?_eq_some_iff.1 hb).1
        have HW4 := Lib.hid hW4
        clear hW4 hG3 hG3n hB3 hM3 hfn hgl hFb_13
        obtain ⟨ob, hrun, hMd⟩ := delete_run hM4 c
        obtain ⟨W5, hW5⟩ : ∃ V, V = ChangeMaps.setBlock W4 (W3.heap.size) ob := ⟨_, rfl⟩
        have hM5 : MapAt W5 (updO ff c none) (some (W3.heap.size)) := hMd W5 (by rw [hW5]; exact setBlock_at _ hkl)
        have hB5 : Below w.heap.size w W5 := by rw [hW5]; exact belowBlock hB4 hkb _
        have hG5 : W5.heap[g_14]? = some (.cells #[.int .i64 x0, .int .i64 0, .bool h0, .map (some (W3.heap.size))] 50 (0, 0)) := by rw [hW5, setBlock_ne _ hne]; exact hG4
        rw [← hW5, ← HV.out.2.2] at hrun
        have k3 := nodeC3 hG4
        have y0 := nodeC0 hG5
        have y1 := nodeC1 hG5
        have y2 := nodeC2 hG5
        have y3 := nodeC3 hG5
        have HC := Lib.hid (counted_any W5 v 0 (some (W3.heap.size)) (updO ff c none) (upd k c t) hM5 (kids_of HE.out.2.2.1 HE.out.2.2.2.1 hB5) HE.out.2.2.2.2)
        rw [← HV.out.1, ← HV.out.2.1] at HC
        have H5 := Lib.hid hB5
        clear hM4 hM5 hMd hW5 hB5 hG5 hB4 hG4 hkl hkb hne
        go_wp2_with fail
        rw [← HW4.out]
        clear HW4 hmk f3n f3 hq k3n
        rw [hrun]
        simp only [Result.andThen]
        rw [Oper.upon_value]
        clear hrun
        go_wp2_with fail
        refine HC.out.mono ?_
        rintro e w6 ⟨p6, rfl, h6, hb6⟩
        have H6 := Lib.hid (And.intro h6 hb6)
        clear h6 hb6 HC
        go_wp2_with fail
        go_ret
        exact ⟨p6, rfl, H6.out.1, belowTrans H5.out H6.out.2⟩
    | some a =>
      cases mb_13 with
      | some kb =>
        have hkl : kb < W3.heap.size := by
          obtain ⟨es, cl, hb, _⟩ := hM3
          exact (Array.getElem?_eq_some_iff.1 hb).1
        have hkb : w.heap.size ≤ kb := hFb_13 kb rfl
        have hne : g_14 ≠ kb := by
          obtain ⟨es, cl, hb, _⟩ := hM3
          rintro rfl
          rw [hG3] at hb
          cases hb
        have hB4 := hB3
        have hG4 := hG3
        have hM4 := hM3
        clear hB3 hG3 hM3 k3 hFb_13
        obtain ⟨ob, hrun, hMd⟩ := update hM4 c a
        obtain ⟨W5, hW5⟩ : ∃ V, V = ChangeMaps.setBlock W3 (kb) ob := ⟨_, rfl⟩
        have hM5 : MapAt W5 (updO ff c (some a)) (some (kb)) := hMd W5 (by rw [hW5]; exact setBlock_at _ hkl)
        have hB5 : Below w.heap.size w W5 := by rw [hW5]; exact belowBlock hB4 hkb _
        have hG5 : W5.heap[g_14]? = some (.cells #[.int .i64 x0, .int .i64 0, .bool h0, .map (some (kb))] 50 (0, 0)) := by rw [hW5, setBlock_ne _ hne]; exact hG4
        rw [← hW5, ← HV.out.2.2] at hrun
        have k3 := nodeC3 hG4
        have y0 := nodeC0 hG5
        have y1 := nodeC1 hG5
        have y2 := nodeC2 hG5
        have y3 := nodeC3 hG5
        have HC := Lib.hid (counted_any W5 v 0 (some (kb)) (updO ff c (some a)) (upd k c t) hM5 (kids_of HE.out.2.2.1 HE.out.2.2.2.1 hB5) HE.out.2.2.2.2)
        rw [← HV.out.1, ← HV.out.2.1] at HC
        have H5 := Lib.hid hB5
        clear hM4 hM5 hMd hW5 hB5 hG5 hB4 hG4 hkl hkb hne
        go_wp2_with fail
        refine HC.out.mono ?_
        rintro e w6 ⟨p6, rfl, h6, hb6⟩
        have H6 := Lib.hid (And.intro h6 hb6)
        clear h6 hb6 HC
        go_wp2_with fail
        go_ret
        exact ⟨p6, rfl, H6.out.1, belowTrans H5.out H6.out.2⟩
      | none =>
        have hmk := run_makeMap 48 W3
        have hfn : ff = fun _ => none := funext hM3
        have hgl := (Array.getElem?_eq_some_iff.1 hG3).1
        have hG3n := heapAlloc1 W3 (.map #[] 0) hG3
        have f3n := nodeF (o := 3) hG3n
        have k3n := nodeC3 hG3n
        have hG4 : ((W3.alloc (.map #[] 0)).setCell ⟨g_14, 3, none⟩ (.map (some W3.heap.size))).heap[g_14]? = some (.cells #[.int .i64 x0, .int .i64 0, .bool h0, .map (some W3.heap.size)] 50 (0, 0)) := nodeSet hG3n
        have hB4 : Below w.heap.size w ((W3.alloc (.map #[] 0)).setCell ⟨g_14, 3, none⟩ (.map (some W3.heap.size))) := belowSet (a := ⟨g_14, 3, none⟩) (belowTrans hB3 (belowAlloc W3 _)) hg_14 _
        have hM4 : MapAt ((W3.alloc (.map #[] 0)).setCell ⟨g_14, 3, none⟩ (.map (some W3.heap.size))) ff (some W3.heap.size) := MapAt.set hG3n (by rw [hfn]; exact ⟨#[], 0, heap_alloc_new W3 _, MapKept.stamped_empty 0, Ents.empty⟩)
        have hne : g_14 ≠ W3.heap.size := by omega
        have hkb : w.heap.size ≤ W3.heap.size := hB3.size
        obtain ⟨W4, hW4⟩ : ∃ V, V = ((W3.alloc (.map #[] 0)).setCell ⟨g_14, 3, none⟩ (.map (some W3.heap.size))) := ⟨_, rfl⟩
        rw [← hW4] at hG4 hB4 hM4
        have hkl : W3.heap.size < W4.heap.size := by
          obtain ⟨es, cl, hb, _⟩ := hM4
          exact (Array.getElem?_eq_some_iff.1 hb).1
        have HW4 := Lib.hid hW4
        clear hW4 hG3 hG3n hB3 hM3 hfn hgl hFb_13
        obtain ⟨ob, hrun, hMd⟩ := update hM4 c a
        obtain ⟨W5, hW5⟩ : ∃ V, V = ChangeMaps.setBlock W4 (W3.heap.size) ob := ⟨_, rfl⟩
        have hM5 : MapAt W5 (updO ff c (some a)) (some (W3.heap.size)) := hMd W5 (by rw [hW5]; exact setBlock_at _ hkl)
        have hB5 : Below w.heap.size w W5 := by rw [hW5]; exact belowBlock hB4 hkb _
        have hG5 : W5.heap[g_14]? = some (.cells #[.int .i64 x0, .int .i64 0, .bool h0, .map (some (W3.heap.size))] 50 (0, 0)) := by rw [hW5, setBlock_ne _ hne]; exact hG4
        rw [← hW5, ← HV.out.2.2] at hrun
        have k3 := nodeC3 hG4
        have y0 := nodeC0 hG5
        have y1 := nodeC1 hG5
        have y2 := nodeC2 hG5
        have y3 := nodeC3 hG5
        have HC := Lib.hid (counted_any W5 v 0 (some (W3.heap.size)) (updO ff c (some a)) (upd k c t) hM5 (kids_of HE.out.2.2.1 HE.out.2.2.2.1 hB5) HE.out.2.2.2.2)
        rw [← HV.out.1, ← HV.out.2.1] at HC
        have H5 := Lib.hid hB5
        clear hM4 hM5 hMd hW5 hB5 hG5 hB4 hG4 hkl hkb hne
        go_wp2_with fail
        rw [← HW4.out]
        clear HW4 hmk f3n f3 hq k3n
        rw [hrun]
        simp only [Result.andThen]
        rw [Oper.upon_skip]
        clear hrun
        go_wp2_with fail
        refine HC.out.mono ?_
        rintro e w6 ⟨p6, rfl, h6, hb6⟩
        have H6 := Lib.hid (And.intro h6 hb6)
        clear h6 hb6 HC
        go_wp2_with fail
        go_ret
        exact ⟨p6, rfl, H6.out.1, belowTrans H5.out H6.out.2⟩
end Go.Proofs.Yteglhcpochcopaa.trie
