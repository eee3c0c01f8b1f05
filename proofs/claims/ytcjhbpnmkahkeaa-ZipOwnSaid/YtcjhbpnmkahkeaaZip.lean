/- Package zip over package list: Of; Rev of the empty list; Ints. -/
import Derived.Test.YtcjhbpnmkahkeaaListInts
import Derived.Test.YtcjhbpnmkahkeaaConcat
import Derived.Test.YtcjhbpnmkahkeaaGrow
namespace Go.Proofs.Ytcjhbpnmkahkeaa.zip
open Go.RowKit Go.Shelf
open list (In)

attribute [local go_sem] Oper.semAt_some

/-- what holds between two rounds -/
def R0 (w : World) (_pre : List Int) (W : World) : Prop := (W.heap[w.heap.size + 1]? = some (.cells #[.pointer none, .int .i64 0] 26 (0, 0)) ∧ W.heap[w.heap.size + 1 + 1]? = some (.cells #[.pointer none, .int .i64 0] 26 (0, 0)) ∧ w.heap.size + 4 ≤ W.heap.size) ∧ Below w.heap.size w W
theorem R0.own (w : World) (B : Nat) (hB : w.heap.size ≤ B) : OwnFrom B (R0 w) := by
  rintro s W W' row ⟨⟨h0, h1, hz⟩, hb⟩ hg hr
  have hr' : ∀ r, row = some r → ∃ o : Obj, W.heap[r]? = some o ∧ o.isCells = false := fun r e => (hr r e).2
  exact ⟨⟨list.grown_block hg hr' h0, list.grown_block hg hr' h1, Nat.le_trans hz hg.size⟩, ownFrom_below (β := Unit) (Nat.le_refl _) hB () W W' row hb hg hr⟩

set_option maxRecDepth 100000 in
set_option maxHeartbeats 4000000 in
theorem Rev_nil (w : World) :
    Calls Try.prog 69 #[.agg #[.pointer none, .int .i64 0]] w fun e w' => e = .returned (.agg #[.pointer none, .int .i64 0]) ∧ Below w.heap.size w w' := by
  refine (callsIn_wide (n := 5)).1 ?_
  refine callsIn_of_wp_marks Try.func69 rfl trivial ?_ rfl
  simp only [Try.ntmps69, List.size_toArray, List.length_cons, List.length_nil, Nat.reduceAdd, Nat.reduceSub, Array.replicate_succ, Array.replicate_zero, List.push_toArray, List.append_toArray, List.nil_append, List.cons_append]
  gi_wp2_with (refine ⟨trivial, ?_⟩; gi_at_call 54; refine (callsIn_wide.2 (list.all_any _ _ _)).mono ?_; rintro e w' ⟨rfl, rfl⟩)
  obtain ⟨W, hW⟩ : ∃ W, W = (((w.alloc (.cells #[.pointer none, .int .i64 0] 26)).alloc (.cells #[.pointer none, .int .i64 0] 26)).alloc (.cells #[.pointer none, .int .i64 0] 26)).alloc (.cells #[.pointer none, .int .i64 0] 26) := ⟨_, rfl⟩
  have hbW : Below w.heap.size w W := by rw [hW]; exact belowTrans (belowAlloc _ _) (belowTrans (belowAlloc _ _) (belowTrans (belowAlloc _ _) (belowAlloc _ _)))
  have hsz : W.heap.size = w.heap.size + 4 := by rw [hW]; simp
  have hbx : W.heap[w.heap.size + 1 + 1 + 1]? = some (.cells #[.pointer none, .int .i64 0] 26 (0, 0)) := by
    rw [hW]
    have h := heap_alloc_new (((w.alloc (.cells #[.pointer none, .int .i64 0] 26)).alloc (.cells #[.pointer none, .int .i64 0] 26)).alloc (.cells #[.pointer none, .int .i64 0] 26)) (.cells #[.pointer none, .int .i64 0] 26)
    simpa using h
  have h1 : W.heap[w.heap.size + 1]? = some (.cells #[.pointer none, .int .i64 0] 26 (0, 0)) := by rw [hW]; exact upb (belowTrans (belowAlloc _ _) (belowAlloc _ _)) (heapNew2 _ _ _)
  have h2 : W.heap[w.heap.size + 1 + 1]? = some (.cells #[.pointer none, .int .i64 0] 26 (0, 0)) := by
    rw [hW]
    have h := heapNew2 (w.alloc (.cells #[.pointer none, .int .i64 0] 26)) (.cells #[.pointer none, .int .i64 0] 26) (.cells #[.pointer none, .int .i64 0] 26)
    rw [World.size_alloc] at h
    exact upb (belowAlloc _ _) h
  rw [← hW]
  clear hW
  refine wpIn_rangeFunc_ownF rfl (by omega) (gf := 85) (lb := #[.pointer (some ⟨w.heap.size + 1 + 1 + 1, 0, none⟩)]) (by simp [go_sem]) trivial (enters_of Try.func85 (by kernel_rfl) rfl)
    (list.all_stops Fence.wide _ trivial rfl (by omega) (w.heap.size + 1 + 1 + 1) w _ none 0 [] hbW hbx rfl) belowK_t (belowK_b (by omega)) (Below.refl _ _) (fun _ => rfl)
    (R0 w) (fun _ _ _ => False) (R0.own w _ (by omega)) (fun _ _ _ _ _ hs _ _ => hs)
    ⟨⟨h1, h2, by omega⟩, hbW⟩
    (fun x => { tmps := #[.agg #[.pointer none, .int .i64 0], .pointer (some ⟨w.heap.size, 0, none⟩), .pointer (some ⟨w.heap.size + 1, 0, none⟩), .pointer (some ⟨w.heap.size + 1 + 1, 0, none⟩), .int .i64 x, .agg #[.pointer none, .int .i64 0], .func (.func 85) #[] #[.pointer (some ⟨w.heap.size + 1 + 1 + 1, 0, none⟩)], .int .i64 x, undef, undef, undef, undef], defers := [] }) ?assign ?body ?done ?stop
  case assign =>
    intro l x W K hK
    gi_wp2
    exact hK
  case body =>
    rintro l pre x W hJ hlen
    simp at hlen
  case done =>
    rintro D ys W1 hD rfl ⟨⟨k0, k1, hz⟩, hB⟩ hK
    have c0 := two_c0 k1
    have c1 := two_c1 k1
    have d0 := two_c0 k0
    have d1 := two_c1 k0
    have f0 := two_f (o := 0) k0
    have f1 := two_f (o := 1) k0
    gi_wp2
    have hK' := ((KeepsOthers.setCell W1 ⟨w.heap.size + 1, 0, none⟩ (.pointer none)).trans (KeepsOthers.setCell _ ⟨w.heap.size + 1, 1, none⟩ (.int .i64 0))).same D _ hK rfl
    refine ⟨by simp, .inl ⟨_, _, rfl, run_takeDeferred hK', ?_⟩⟩
    have hR := two_set (u' := .pointer none) (v' := .int .i64 0) k0
    have hgr := grownBy_putObj' ((W1.setCell ⟨w.heap.size + 1, 0, none⟩ (.pointer none)).setCell ⟨w.heap.size + 1, 1, none⟩ (.int .i64 0)) D (.deferred none)
    have hrw : ∀ r, some D = some r → ∃ o : Obj, ((W1.setCell ⟨w.heap.size + 1, 0, none⟩ (.pointer none)).setCell ⟨w.heap.size + 1, 1, none⟩ (.int .i64 0)).heap[r]? = some o ∧ o.isCells = false := fun r e => by cases e; exact ⟨_, hK', rfl⟩
    have e0 := cell_kept (two_c0 hR) hgr hrw
    have e1 := cell_kept (two_c1 hR) hgr hrw
    refine ⟨.agg #[.pointer none, .int .i64 0], by simp only [results, Try.results69]; simp [go_sem, e0, e1], rfl, ?_⟩
    exact (belowSet2 (k := w.heap.size + 1) hB (Nat.le_succ _) _ _).trans (belowK_b (w := w) (Nat.le_refl _) _ D _ _ (by omega) hK' rfl rfl)
  case stop =>
    rintro D c pre W _ _ h _
    exact h.elim

/-- what a call that hands back a zipper at its beginning leaves -/
def RetZ (B : Nat) (w : World) (xs : List Int) (e : Ending) (w' : World) : Prop := ∃ p, e = .returned (.agg #[.pointer none, .int .i64 0, .pointer p, .int .i64 (xs.length : Nat)]) ∧ In B w' p xs ∧ Below w.heap.size w w'
theorem z_c {w : World} {b t : Nat} {u0 u1 u2 u3 : Value} (h : w.heap[b]? = some (.cells #[u0, u1, u2, u3] t (0, 0))) : w.cell? ⟨b, 0, none⟩ = some u0 ∧ w.cell? ⟨b, 1, none⟩ = some u1 ∧ w.cell? ⟨b, 2, none⟩ = some u2 ∧ w.cell? ⟨b, 3, none⟩ = some u3 := by simp [World.cell?, h]
theorem z_f {w : World} {b t o : Nat} {u0 u1 u2 u3 : Value} (h : w.heap[b]? = some (.cells #[u0, u1, u2, u3] t (0, 0))) : w.frozen? ⟨b, o, none⟩ = false := by simp [World.frozen?, h]
theorem z_set {w : World} {b t : Nat} {u0 u1 u2 u3 x0 x1 x2 x3 : Value} (h : w.heap[b]? = some (.cells #[u0, u1, u2, u3] t (0, 0))) : ((((w.setCell ⟨b, 0, none⟩ x0).setCell ⟨b, 1, none⟩ x1).setCell ⟨b, 2, none⟩ x2).setCell ⟨b, 3, none⟩ x3).heap[b]? = some (.cells #[x0, x1, x2, x3] t (0, 0)) := by
  have hb := (Array.getElem?_eq_some_iff.1 h).1
  simp [World.setCell, Array.getElem?_modify, h]

set_option maxRecDepth 100000 in
set_option maxHeartbeats 2000000 in
theorem Of_any (w : World) (a : Option Addr) (c : Nat) (zs : List Int) (hn : zs.length ≤ 17592186044416) (hr : Reads w a zs) :
    Calls Try.prog 35 #[.slice a zs.length c] w (RetZ w.heap.size w zs) := by
  have hb0 := belowAlloc w (.cells #[.pointer none, .int .i64 0, .pointer none, .int .i64 0] 53)
  have HO := Lib.hid (list.Of_any _ a c zs hn (hr.up hb0))
  have h0 := heap_alloc_new w (.cells #[.pointer none, .int .i64 0, .pointer none, .int .i64 0] 53)
  have H0 := Lib.hid (And.intro hb0 h0)
  clear hb0 hr h0
  go_enter Try.func35, Try.ntmps35
  go_wp2_with fail
  refine HO.out.mono ?_
  rintro e w1 ⟨p, rfl, hp, hb⟩
  have hk := upb hb H0.out.2
  obtain ⟨k0, k1, k2, k3⟩ := z_c hk
  have f0 := z_f (o := 0) hk; have f1 := z_f (o := 1) hk; have f2 := z_f (o := 2) hk; have f3 := z_f (o := 3) hk
  have HX := Lib.hid (And.intro hk (And.intro (hp.lower (B' := w.heap.size) (by simp)) (belowTrans H0.out.1 hb)))
  clear hk hp hb HO H0
  go_wp2_with fail
  have hk2 := z_set (x0 := .pointer none) (x1 := .int .i64 0) (x2 := .pointer p) (x3 := .int .i64 (zs.length : Nat)) HX.out.1
  obtain ⟨e0, e1, e2, e3⟩ := z_c hk2
  refine bodyPost_ret (v := .agg #[.pointer none, .int .i64 0, .pointer p, .int .i64 (zs.length : Nat)]) (by simp [results, Try.results35, go_sem, e0, e1, e2, e3]) rfl ⟨p, rfl, ?_, ?_⟩
  · refine In.frame (fun b _ _ c' hc => ?_) HX.out.2.1
    have hne : b ≠ w.heap.size := by
      rintro rfl
      have := HX.out.1
      rw [hc] at this
      cases this
    rw [Below.heap_setCell _ _ _ _ hne, Below.heap_setCell _ _ _ _ hne, Below.heap_setCell _ _ _ _ hne, Below.heap_setCell _ _ _ _ hne]
  · exact (((HX.out.2.2.setCell (p := ⟨w.heap.size, 0, none⟩) (Nat.le_refl _) _).setCell (p := ⟨w.heap.size, 1, none⟩) (Nat.le_refl _) _).setCell (p := ⟨w.heap.size, 2, none⟩) (Nat.le_refl _) _).setCell (p := ⟨w.heap.size, 3, none⟩) (Nat.le_refl _) _

def kSl (B : Nat) (xs : List Int) : grow.Kept := ⟨fun v W => ∃ a c, v = .slice a xs.length c ∧ OwnI 3 W B (.slice a xs.length c) xs, fun _ _ _ hb ⟨a, c, h1, h2⟩ => ⟨a, c, h1, h2.up hb⟩⟩
def kBl (B : Nat) (xs : List Int) : grow.Kept := ⟨fun v W => ∃ g a1 c1 a2 c2, v = .slice (some ⟨g, 0, none⟩) 2 2 ∧ W.heap[g]? = some (.cells #[.slice a1 0 c1, .slice a2 xs.length c2] 22 (0, 0)) ∧ OwnI 3 W B (.slice a1 0 c1) [] ∧ OwnI 3 W B (.slice a2 xs.length c2) xs,
  fun _ _ _ hb ⟨g, a1, c1, a2, c2, h1, h2, h3, h4⟩ => ⟨g, a1, c1, a2, c2, h1, upb hb h2, h3.up hb, h4.up hb⟩⟩
theorem concat2 (W : World) (B g : Nat) (a1 a2 : Option Addr) (c1 c2 : Nat) (xs : List Int) (hk : W.heap[g]? = some (.cells #[.slice a1 0 c1, .slice a2 xs.length c2] 22 (0, 0))) (h1 : OwnI 3 W B (.slice a1 0 c1) []) (h2 : OwnI 3 W B (.slice a2 xs.length c2) xs) (hn : xs.length ≤ 17592186044416) :
    Calls Try.prog 68 #[.slice (some ⟨g, 0, none⟩) 2 2] W (RetI 3 W xs) := by
  have hf : concat.flat [(a1, c1, []), (a2, c2, xs)] = xs := by simp [concat.flat]
  have h := concat.concat_any W g [(a1, c1, []), (a2, c2, xs)] 2 rfl (by decide) (fun i hi => by
    match i, hi with
    | 0, _ => exact ⟨by simp [World.cell?, hk], h1.reads, h1.none⟩
    | 1, _ => exact ⟨by simp [World.cell?, hk], h2.reads, h2.none⟩
    | i + 2, hi => omega) (by rw [hf]; exact hn)
  rw [hf] at h
  exact h

set_option maxRecDepth 100000 in
set_option maxHeartbeats 4000000 in
theorem ints_any (B : Nat) (w : World) (p : Option Addr) (xs : List Int) (h : In B w p xs) (hn : xs.length ≤ 17592186044416) :
    Calls Try.prog 36 #[.agg #[.pointer none, .int .i64 0, .pointer p, .int .i64 (xs.length : Nat)]] w (RetI 3 w xs) := by
  obtain ⟨V0, hV⟩ : ∃ V0, V0 = w.alloc (.cells #[.pointer none, .int .i64 0, .pointer p, .int .i64 (xs.length : Nat)] 53) := ⟨_, rfl⟩
  have hb0 : Below w.heap.size w V0 := by rw [hV]; exact belowAlloc _ _
  have kz := z_c (show V0.heap[w.heap.size]? = some (.cells #[.pointer none, .int .i64 0, .pointer p, .int .i64 (xs.length : Nat)] 53 (0, 0)) by rw [hV]; exact heap_alloc_new _ _)
  have Hin := Lib.hid (h.up hb0)
  have HB := Lib.hid hb0.size
  have Hb := Lib.hid hb0
  have HV := Lib.hid hV
  clear hb0 h hV
  go_enter Try.func36, Try.ntmps36
  go_wp2_with fail
  rw [← HV.out]
  refine grow.wp_grow [grow.kEq (.pointer (some ⟨w.heap.size, 0, none⟩)), grow.kEq (.agg #[.pointer none, .int .i64 0]), grow.kEq (.agg #[.pointer none, .int .i64 0]), kSl w.heap.size [], grow.kEq (.pointer (some ⟨w.heap.size, 2, none⟩)), grow.kEq (.agg #[.pointer p, .int .i64 (xs.length : Nat)]), kSl w.heap.size xs, kBl w.heap.size xs, kSl w.heap.size xs, kSl w.heap.size xs] (by kernel_rfl) (by kernel_rfl) (by kernel_rfl) (by kernel_rfl) ?step ?fin
  case step =>
    refine grow.Each.cons ?_ ?_
    · intro A W hB hs hJ K hK
      have s0 := hs 1 (by kernel_rfl)
      simp at s0
      rw [if_pos (by rfl)]
      clear hs hJ
      go_simp
      exact hK _ _ (Below.refl _ _) rfl
    refine grow.Each.cons ?_ ?_
    · intro A W hB hs hJ K hK
      have s0 : A.tmps.getD 3 undef = .pointer (some ⟨w.heap.size, 0, none⟩) := hJ 0 3 (by kernel_rfl) (by kernel_rfl)
      simp at s0
      have kk0 := upc hB kz.1
      have kk1 := upc hB kz.2.1
      rw [if_pos (by rfl)]
      clear hs hJ
      go_simp
      exact hK _ _ (Below.refl _ _) rfl
    refine grow.Each.cons ?_ ?_
    · intro A W hB hs hJ K hK
      have s0 : A.tmps.getD 4 undef = .agg #[.pointer none, .int .i64 0] := hJ 1 4 (by kernel_rfl) (by kernel_rfl)
      simp at s0
      rw [if_pos (by rfl)]
      clear hs hJ
      go_simp
      go_at_call 69
      refine (Rev_nil W).mono ?_
      rintro e W2 ⟨rfl, hbn⟩
      exact hK _ _ hbn rfl
    refine grow.Each.cons ?_ ?_
    · intro A W hB hs hJ K hK
      have s0 : A.tmps.getD 5 undef = .agg #[.pointer none, .int .i64 0] := hJ 2 5 (by kernel_rfl) (by kernel_rfl)
      simp at s0
      rw [if_pos (by rfl)]
      clear hs hJ
      go_simp
      go_at_call 18
      refine (list.ints_any 0 W none [] rfl (by simp)).mono ?_
      rintro e W2 ⟨a, c, rfl, ho, hbn⟩
      exact hK _ _ hbn ⟨a, c, rfl, ownsRow_lower ho (Nat.le_trans HB.out hB.size)⟩
    refine grow.Each.cons ?_ ?_
    · intro A W hB hs hJ K hK
      have s0 := hs 1 (by kernel_rfl)
      simp at s0
      rw [if_pos (by rfl)]
      clear hs hJ
      go_simp
      exact hK _ _ (Below.refl _ _) rfl
    refine grow.Each.cons ?_ ?_
    · intro A W hB hs hJ K hK
      have s0 : A.tmps.getD 7 undef = .pointer (some ⟨w.heap.size, 2, none⟩) := hJ 4 7 (by kernel_rfl) (by kernel_rfl)
      simp at s0
      have kk0 := upc hB kz.2.2.1
      have kk1 := upc hB kz.2.2.2
      rw [if_pos (by rfl)]
      clear hs hJ
      go_simp
      exact hK _ _ (Below.refl _ _) rfl
    refine grow.Each.cons ?_ ?_
    · intro A W hB hs hJ K hK
      have s0 : A.tmps.getD 8 undef = .agg #[.pointer p, .int .i64 (xs.length : Nat)] := hJ 5 8 (by kernel_rfl) (by kernel_rfl)
      simp at s0
      rw [if_pos (by rfl)]
      clear hs hJ
      go_simp
      go_at_call 18
      refine (list.ints_any B W p xs (Hin.out.up hB) hn).mono ?_
      rintro e W2 ⟨a, c, rfl, ho, hbn⟩
      exact hK _ _ hbn ⟨a, c, rfl, ownsRow_lower ho (Nat.le_trans HB.out hB.size)⟩
    refine grow.Each.cons ?_ ?_
    · intro A W hB hs hJ K hK
      obtain ⟨a1, c1, s0, o1⟩ := hJ 3 6 (by kernel_rfl) (by kernel_rfl)
      simp at s0
      obtain ⟨a2, c2, s1, o2⟩ := hJ 6 9 (by kernel_rfl) (by kernel_rfl)
      simp at s1
      rw [if_pos (by rfl)]
      clear hs hJ
      go_simp
      exact hK _ _ (belowAlloc _ _) ⟨_, a1, c1, a2, c2, rfl, heap_alloc_new _ _, o1.up (belowAlloc _ _), o2.up (belowAlloc _ _)⟩
    refine grow.Each.cons ?_ ?_
    · intro A W hB hs hJ K hK
      obtain ⟨g, a1, c1, a2, c2, s0, k1, o1, o2⟩ := hJ 7 10 (by kernel_rfl) (by kernel_rfl)
      simp at s0
      rw [if_pos (by rfl)]
      clear hs hJ
      go_simp
      go_at_call 68
      refine (concat2 W w.heap.size g a1 a2 c1 c2 xs k1 o1 o2 hn).mono ?_
      rintro e W2 ⟨a, c, rfl, ho, hbn⟩
      exact hK _ _ hbn ⟨a, c, rfl, ownsRow_lower ho (Nat.le_trans HB.out hB.size)⟩
    refine grow.Each.cons ?_ ?_
    · intro A W hB hs hJ K hK
      obtain ⟨a2, c2, s0, o2⟩ := hJ 8 11 (by kernel_rfl) (by kernel_rfl)
      simp at s0
      rw [if_pos (by rfl)]
      clear hs hJ
      go_simp
      exact hK _ _ (Below.refl _ _) ⟨a2, c2, rfl, o2⟩
    exact grow.Each.nil
  case fin =>
    intro f W hB hF
    have f0 : f 0 = .pointer (some ⟨w.heap.size, 0, none⟩) := hF 0 (by decide)
    have f1 : f 1 = .agg #[.pointer none, .int .i64 0] := hF 1 (by decide)
    have f2 : f 2 = .agg #[.pointer none, .int .i64 0] := hF 2 (by decide)
    obtain ⟨a1_3, c1_3, f3, o1_3⟩ := hF 3 (by decide)
    have f4 : f 4 = .pointer (some ⟨w.heap.size, 2, none⟩) := hF 4 (by decide)
    have f5 : f 5 = .agg #[.pointer p, .int .i64 (xs.length : Nat)] := hF 5 (by decide)
    obtain ⟨a2_6, c2_6, f6, o2_6⟩ := hF 6 (by decide)
    obtain ⟨g_7, a1_7, c1_7, a2_7, c2_7, f7, k1_7, o1_7, o2_7⟩ := hF 7 (by decide)
    obtain ⟨a2_8, c2_8, f8, o2_8⟩ := hF 8 (by decide)
    obtain ⟨a2_9, c2_9, f9, o2_9⟩ := hF 9 (by decide)
    clear hF
    generalize hA : grow.puts _ _ f _ = A'
    simp only [List.length_cons, List.length_nil, Nat.reduceAdd, grow.puts, Act.put, List.getElem?_toArray, List.getElem?_cons_zero, List.getElem?_cons_succ, Option.bind_some, List.setIfInBounds_toArray, List.set_cons_zero, List.set_cons_succ, f0, f1, f2, f3, f4, f5, f6, f7, f8, f9] at hA
    subst hA
    have Ho := Lib.hid o2_9
    have HbW := Lib.hid (belowTrans Hb.out hB)
    clear hB
    go_wp2_with fail
    go_ret
    exact RetI.mk Ho.out HbW.out
end Go.Proofs.Ytcjhbpnmkahkeaa.zip
