/- Package bino: Push, Of; which tree has the least. -/
import Derived.Test.YtnigadnjppeckaaBinoMs
import Derived.Test.YtnigadnjppeckaaBinoR
import Derived.Deep.LoopGhost
namespace Go.Proofs.Ytnigadnjppeckaa.bino
open Go.RowKit

/-- a heap: a slice of trees -/
def HeapR (B : Nat) (W : World) (v : Value) (f : F) : Prop := ∃ ps, RowR B W v ps ∧ Fo B W ps f
theorem HeapR.up {B : Nat} {W W' : World} {v : Value} {f : F} (h : HeapR B W v f) (hb : Below W.heap.size W W') : HeapR B W' v f := by
  obtain ⟨ps, h1, h2⟩ := h
  exact ⟨ps, h1.up hb, Fo.up hb h2⟩
def RetH (B : Nat) (w : World) (f : F) (e : Ending) (w' : World) : Prop := ∃ a n c, e = .returned (.agg #[.slice a n c]) ∧ HeapR B w' (.slice a n c) f ∧ Below w.heap.size w w'
/-- a store into a block of another kind -/
theorem RowR.store {B k : Nat} {W : World} {v u : Value} {ps : List (Option Addr)} {c : Array Value} {ty : Nat} {fz : Nat × Nat} (h : RowR B W v ps) (hk : W.heap[k]? = some (.cells c ty fz)) (hne : ty ≠ 168) : RowR B (W.setCell ⟨k, 0, none⟩ u) v ps := by
  obtain ⟨a, c', h1, h2, h3⟩ := h
  refine ⟨a, c', h1, h2, ?_⟩
  rcases h3 with h3 | ⟨b, o, h4, ⟨h5, cs, fz', h6⟩, h7⟩
  · exact .inl h3
  · have hbk : b ≠ k := by
      rintro rfl
      rw [hk] at h6
      cases h6
      exact hne rfl
    have e := Below.heap_setCell W ⟨k, 0, none⟩ u b (by show b ≠ k; exact hbk)
    refine .inr ⟨b, o, h4, ⟨h5, cs, fz', e.trans h6⟩, fun i hi => ?_⟩
    have h8 := h7 i hi
    unfold World.cell? at h8 ⊢
    rw [e]
    exact h8
theorem Fo.store {B k : Nat} {W : World} {u : Value} {c : Array Value} {ty : Nat} {fz : Nat × Nat} (hk : W.heap[k]? = some (.cells c ty fz)) (hne : ty ≠ 168) (hne2 : ty ≠ 170) : ∀ {t : F} {ps : List (Option Addr)}, Fo B W ps t → Fo B (W.setCell ⟨k, 0, none⟩ u) ps t
  | .nil, _, h => h
  | .node _ _ _, _, ⟨b, rest, v, kps, h1, h2, h3, h4, h5, h6⟩ => ⟨b, rest, v, kps, h1, h2, (Below.heap_setCell W ⟨k, 0, none⟩ u b (by
      show b ≠ k
      rintro rfl
      rw [hk] at h3
      cases h3
      exact hne2 rfl)).trans h3, h4.store hk hne, Fo.store hk hne hne2 h5, Fo.store hk hne hne2 h6⟩
theorem HeapR.store {B k : Nat} {W : World} {v u : Value} {f : F} {c : Array Value} {ty : Nat} {fz : Nat × Nat} (h : HeapR B W v f) (hk : W.heap[k]? = some (.cells c ty fz)) (hne : ty ≠ 168) (hne2 : ty ≠ 170) : HeapR B (W.setCell ⟨k, 0, none⟩ u) v f := by
  obtain ⟨ps, h1, h2⟩ := h
  exact ⟨ps, h1.store hk hne, Fo.store hk hne hne2 h2⟩
theorem one_tree (B : Nat) (W : World) (x : Int) (g q : Nat) (hB : B ≤ q) (hBg : B ≤ g) (hq : W.heap[q]? = some (.cells #[.int .i64 x, .int .i64 0, .slice none 0 0] 170 (0, 0))) (hg : W.heap[g]? = some (.cells #[.pointer (some ⟨q, 0, none⟩)] 168 (0, 0))) :
    RowR B W (.slice (some ⟨g, 0, none⟩) 1 1) [some ⟨q, 0, none⟩] ∧ Fo B W [some ⟨q, 0, none⟩] (.node (x, 0) .nil .nil) := by
  refine ⟨⟨_, 1, rfl, ⟨(fun h => by cases h), Nat.le_refl _⟩, .inr ⟨g, 0, rfl, ⟨hBg, _, _, hg⟩, fun i hi => ?_⟩⟩, ⟨q, [], _, [], rfl, hB, hq, ⟨none, 0, rfl, ⟨fun _ => rfl, Nat.le_refl _⟩, .inl rfl⟩, rfl, rfl⟩⟩
  obtain rfl : i = 0 := by simpa using hi
  exact cell_of_one hg

set_option maxRecDepth 100000 in
set_option maxHeartbeats 4000000 in
theorem Push_any (x : Int) (f : F) (hS : f.size ≤ 17592186043990) : ∃ fr : F, (fr.size = f.size + 1 ∧ Both (.node (x, 0) .nil .nil) f fr) ∧ (f = .nil → fr = .node (x, 0) .nil .nil) ∧ ∀ (B : Nat) (w : World) (a : Option Addr) (n c : Nat), B ≤ w.heap.size → HeapR B w (.slice a n c) f →
    Calls Try.prog 61 #[.agg #[.slice a n c], .int .i64 x] w (RetH B w fr) := by
  obtain ⟨fr, h1, h0, h2⟩ : ∃ fr : F, (fr.size = f.size + 1 ∧ Both (.node (x, 0) .nil .nil) f fr) ∧ (f = .nil → fr = .node (x, 0) .nil .nil) ∧ ∀ (B : Nat) (w : World) (va vb : Value) (ps qs : List (Option Addr)), B ≤ w.heap.size → RowR B w va ps → Fo B w ps (.node (x, 0) .nil .nil) → RowR B w vb qs → Fo B w qs f → Calls Try.prog 62 #[va, vb] w (RetF B w fr) := by
    cases f with
    | nil =>
      refine ⟨.node (x, 0) .nil .nil, ⟨rfl, Both.r _⟩, fun _ => rfl, fun B w va vb ps qs hB hRa hFa hRb hFb => ?_⟩
      obtain rfl : qs = [] := hFb
      obtain ⟨b, d, rfl, _⟩ := hRb
      have hl := Fo.len hFa
      have hRa' := hRa
      obtain ⟨a0, c0, rfl, _⟩ := hRa'
      have hn : ps.length = 0 + 1 := by rw [hl]; rfl
      rw [hn] at hRa ⊢
      refine (merged_r w a0 0 c0 b d).mono ?_
      rintro e w' ⟨rfl, rfl⟩
      exact ⟨_, ps, rfl, hRa, hFa, Below.refl _ _⟩
    | node a k s =>
      obtain ⟨fr, h1, hQ, h2⟩ := merged_any (.node (x, 0) .nil .nil) (.node a k s) (by simp only [BT.size] at hS ⊢; omega)
      exact ⟨fr, ⟨by simp only [BT.size] at h1 ⊢; omega, hQ⟩, fun h => (by cases h), h2⟩
  refine ⟨fr, h1, h0, fun B w a n c hB hH => ?_⟩
  obtain ⟨V2, hV2⟩ : ∃ V2, V2 = (w.alloc (.cells #[.slice a n c] 75)).alloc (.cells #[.slice none 0 0] 75) := ⟨_, rfl⟩
  have hb2 : Below w.heap.size w V2 := by rw [hV2]; exact belowTrans (belowAlloc _ _) (belowAlloc _ _)
  have hsz : V2.heap.size = w.heap.size + 1 + 1 := by rw [hV2]; simp
  have kp : V2.cell? ⟨w.heap.size, 0, none⟩ = some (.slice a n c) := by rw [hV2]; exact upc (belowAlloc _ _) (cell_of_one (heap_alloc_new _ _))
  have hk : V2.heap[w.heap.size + 1]? = some (.cells #[.slice none 0 0] 75 (0, 0)) := by rw [hV2]; exact heapNew2 _ _ _
  obtain ⟨V4, hV4⟩ : ∃ V4, V4 = (V2.alloc (.cells #[.int .i64 x, .int .i64 0, .slice none 0 0] 170)).alloc (.cells #[.pointer (some ⟨w.heap.size + 1 + 1, 0, none⟩)] 168) := ⟨_, rfl⟩
  have hb4 : Below V2.heap.size V2 V4 := by rw [hV4]; exact belowTrans (belowAlloc _ _) (belowAlloc _ _)
  have hq : V4.heap[w.heap.size + 1 + 1]? = some (.cells #[.int .i64 x, .int .i64 0, .slice none 0 0] 170 (0, 0)) := by rw [hV4, ← hsz]; exact heapNew1 _ _ _
  have hg : V4.heap[w.heap.size + 1 + 1 + 1]? = some (.cells #[.pointer (some ⟨w.heap.size + 1 + 1, 0, none⟩)] 168 (0, 0)) := by rw [hV4, ← hsz]; exact heapNew2 _ _ _
  obtain ⟨o1, o2⟩ := one_tree B V4 x _ _ (by omega) (by omega) hq hg
  obtain ⟨qs, o3, o4⟩ := (hH.up hb2).up hb4
  have kp4 := upc hb4 kp
  have hM := Lib.hid (h2 B V4 _ _ _ _ (by have := hb4.size; omega) o1 o2 o3 o4)
  have HV2 := Lib.hid hV2
  have HV4 := Lib.hid hV4
  have Hk := Lib.hid (upb hb4 hk)
  have Hb := Lib.hid (belowTrans hb2 hb4)
  have HBw := Lib.hid hB
  clear h1 h0 h2 hS hV2 hb2 hk hV4 hb4 hq hg o1 o2 o3 o4 hH hB
  go_enter Try.func61, Try.ntmps61
  go_wp2_with fail
  rw [← HV2.out]
  go_wp2_with fail
  rw [← HV4.out]
  refine hM.out.mono ?_
  rintro e w5 ⟨v, ps, rfl, hr, hf, hb5⟩
  have hk5 := upb hb5 Hk.out
  have c1 := cell_of_one hk5
  have f1 := free_of_one hk5
  obtain ⟨a5, c5, rfl, hrest⟩ := hr
  obtain ⟨n5, hn5⟩ : ∃ n5, n5 = ps.length := ⟨_, rfl⟩
  rw [← hn5]
  have HX := Lib.hid (And.intro (show RowR B w5 (.slice a5 n5 c5) ps from ⟨a5, c5, by rw [hn5], hrest⟩) (And.intro hf (And.intro hk5 (belowTrans Hb.out hb5))))
  clear hrest hf hk5 hb5 hM hn5
  go_wp2_with fail
  have hr1 := one_setCell (u := .slice a5 n5 c5) HX.out.2.2.1
  have e1 := cell_of_one hr1
  have hh : HeapR B w5 (.slice a5 n5 c5) fr := ⟨ps, HX.out.1, HX.out.2.1⟩
  exact bodyPost_ret (v := .agg #[.slice a5 n5 c5]) (by simp [results, Try.results61, go_sem, e1]) rfl ⟨a5, n5, c5, rfl, hh.store HX.out.2.2.1 (by decide) (by decide), HX.out.2.2.2.setCell (p := ⟨w.heap.size + 1, 0, none⟩) (Nat.le_succ _) _⟩

/-- what is known of the heap of a list's numbers -/
def OfQ (xs : List Int) (f : F) : Prop := f.size = xs.length ∧ HF f ∧ ∀ z, cF z f = xs.count z
theorem OfQ_nil : OfQ [] .nil := ⟨rfl, trivial, fun _ => rfl⟩
theorem OfQ_snoc {xs : List Int} {x : Int} {f fr : F} (h : OfQ xs f) (h1 : fr.size = f.size + 1 ∧ Both (.node (x, 0) .nil .nil) f fr) : OfQ (xs ++ [x]) fr := by
  refine ⟨by rw [h1.1, h.1]; simp, h1.2.2 (HF_one x 0) h.2.1, fun z => ?_⟩
  rw [h1.2.1 z, h.2.2 z, cF_one, List.count_append, List.count_cons]
  simp only [List.count_nil, beq_iff_eq]
  omega

set_option maxRecDepth 100000 in
set_option maxHeartbeats 4000000 in
theorem Of_any (w : World) (a : Option Addr) (c n : Nat) (xs : List Int) (hl : xs.length = n) (hn : n ≤ 17592186043980) (hr : Reads w a xs) :
    Calls Try.prog 30 #[.slice a n c] w fun e w' => ∃ f, OfQ xs f ∧ RetH w.heap.size w f e w' := by
  have HR := Lib.hid (And.intro hr hl)
  have hb2 := belowTrans (belowAlloc w (.cells #[.slice none 0 0] 75)) (belowAlloc _ (.cells #[.slice none 0 0] 75))
  have h1 := heapNew1 w (.cells #[.slice none 0 0] 75) (.cells #[.slice none 0 0] 75)
  have h2 := heapNew2 w (.cells #[.slice none 0 0] 75) (.cells #[.slice none 0 0] 75)
  have H0 := Lib.hid (And.intro hb2 (And.intro h1 h2))
  clear hr hl hb2 h1 h2
  go_enter Try.func30, Try.ntmps30
  go_wp2_with fail
  go_loopw [5, 8] (fun _ iv wr => ∃ (k : Nat) (ha : Option Addr) (hn' hc : Nat) (f : F), k ≤ n ∧ iv = .int .i64 k ∧ Hid (OfQ (xs.take k) f ∧ HeapR w.heap.size wr (.slice ha hn' hc) f ∧ Below w.heap.size w wr ∧ wr.heap[w.heap.size]? = some (.cells #[.slice none 0 0] 75 (0, 0)) ∧ wr.heap[w.heap.size + 1]? = some (.cells #[.slice ha hn' hc] 75 (0, 0)))) (fun _ iv _ => n - (intOf iv).toNat)
  case atStart => exact ⟨0, none, 0, 0, .nil, Nat.zero_le _, rfl, Lib.hid ⟨OfQ_nil, ⟨[], ⟨none, 0, rfl, ⟨fun _ => rfl, Nat.le_refl _⟩, .inl rfl⟩, rfl⟩, H0.out.1, H0.out.2.1, H0.out.2.2⟩⟩
  case round =>
    obtain ⟨k, ha, hn', hc, f, hk, rfl, HI⟩ := hrel
    have kc := cell_of_one HI.out.2.2.2.2
    by_cases hlt : k < n
    · obtain ⟨qa, oa, hap, q1⟩ : ∃ qa oa, a = some ⟨qa, oa, none⟩ ∧ w.cell? ⟨qa, oa + k, none⟩ = some (.int .i64 (xs.getD k 0)) := by
        rcases HR.out.1 with h | ⟨b, o, ha, h⟩
        · have h2 := HR.out.2; rw [h] at h2; simp at h2; omega
        · exact ⟨b, o, ha, h k (by rw [HR.out.2]; exact hlt)⟩
      subst hap
      replace q1 := upc HI.out.2.2.1 q1
      have htk : xs.take (k + 1) = xs.take k ++ [xs.getD k 0] := by
        rw [List.take_succ_eq_append_getElem (by rw [HR.out.2]; exact hlt)]
        simp [List.getD_eq_getElem?_getD, show k < xs.length by rw [HR.out.2]; exact hlt]
      obtain ⟨y, hy⟩ : ∃ y, y = xs.getD k 0 := ⟨_, rfl⟩
      rw [← hy] at q1 htk
      have hfs : f.size ≤ k := by rw [HI.out.1.1, List.length_take]; omega
      obtain ⟨fr, hf1, hf0, hf2⟩ := Push_any y f (by omega)
      have HP := Lib.hid (hf2 w.heap.size wr ha hn' hc HI.out.2.2.1.size HI.out.2.1)
      have HQ := Lib.hid (by rw [htk]; exact OfQ_snoc HI.out.1 hf1 : OfQ (xs.take (k + 1)) fr)
      have j0 : (0 : Int) ≤ (k : Int) := by omega
      have j1 : (k : Int) < (n : Int) := by omega
      clear hf1 hf0 hf2 htk hy hfs
      go_wp2_with fail
      refine HP.out.mono ?_
      rintro e w4 ⟨a4, n4, c4, rfl, hh, hb4⟩
      have hk4 := upb hb4 HI.out.2.2.2.2
      have hk0 := upb hb4 HI.out.2.2.2.1
      have c4' := cell_of_one hk4
      have f4' := free_of_one hk4
      have HN : Hid (OfQ (xs.take (k + 1)) fr ∧ HeapR w.heap.size (w4.setCell ⟨w.heap.size + 1, 0, none⟩ (.slice a4 n4 c4)) (.slice a4 n4 c4) fr ∧ Below w.heap.size w (w4.setCell ⟨w.heap.size + 1, 0, none⟩ (.slice a4 n4 c4)) ∧ (w4.setCell ⟨w.heap.size + 1, 0, none⟩ (.slice a4 n4 c4)).heap[w.heap.size]? = some (.cells #[.slice none 0 0] 75 (0, 0)) ∧ (w4.setCell ⟨w.heap.size + 1, 0, none⟩ (.slice a4 n4 c4)).heap[w.heap.size + 1]? = some (.cells #[.slice a4 n4 c4] 75 (0, 0))) :=
        Lib.hid ⟨HQ.out, hh.store hk4 (by decide) (by decide), (belowTrans HI.out.2.2.1 hb4).setCell (p := ⟨w.heap.size + 1, 0, none⟩) (Nat.le_succ _) _, (Below.heap_setCell _ _ _ _ (by simp)).trans hk0, one_setCell hk4⟩
      clear hh hb4 hk4 hk0 HP HQ kc q1 HI
      go_wp2_with fail
      exact ⟨⟨k + 1, a4, n4, c4, fr, by omega, by go_num, HN⟩, by simp [intOf]; omega⟩
    · obtain rfl : n = k := by omega
      have htk : xs.take n = xs := List.take_of_length_le (by rw [HR.out.2]; exact Nat.le_refl _)
      rw [htk] at HI
      have k0 := cell_of_one HI.out.2.2.2.1
      have f0 := free_of_one HI.out.2.2.2.1
      go_wp2_with fail
      have hr1 := one_setCell (u := .slice ha hn' hc) HI.out.2.2.2.1
      have e1 := cell_of_one hr1
      exact bodyPost_ret (v := .agg #[.slice ha hn' hc]) (by simp [results, Try.results30, go_sem, e1]) rfl ⟨f, HI.out.1, ha, hn', hc, rfl, HI.out.2.1.store HI.out.2.2.2.1 (by decide) (by decide), HI.out.2.2.1.setCell (p := ⟨w.heap.size, 0, none⟩) (Nat.le_refl _) _⟩

set_option maxRecDepth 100000 in
set_option maxHeartbeats 4000000 in
theorem Join_any (f g : F) (hS : f.size + g.size ≤ 17592186043990) : ∃ fr : F, (fr.size = f.size + g.size ∧ Both f g fr) ∧ ∀ (B : Nat) (w : World) (a : Option Addr) (n c : Nat) (b : Option Addr) (m d : Nat), B ≤ w.heap.size → HeapR B w (.slice a n c) f → HeapR B w (.slice b m d) g →
    Calls Try.prog 31 #[.agg #[.slice a n c], .agg #[.slice b m d]] w (RetH B w fr) := by
  obtain ⟨fr, h1, hQ, h2⟩ := merged_any f g (by omega)
  refine ⟨fr, ⟨h1, hQ⟩, fun B w a n c b m d hB hH hG => ?_⟩
  obtain ⟨W, hW⟩ : ∃ W, W = ((w.alloc (.cells #[.slice a n c] 75)).alloc (.cells #[.slice b m d] 75)).alloc (.cells #[.slice none 0 0] 75) := ⟨_, rfl⟩
  have hb1 : Below w.heap.size w W := by rw [hW]; exact belowTrans (belowTrans (belowAlloc _ _) (belowAlloc _ _)) (belowAlloc _ _)
  have kz : W.cell? ⟨w.heap.size, 0, none⟩ = some (.slice a n c) := by rw [hW]; exact upc (belowAlloc _ _) (cell_of_one (heapNew1 _ _ _))
  have ky : W.cell? ⟨w.heap.size + 1, 0, none⟩ = some (.slice b m d) := by rw [hW]; exact upc (belowAlloc _ _) (cell_of_one (heapNew2 _ _ _))
  have hz : W.heap[w.heap.size + 2]? = some (.cells #[.slice none 0 0] 75 (0, 0)) := by rw [hW]; have := heapNew2 (w.alloc (.cells #[.slice a n c] 75)) (.cells #[.slice b m d] 75) (.cells #[.slice none 0 0] 75); simpa using this
  obtain ⟨ps, o1, o2⟩ := hH.up hb1
  obtain ⟨qs, o3, o4⟩ := hG.up hb1
  have hM := Lib.hid (h2 B W _ _ _ _ (by have := hb1.size; omega) o1 o2 o3 o4)
  have HW := Lib.hid hW
  have HZ := Lib.hid hz
  have Hb := Lib.hid hb1
  clear h1 hQ h2 hS hW hb1 hz o1 o2 o3 o4 hH hG hB
  go_enter Try.func31, Try.ntmps31
  go_wp2_with fail
  rw [← HW.out]
  go_wp2_with fail
  refine hM.out.mono ?_
  rintro e w5 ⟨v, ps, rfl, hr, hf, hb5⟩
  have hk5 := upb hb5 HZ.out
  have c1 := cell_of_one hk5
  have f1 := free_of_one hk5
  obtain ⟨a5, c5, rfl, hrest⟩ := hr
  obtain ⟨n5, hn5⟩ : ∃ n5, n5 = ps.length := ⟨_, rfl⟩
  rw [← hn5]
  have HX := Lib.hid (And.intro (show RowR B w5 (.slice a5 n5 c5) ps from ⟨a5, c5, by rw [hn5], hrest⟩) (And.intro hf (And.intro hk5 (belowTrans Hb.out hb5))))
  clear hrest hf hk5 hb5 hM hn5
  go_wp2_with fail
  have hr1 := one_setCell (u := .slice a5 n5 c5) HX.out.2.2.1
  have e1 := cell_of_one hr1
  have hh : HeapR B w5 (.slice a5 n5 c5) fr := ⟨ps, HX.out.1, HX.out.2.1⟩
  exact bodyPost_ret (v := .agg #[.slice a5 n5 c5]) (by simp [results, Try.results31, go_sem, e1]) rfl ⟨a5, n5, c5, rfl, hh.store HX.out.2.2.1 (by decide) (by decide), HX.out.2.2.2.setCell (p := ⟨w.heap.size + 2, 0, none⟩) (by show w.heap.size ≤ w.heap.size + 2; omega) _⟩
end Go.Proofs.Ytnigadnjppeckaa.bino
