/- Package bino: which tree has the least number. -/
import Derived.Test.YtnigadnjppeckaaBinoPs
import Derived.Test.YtnigadnjppeckaaGrowD
import Derived.Test.YtnigadnjppeckaaBinoN
namespace Go.Proofs.Ytnigadnjppeckaa.bino
open Go.RowKit

/-- the i-th tree: its number and rank, its kids -/
def nthF : F → Nat → (Int × Int) × F
  | .nil, _ => ((0, 0), .nil)
  | .node a k _, 0 => (a, k)
  | .node _ _ s, i + 1 => nthF s i
theorem Fo.at {B : Nat} {W : World} : ∀ {f : F} {ps : List (Option Addr)}, Fo B W ps f → ∀ i, i < flen f → ∃ b v ks, ps.getD i none = some ⟨b, 0, none⟩ ∧ B ≤ b ∧ W.heap[b]? = some (.cells #[.int .i64 (nthF f i).1.1, .int .i64 (nthF f i).1.2, v] 170 (0, 0)) ∧ RowR B W v ks ∧ Fo B W ks (nthF f i).2
  | .nil, _, _, i, hi => by simp [flen] at hi
  | .node a k s, _, ⟨b, rest, v, ks, e, h1, h2, h3, h4, h5⟩, 0, _ => ⟨b, v, ks, by rw [e]; rfl, h1, h2, h3, h4⟩
  | .node a k s, _, ⟨b, rest, v, ks, e, h1, h2, h3, h4, h5⟩, i + 1, hi => by
    obtain ⟨b', v', ks', g1, g2⟩ := Fo.at h5 i (by simp only [flen] at hi; omega)
    exact ⟨b', v', ks', by rw [e]; simpa using g1, g2⟩
/-- the place of the least among the first i -/
def bestOf (f : F) : Nat → Nat
  | 0 => 0
  | i + 1 => if (nthF f i).1.1 < (nthF f (bestOf f i)).1.1 then i else bestOf f i
theorem bestOf_lt (f : F) (h : 0 < flen f) : ∀ i, i ≤ flen f → bestOf f i < flen f := by
  intro i
  induction i with
  | zero => intro _; exact h
  | succ i ih =>
    intro hi
    unfold bestOf
    split
    · omega
    · exact ih (by omega)

set_option maxRecDepth 100000 in
set_option maxHeartbeats 4000000 in
theorem least_any (B : Nat) (w : World) (a : Option Addr) (n c : Nat) (f : F) (h : HeapR B w (.slice a n c) f) (hf : 0 < flen f) (hs : f.size ≤ 17592186044000) :
    Calls Try.prog 102 #[.agg #[.slice a n c]] w fun e w' => e = .returned (.int .i64 (bestOf f (flen f) : Nat)) ∧ Below w.heap.size w w' := by
  obtain ⟨ps, ⟨a', c', hv, ⟨_, hnc⟩, hrow⟩, hfo⟩ := h
  injection hv with e1 e2 e3
  subst e1 e2 e3
  have hlen := Fo.len hfo
  have hfs := flen_size f
  rcases hrow with h0 | ⟨g, o, rfl, _, hc⟩
  · rw [h0] at hlen; simp at hlen; omega
  · obtain ⟨n, hn⟩ : ∃ n, n = ps.length := ⟨_, rfl⟩
    rw [← hn] at hc hlen ⊢
    rw [← hlen]
    have hnb : n ≤ 17592186044000 := by omega
    have hn0 : 0 < n := by omega
    have hb0 := belowAlloc w (.cells #[.slice (some ⟨g, o, none⟩) n c] 75)
    have hat : ∀ W, Below w.heap.size w W → ∀ i, i < n → ∃ b, W.cell? ⟨g, o + i, none⟩ = some (.pointer (some ⟨b, 0, none⟩)) ∧ W.cell? ⟨b, 0, none⟩ = some (.int .i64 (nthF f i).1.1) := fun W hW i hi => by
      obtain ⟨b, v, ks, g1, _, g2, _⟩ := Fo.at hfo i (by omega)
      refine ⟨b, ?_, upc hW (by simp [World.cell?, g2])⟩
      rw [← g1]
      exact upc hW (hc i hi)
    have Hat := Lib.hid hat
    have Hlt : Hid (∀ i, i ≤ n → bestOf f i < n) := Lib.hid (fun i hi => by have := bestOf_lt f hf i (by omega); omega)
    have kb := cell_of_one (heap_alloc_new w (.cells #[.slice (some ⟨g, o, none⟩) n c] 75))
    have Hb0 := Lib.hid hb0
    obtain ⟨V, hV⟩ : ∃ V, V = w.alloc (.cells #[.slice (some ⟨g, o, none⟩) n c] 75) := ⟨_, rfl⟩
    rw [← hV] at kb Hb0
    have HV := Lib.hid hV
    clear hnc hfo hlen hfs hc hb0 hat hf hn hs hV
    go_enter Try.func102, Try.ntmps102
    go_wp2_with fail
    rw [← HV.out]
    go_wp2_with fail
    go_loopw [3, 4, 5, 9] (fun bv _ _ iv wr => ∃ k : Nat, k ≤ n ∧ iv = .int .i64 k ∧ bv = .int .i64 (bestOf f k : Nat) ∧ Hid (Below V.heap.size V wr)) (fun _ _ _ iv _ => n - (intOf iv).toNat)
    case atStart => exact ⟨0, Nat.zero_le _, rfl, rfl, Lib.hid (Below.refl _ _)⟩
    case round =>
      obtain ⟨k, hk, rfl, rfl, HB⟩ := hrel
      by_cases hlt : k < n
      · obtain ⟨b, q1, q2⟩ := Hat.out wr (belowTrans Hb0.out HB.out) k hlt
        have hbl := Hlt.out k hk
        obtain ⟨b', q3, q4⟩ := Hat.out wr (belowTrans Hb0.out HB.out) (bestOf f k) hbl
        have kb2 := upc HB.out kb
        obtain ⟨m, hm⟩ : ∃ m, m = bestOf f k := ⟨_, rfl⟩
        have hnext : bestOf f (k + 1) = if (nthF f k).1.1 < (nthF f m).1.1 then k else m := by rw [hm]; rfl
        rw [← hm] at q3 q4 hbl
        rw [← hm]
        obtain ⟨x, hx⟩ : ∃ x, x = (nthF f k).1.1 := ⟨_, rfl⟩
        obtain ⟨y, hy⟩ : ∃ y, y = (nthF f m).1.1 := ⟨_, rfl⟩
        rw [← hx] at q2 hnext
        rw [← hy] at q4 hnext
        have h0 : (0 : Int) ≤ (k : Int) := by omega
        have h1 : (k : Int) < (n : Int) := by omega
        have h2 : (0 : Int) ≤ (m : Int) := by omega
        have h3 : (m : Int) < (n : Int) := by omega
        have HN := Lib.hid hnext
        have HK := Lib.hid HB.out
        clear hm hx hy hnext hbl
        by_cases hxy : x < y
        · have hd : decide (x < y) = true := by simpa using hxy
          have hN : bestOf f (k + 1) = k := by rw [HN.out, if_pos hxy]
          have HN2 := Lib.hid hN
          clear hN HN
          go_wp2_with fail
          go_quiet (fail)
          go_wp2_with fail
          exact ⟨⟨k + 1, hlt, by go_num, by rw [HN2.out], Lib.hid (belowTrans HK.out (belowDrewN _ _))⟩, by simp [intOf]; omega⟩
        · have hd : decide (x < y) = false := by simpa using hxy
          have hN : bestOf f (k + 1) = m := by rw [HN.out, if_neg hxy]
          have HN2 := Lib.hid hN
          clear hN HN
          go_wp2_with fail
          go_quiet (fail)
          go_wp2_with fail
          exact ⟨⟨k + 1, hlt, by go_num, by rw [HN2.out], Lib.hid (belowTrans HK.out (belowDrewN _ _))⟩, by simp [intOf]; omega⟩
      · obtain rfl : n = k := by omega
        have HK := Lib.hid (belowTrans Hb0.out HB.out)
        go_wp2_with fail
        go_ret
        exact ⟨rfl, HK.out⟩
end Go.Proofs.Ytnigadnjppeckaa.bino
/- Package bino: forests joined, turned round, without one tree; what a store in the middle leaves; Reverse of any row. -/
namespace Go.Proofs.Ytnigadnjppeckaa.bino
open Go.RowKit
open concatP (OwnT RetT)

def fapp : F → F → F
  | .nil, g => g
  | .node a k s, g => .node a k (fapp s g)
def frev : F → F
  | .nil => .nil
  | .node a k s => fapp (frev s) (.node a k .nil)
def fdel : F → Nat → F
  | .nil, _ => .nil
  | .node _ _ s, 0 => s
  | .node a k s, i + 1 => .node a k (fdel s i)
theorem fapp_size : ∀ f g : F, (fapp f g).size = f.size + g.size
  | .nil, g => by simp [fapp, BT.size]
  | .node a k s, g => by simp only [fapp, BT.size, fapp_size s g]; omega
theorem frev_size : ∀ f : F, (frev f).size = f.size
  | .nil => rfl
  | .node a k s => by rw [frev, fapp_size, frev_size s]; simp only [BT.size]; omega
theorem fdel_size : ∀ (f : F) (i : Nat), i < flen f → (fdel f i).size + (nthF f i).2.size + 1 = f.size
  | .nil, i, h => by simp [flen] at h
  | .node a k s, 0, _ => by simp only [fdel, nthF, BT.size]; omega
  | .node a k s, i + 1, h => by
    have := fdel_size s i (by simp only [flen] at h; omega)
    simp only [fdel, nthF, BT.size]
    omega
theorem Fo.app {B : Nat} {W : World} : ∀ {f g : F} {ps qs : List (Option Addr)}, Fo B W ps f → Fo B W qs g → Fo B W (ps ++ qs) (fapp f g)
  | .nil, _, ps, qs, h, h' => by rw [show ps = [] from h]; exact h'
  | .node _ _ _, _, _, _, ⟨b, rest, v, ks, e, h1, h2, h3, h4, h5⟩, h' => ⟨b, _, v, ks, by rw [e]; rfl, h1, h2, h3, h4, Fo.app h5 h'⟩
theorem Fo.rev {B : Nat} {W : World} : ∀ {f : F} {ps : List (Option Addr)}, Fo B W ps f → Fo B W ps.reverse (frev f)
  | .nil, ps, h => by rw [show ps = [] from h]; rfl
  | .node _ _ _, _, ⟨b, rest, v, ks, e, h1, h2, h3, h4, h5⟩ => by
    rw [e, List.reverse_cons]
    exact Fo.app (Fo.rev h5) ⟨b, [], v, ks, rfl, h1, h2, h3, h4, rfl⟩
theorem Fo.del {B : Nat} {W : World} : ∀ {f : F} {ps : List (Option Addr)}, Fo B W ps f → ∀ i, Fo B W (ps.take i ++ ps.drop (i + 1)) (fdel f i)
  | .nil, ps, h, i => by rw [show ps = [] from h]; simp [fdel, Fo]
  | .node _ _ _, _, ⟨b, rest, v, ks, e, h1, h2, h3, h4, h5⟩, 0 => by rw [e]; simpa [fdel] using h5
  | .node _ _ _, _, ⟨b, rest, v, ks, e, h1, h2, h3, h4, h5⟩, i + 1 => ⟨b, _, v, ks, by rw [e]; rfl, h1, h2, h3, h4, Fo.del h5 i⟩

theorem rev_any (B : Nat) (w : World) (v : Value) (ps : List (Option Addr)) (hBw : B ≤ w.heap.size) (hn : ps.length ≤ 17592186044416) (h : OwnT w B v ps) :
    Calls Try.prog 104 #[v] w fun e w' => e = .returned (.tuple #[]) ∧ RowR B w' v ps.reverse ∧ Below B w w' := by
  have h' := h
  rcases h'.2 with ⟨rfl, h0⟩ | ⟨g, cap, cur, rfl, hg, _⟩
  · obtain rfl : ps = [] := List.eq_nil_of_length_eq_zero h0
    clear h h' hn h0
    have hd : ¬ ((0 : Int) < -1) := by omega
    go_enter Try.func104, Try.ntmps104
    go_wp2_with fail
    go_loopw [2, 3] (fun iv jv wr => iv = .int .i64 0 ∧ jv = .int .i64 (-1) ∧ wr = w) (fun _ _ _ => 0)
    case atStart => exact ⟨rfl, rfl, rfl⟩
    case round =>
      obtain ⟨rfl, rfl, rfl⟩ := hrel
      go_wp2_with fail
      go_end0
      exact ⟨rfl, ⟨none, 0, rfl, ⟨fun _ => rfl, Nat.le_refl _⟩, .inl rfl⟩, Below.refl _ _⟩
  · refine (concatP.rev_some B w g ps.length cap ps rfl hn hg hBw h).mono ?_
    rintro e w' ⟨rfl, hF⟩
    refine ⟨rfl, ?_, hF.bel⟩
    have ho : OwnT w' B (.slice (some ⟨g, 0, none⟩) ps.reverse.length cap) ps.reverse := by
      unfold OwnT
      have h2 := hF.own
      rw [List.length_reverse]
      exact h2
    have hr := ho.row
    rw [List.length_reverse] at hr
    exact hr

theorem RowR.upS {B b : Nat} {W W' : World} {v : Value} {ps : List (Option Addr)} {c : Array Value} {ty : Nat} {fz : Nat × Nat} (h : RowR B W v ps) (hk : W.heap[b]? = some (.cells c ty fz)) (hne : ty ≠ 168) (hb : grow.BelowS [b] W W') : RowR B W' v ps := by
  obtain ⟨a, c', h1, h2, h3⟩ := h
  refine ⟨a, c', h1, h2, ?_⟩
  rcases h3 with h3 | ⟨b', o, h4, ⟨h5, cs, fz', h6⟩, h7⟩
  · exact .inl h3
  · have hbk : b' ≠ b := by
      rintro rfl
      rw [hk] at h6
      cases h6
      exact hne rfl
    exact .inr ⟨b', o, h4, ⟨h5, cs, fz', hb.up (by simpa using hbk) h6⟩, fun i hi => hb.upc (by simpa using hbk) (h7 i hi)⟩
theorem Fo.upS {B b : Nat} {W W' : World} {c : Array Value} {ty : Nat} {fz : Nat × Nat} (hk : W.heap[b]? = some (.cells c ty fz)) (hne : ty ≠ 168) (hne2 : ty ≠ 170) (hb : grow.BelowS [b] W W') : ∀ {t : F} {ps : List (Option Addr)}, Fo B W ps t → Fo B W' ps t
  | .nil, _, h => h
  | .node _ _ _, _, ⟨b', rest, v, kps, h1, h2, h3, h4, h5, h6⟩ => ⟨b', rest, v, kps, h1, h2, hb.up (by
      have : b' ≠ b := by
        rintro rfl
        rw [hk] at h3
        cases h3
        exact hne2 rfl
      simpa using this) h3, h4.upS hk hne hb, Fo.upS hk hne hne2 hb h5, Fo.upS hk hne hne2 hb h6⟩
theorem HeapR.upS {B b : Nat} {W W' : World} {v : Value} {f : F} {c : Array Value} {fz : Nat × Nat} (h : HeapR B W v f) (hk : W.heap[b]? = some (.cells c 75 fz)) (hb : grow.BelowS [b] W W') : HeapR B W' v f := by
  obtain ⟨ps, h1, h2⟩ := h
  exact ⟨ps, h1.upS hk (by decide) hb, Fo.upS hk (by decide) (by decide) hb h2⟩
end Go.Proofs.Ytnigadnjppeckaa.bino
/- Package bino, plain: which number is the least; a forest turned round, without one tree. -/
namespace Go.Proofs.Ytnigadnjppeckaa.bino

theorem cF_fapp (z : Int) : ∀ f g : F, cF z (fapp f g) = cF z f + cF z g
  | .nil, g => by simp [fapp, cF]
  | .node a k s, g => by simp only [fapp, cF, cF_fapp z s g]; omega
theorem cF_frev (z : Int) : ∀ f : F, cF z (frev f) = cF z f
  | .nil => rfl
  | .node a k s => by rw [frev, cF_fapp, cF_frev z s]; simp only [cF]; omega
theorem HF_fapp : ∀ {f g : F}, HF f → HF g → HF (fapp f g)
  | .nil, _, _, h => h
  | .node _ _ _, _, h, h' => ⟨h.1, h.2.1, HF_fapp h.2.2 h'⟩
theorem HF_frev : ∀ {f : F}, HF f → HF (frev f)
  | .nil, _ => trivial
  | .node _ _ _, h => HF_fapp (HF_frev h.2.2) ⟨h.1, h.2.1, trivial⟩
theorem cF_node (z : Int) (a : Int × Int) (k s : F) : cF z (.node a k s) = cF z (.node a .nil .nil) + cF z k + cF z s := by simp only [cF]; omega
theorem cF_fdel (z : Int) : ∀ (f : F) (i : Nat), i < flen f → cF z (fdel f i) + cF z (nthF f i).2 + cF z (.node (nthF f i).1 .nil .nil) = cF z f
  | .nil, i, h => by simp [flen] at h
  | .node a k s, 0, _ => by rw [cF_node z a k s]; simp only [fdel, nthF]; omega
  | .node a k s, i + 1, h => by
    have := cF_fdel z s i (by simp only [flen] at h; omega)
    rw [cF_node z a k s]
    simp only [fdel, nthF]
    rw [cF_node z a k (fdel s i)]
    omega
theorem HF_fdel : ∀ {f : F} (i : Nat), HF f → HF (fdel f i)
  | .nil, _, _ => trivial
  | .node _ _ _, 0, h => h.2.2
  | .node _ _ _, i + 1, h => ⟨h.1, h.2.1, HF_fdel i h.2.2⟩
theorem HF_nth : ∀ {f : F} (i : Nat), HF f → HF (nthF f i).2
  | .nil, _, _ => trivial
  | .node _ _ _, 0, h => h.2.1
  | .node _ _ _, i + 1, h => HF_nth i h.2.2
/-- every number is not below the top of some tree -/
theorem HF_top (y : Int) : ∀ {f : F}, HF f → 0 < cF y f → ∃ i, i < flen f ∧ (nthF f i).1.1 ≤ y
  | .nil, _, h => by simp [cF] at h
  | .node a k s, hf, h => by
    by_cases e : a.1 = y
    · exact ⟨0, by simp [flen], by simp only [nthF]; omega⟩
    · simp only [cF, if_neg e] at h
      by_cases e2 : 0 < cF y k
      · exact ⟨0, by simp [flen], hf.1 y e2⟩
      · obtain ⟨i, h1, h2⟩ := HF_top y hf.2.2 (by omega)
        exact ⟨i + 1, by simp only [flen]; omega, h2⟩
theorem best_le (f : F) : ∀ i, ∀ j, j < i → (nthF f (bestOf f i)).1.1 ≤ (nthF f j).1.1
  | 0, j, h => by omega
  | i + 1, j, h => by
    have ih := best_le f i
    unfold bestOf
    by_cases hc : (nthF f i).1.1 < (nthF f (bestOf f i)).1.1
    · rw [if_pos hc]
      by_cases e : j = i
      · subst e; omega
      · have := ih j (by omega)
        omega
    · rw [if_neg hc]
      by_cases e : j = i
      · subst e; omega
      · exact ih j (by omega)
/-- what is known of a heap without its least number -/
def Out (f : F) (x : Int) (fr : F) : Prop := (∀ z, cF z fr + (if x = z then 1 else 0) = cF z f) ∧ (HF f → HF fr ∧ ∀ y, 0 < cF y f → x ≤ y)
theorem Out.mk {f fr : F} {i : Nat} (hi : i = bestOf f (flen f)) (hlt : i < flen f) (h : Both (frev (nthF f i).2) (fdel f i) fr) : Out f (nthF f i).1.1 fr := by
  refine ⟨fun z => ?_, fun hf => ⟨h.2 (HF_frev (HF_nth i hf)) (HF_fdel i hf), fun y hy => ?_⟩⟩
  · have := cF_fdel z f i hlt
    simp only [cF] at this
    rw [h.1 z, cF_frev]
    by_cases e : (nthF f i).1.1 = z
    · rw [if_pos e] at this ⊢
      omega
    · rw [if_neg e] at this ⊢
      omega
  · obtain ⟨j, h1, h2⟩ := HF_top y hf hy
    have := best_le f (flen f) j h1
    rw [← hi] at this
    omega
end Go.Proofs.Ytnigadnjppeckaa.bino
