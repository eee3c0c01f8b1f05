/- Package bino: forests joined, turned round, without one tree; what a store in the middle leaves; Reverse of any row. -/
import Derived.Test.YtcjhbpnmkahkeaaBinoQ
import Derived.Test.YtcjhbpnmkahkeaaGrowD
namespace Go.Proofs.Ytcjhbpnmkahkeaa.bino
open Go.RowKit
open concatP (OwnT RetT)

def fapp : F → F → F
  | .nil, g => g
  | .node a k s, g => .node a k (fapp s g)
def frev : F → F
  | .nil => .nil
  | .node a k s => fapp (frev s) (.node a k .nil)
def fdel : F → Nat → F
  | .nil, _ => .nil
  | .node _ _ s, 0 => s
  | .node a k s, i + 1 => .node a k (fdel s i)
theorem fapp_size : ∀ f g : F, (fapp f g).size = f.size + g.size
  | .nil, g => by simp [fapp, BT.size]
  | .node a k s, g => by simp only [fapp, BT.size, fapp_size s g]; omega
theorem frev_size : ∀ f : F, (frev f).size = f.size
  | .nil => rfl
  | .node a k s => by rw [frev, fapp_size, frev_size s]; simp only [BT.size]; omega
theorem fdel_size : ∀ (f : F) (i : Nat), i < flen f → (fdel f i).size + (nthF f i).2.size + 1 = f.size
  | .nil, i, h => by simp [flen] at h
  | .node a k s, 0, _ => by simp only [fdel, nthF, BT.size]; omega
  | .node a k s, i + 1, h => by
    have := fdel_size s i (by simp only [flen] at h; omega)
    simp only [fdel, nthF, BT.size]
    omega
theorem Fo.app {B : Nat} {W : World} : ∀ {f g : F} {ps qs : List (Option Addr)}, Fo B W ps f → Fo B W qs g → Fo B W (ps ++ qs) (fapp f g)
  | .nil, _, ps, qs, h, h' => by rw [show ps = [] from h]; exact h'
  | .node _ _ _, _, _, _, ⟨b, rest, v, ks, e, h1, h2, h3, h4, h5⟩, h' => ⟨b, _, v, ks, by rw [e]; rfl, h1, h2, h3, h4, Fo.app h5 h'⟩
theorem Fo.rev {B : Nat} {W : World} : ∀ {f : F} {ps : List (Option Addr)}, Fo B W ps f → Fo B W ps.reverse (frev f)
  | .nil, ps, h => by rw [show ps = [] from h]; rfl
  | .node _ _ _, _, ⟨b, rest, v, ks, e, h1, h2, h3, h4, h5⟩ => by
    rw [e, List.reverse_cons]
    exact Fo.app (Fo.rev h5) ⟨b, [], v, ks, rfl, h1, h2, h3, h4, rfl⟩
theorem Fo.del {B : Nat} {W : World} : ∀ {f : F} {ps : List (Option Addr)}, Fo B W ps f → ∀ i, Fo B W (ps.take i ++ ps.drop (i + 1)) (fdel f i)
  | .nil, ps, h, i => by rw [show ps = [] from h]; simp [fdel, Fo]
  | .node _ _ _, _, ⟨b, rest, v, ks, e, h1, h2, h3, h4, h5⟩, 0 => by rw [e]; simpa [fdel] using h5
  | .node _ _ _, _, ⟨b, rest, v, ks, e, h1, h2, h3, h4, h5⟩, i + 1 => ⟨b, _, v, ks, by rw [e]; rfl, h1, h2, h3, h4, Fo.del h5 i⟩

theorem rev_any (B : Nat) (w : World) (v : Value) (ps : List (Option Addr)) (hBw : B ≤ w.heap.size) (hn : ps.length ≤ 17592186044416) (h : OwnT w B v ps) :
    Calls Try.prog 103 #[v] w fun e w' => e = .returned (.tuple #[]) ∧ RowR B w' v ps.reverse ∧ Below B w w' := by
  have h' := h
  rcases h'.2 with ⟨rfl, h0⟩ | ⟨g, cap, cur, rfl, hg, _⟩
  · obtain rfl : ps = [] := List.eq_nil_of_length_eq_zero h0
    clear h h' hn h0
    have hd : ¬ ((0 : Int) < -1) := by omega
    go_enter Try.func103, Try.ntmps103
    go_wp2_with fail
    go_loopw [2, 3] (fun iv jv wr => iv = .int .i64 0 ∧ jv = .int .i64 (-1) ∧ wr = w) (fun _ _ _ => 0)
    case atStart => exact ⟨rfl, rfl, rfl⟩
    case round =>
      obtain ⟨rfl, rfl, rfl⟩ := hrel
      go_wp2_with fail
      go_end0
      exact ⟨rfl, ⟨none, 0, rfl, ⟨fun _ => rfl, Nat.le_refl _⟩, .inl rfl⟩, Below.refl _ _⟩
  · refine (concatP.rev_some B w g ps.length cap ps rfl hn hg hBw h).mono ?_
    rintro e w' ⟨rfl, hF⟩
    refine ⟨rfl, ?_, hF.bel⟩
    have ho : OwnT w' B (.slice (some ⟨g, 0, none⟩) ps.reverse.length cap) ps.reverse := by
      unfold OwnT
      have h2 := hF.own
      rw [List.length_reverse]
      exact h2
    have hr := ho.row
    rw [List.length_reverse] at hr
    exact hr

theorem RowR.upS {B b : Nat} {W W' : World} {v : Value} {ps : List (Option Addr)} {c : Array Value} {ty : Nat} {fz : Nat × Nat} (h : RowR B W v ps) (hk : W.heap[b]? = some (.cells c ty fz)) (hne : ty ≠ 117) (hb : grow.BelowS [b] W W') : RowR B W' v ps := by
  obtain ⟨a, c', h1, h2, h3⟩ := h
  refine ⟨a, c', h1, h2, ?_⟩
  rcases h3 with h3 | ⟨b', o, h4, ⟨h5, cs, fz', h6⟩, h7⟩
  · exact .inl h3
  · have hbk : b' ≠ b := by
      rintro rfl
      rw [hk] at h6
      cases h6
      exact hne rfl
    exact .inr ⟨b', o, h4, ⟨h5, cs, fz', hb.up (by simpa using hbk) h6⟩, fun i hi => hb.upc (by simpa using hbk) (h7 i hi)⟩
theorem Fo.upS {B b : Nat} {W W' : World} {c : Array Value} {ty : Nat} {fz : Nat × Nat} (hk : W.heap[b]? = some (.cells c ty fz)) (hne : ty ≠ 117) (hne2 : ty ≠ 119) (hb : grow.BelowS [b] W W') : ∀ {t : F} {ps : List (Option Addr)}, Fo B W ps t → Fo B W' ps t
  | .nil, _, h => h
  | .node _ _ _, _, ⟨b', rest, v, kps, h1, h2, h3, h4, h5, h6⟩ => ⟨b', rest, v, kps, h1, h2, hb.up (by
      have : b' ≠ b := by
        rintro rfl
        rw [hk] at h3
        cases h3
        exact hne2 rfl
      simpa using this) h3, h4.upS hk hne hb, Fo.upS hk hne hne2 hb h5, Fo.upS hk hne hne2 hb h6⟩
theorem HeapR.upS {B b : Nat} {W W' : World} {v : Value} {f : F} {c : Array Value} {fz : Nat × Nat} (h : HeapR B W v f) (hk : W.heap[b]? = some (.cells c 69 fz)) (hb : grow.BelowS [b] W W') : HeapR B W' v f := by
  obtain ⟨ps, h1, h2⟩ := h
  exact ⟨ps, h1.upS hk (by decide) hb, Fo.upS hk (by decide) (by decide) hb h2⟩
end Go.Proofs.Ytcjhbpnmkahkeaa.bino
