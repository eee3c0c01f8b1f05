/- Package bino: Pop of the empty heap; Ints. -/
import Derived.Test.YtcjhbpnmkahkeaaBinoW
import Derived.Test.YtcjhbpnmkahkeaaKeepT
namespace Go.Proofs.Ytcjhbpnmkahkeaa.bino
open Go.RowKit

theorem flen_nil {f : F} (h : flen f = 0) : f = .nil := by
  cases f with
  | nil => rfl
  | node a k s => simp [flen] at h
set_option maxRecDepth 100000 in
set_option maxHeartbeats 1000000 in
theorem Pop_nil (w : World) (a : Option Addr) (c : Nat) :
    Calls Try.prog 80 #[.agg #[.slice a 0 c]] w fun e w' => e = .returned (.tuple #[.int .i64 0, .agg #[.slice none 0 0], .bool false]) ∧ Below w.heap.size w w' := by
  have h1 := heapNew2 w (.cells #[.slice a 0 c] 69) (.cells #[.slice none 0 0] 69)
  have Hb := Lib.hid (belowTrans (belowAlloc w (.cells #[.slice a 0 c] 69)) (belowAlloc _ (.cells #[.slice none 0 0] 69)))
  have H1 := Lib.hid h1
  clear h1
  go_enter Try.func80, Try.ntmps80
  go_wp2_with fail
  have hr1 := one_setCell (u := .slice none 0 0) H1.out
  have e1 := cell_of_one hr1
  first
  | exact bodyPost_ret (v := .tuple #[.int .i64 0, .agg #[.slice none 0 0], .bool false]) (by simp [results, Try.results80, go_sem, e1]) rfl ⟨rfl, Hb.out.setCell (p := ⟨w.heap.size + 1, 0, none⟩) (Nat.le_succ _) _⟩
  | exact bodyPost_ret (v := .tuple #[.int .i64 0, .agg #[.slice none 0 0], .bool false]) (by simp [results, Try.results80, go_sem]) rfl ⟨rfl, Hb.out⟩

def PopC (f : F) (x : Int) (fr : F) : Prop := ∀ (B : Nat) (w : World) (a : Option Addr) (n c : Nat), B ≤ w.heap.size → HeapR B w (.slice a n c) f →
    Calls Try.prog 80 #[.agg #[.slice a n c]] w fun e w' => ∃ a' n' c', e = .returned (.tuple #[.int .i64 x, .agg #[.slice a' n' c'], .bool true]) ∧ HeapR B w' (.slice a' n' c') fr ∧ Below w.heap.size w w'
/-- what goes out of a heap, one behind the other -/
def Chain : List Int → F → Prop
  | [], f => f = .nil
  | x :: xs, f => ∃ fr, PopC f x fr ∧ Chain xs fr
theorem chain_of (m : Nat) : ∀ f : F, f.size = m → m ≤ 17592186043950 → ∃ xs, xs.length = m ∧ Chain xs f := by
  induction m with
  | zero =>
    intro f hf _
    cases f with
    | nil => exact ⟨[], rfl, rfl⟩
    | node a k s => simp only [BT.size] at hf; omega
  | succ m ih =>
    intro f hf hm
    have h0 : 0 < flen f := by
      cases f with
      | nil => simp [BT.size] at hf
      | node a k s => simp [flen]
    obtain ⟨x, fr, h1, h2⟩ := Pop_some f h0 (by omega)
    obtain ⟨xs, h3, h4⟩ := ih fr (by omega) (by omega)
    exact ⟨x :: xs, by simp [h3], fr, h2, h4⟩
theorem Pop_chain {xs : List Int} {f : F} (h : Chain xs f) (B : Nat) (w : World) (a : Option Addr) (n c : Nat) (hB : B ≤ w.heap.size) (hH : HeapR B w (.slice a n c) f) :
    Calls Try.prog 80 #[.agg #[.slice a n c]] w fun e w' => ∃ x a' n' c' hs fr, e = .returned (.tuple #[.int .i64 x, .agg #[.slice a' n' c'], .bool hs]) ∧ HeapR B w' (.slice a' n' c') fr ∧ Below w.heap.size w w' ∧ ((hs = true ∧ ∃ rest, xs = x :: rest ∧ Chain rest fr) ∨ (hs = false ∧ xs = [])) := by
  cases xs with
  | nil =>
    obtain rfl : f = .nil := h
    obtain ⟨ps, ⟨a', c', hv, _⟩, hfo⟩ := hH
    obtain rfl : ps = [] := hfo
    injection hv with e1 e2 e3
    subst e1 e3
    rw [e2]
    refine (Pop_nil w _ _).mono ?_
    rintro e w' ⟨rfl, hb⟩
    exact ⟨0, none, 0, 0, false, .nil, rfl, ⟨[], ⟨none, 0, rfl, ⟨fun _ => rfl, Nat.le_refl _⟩, .inl rfl⟩, rfl⟩, hb, .inr ⟨rfl, rfl⟩⟩
  | cons x xs =>
    obtain ⟨fr, h1, h2⟩ := h
    refine (h1 B w a n c hB hH).mono ?_
    rintro e w' ⟨a', n', c', rfl, g1, g2⟩
    exact ⟨x, a', n', c', true, fr, rfl, g1, g2, .inl ⟨rfl, xs, rfl, h2⟩⟩
theorem RowR.keep {T : List Nat} {B : Nat} {W W' : World} {v : Value} {ps : List (Option Addr)} (h : RowR B W v ps) (hk : KeepT T W W') (ht : 117 ∉ T) : RowR B W' v ps := by
  obtain ⟨a, c, h1, h2, h3⟩ := h
  refine ⟨a, c, h1, h2, ?_⟩
  rcases h3 with h3 | ⟨b, o, h4, ⟨h5, cs, fz, h6⟩, h7⟩
  · exact .inl h3
  · refine .inr ⟨b, o, h4, ⟨h5, cs, fz, hk _ _ _ _ h6 ht⟩, fun i hi => ?_⟩
    have h8 := h7 i hi
    unfold World.cell? at h8 ⊢
    rw [h6] at h8
    rw [hk _ _ _ _ h6 ht]
    exact h8
theorem Fo.keep {T : List Nat} {B : Nat} {W W' : World} (hk : KeepT T W W') (ht : 117 ∉ T) (ht2 : 119 ∉ T) : ∀ {f : F} {ps : List (Option Addr)}, Fo B W ps f → Fo B W' ps f
  | .nil, _, h => h
  | .node _ _ _, _, ⟨b, rest, v, kps, h1, h2, h3, h4, h5, h6⟩ => ⟨b, rest, v, kps, h1, h2, hk _ _ _ _ h3 ht2, h4.keep hk ht, Fo.keep hk ht ht2 h5, Fo.keep hk ht ht2 h6⟩
end Go.Proofs.Ytcjhbpnmkahkeaa.bino
