/- Package table: low, high. -/
import Derived.Test.YtnnpeblpdkeffaaDoorTwo
import Derived.Test.YtnnpeblpdkeffaaDoorRowI
import Derived.Test.YtnnpeblpdkeffaaDoorLen64
import Derived.Test.YtnnpeblpdkeffaaDoorErrAs
import Derived.BigQuiet
namespace Go.Proofs.YtnnpeblpdkeffaaDoor.table
open Go.RowKit Go

/-- a row that reads as these numbers; its block lies from base on -/
def RdB (base : Nat) (W : World) (a : Option Addr) (xs : List Int) : Prop := xs = [] ∨ ∃ b o, a = some ⟨b, o, none⟩ ∧ base ≤ b ∧ ∀ i, i < xs.length → W.cell? ⟨b, o + i, none⟩ = some (.int .i64 (xs.getD i 0))
/-- from base on all that was there is as it was -/
def Fm (base : Nat) (W W' : World) : Prop := ∀ b o v, base ≤ b → W.cell? ⟨b, o, none⟩ = some v → W'.cell? ⟨b, o, none⟩ = some v
theorem Fm.of {base : Nat} {W W' : World} (h : Below W.heap.size W W') : Fm base W W' := fun _ _ _ _ hc => upc h hc
theorem RdB.fm {base : Nat} {W W' : World} {a : Option Addr} {xs : List Int} (h : RdB base W a xs) (hf : Fm base W W') : RdB base W' a xs := by
  rcases h with h | ⟨b, o, h1, h2, h3⟩
  · exact .inl h
  · exact .inr ⟨b, o, h1, h2, fun i hi => hf _ _ _ h2 (h3 i hi)⟩
theorem RdB.at {base : Nat} {W : World} {a : Option Addr} {xs : List Int} (h : RdB base W a xs) {i : Nat} (hi : i < xs.length) : ∃ b o, a = some ⟨b, o, none⟩ ∧ W.cell? ⟨b, o + i, none⟩ = some (.int .i64 (xs.getD i 0)) := by
  rcases h with h | ⟨b, o, h1, _, h3⟩
  · rw [h] at hi; simp at hi
  · exact ⟨b, o, h1, h3 i hi⟩
def lowF (L : List Int) (i j : Nat) : Nat := if L.getD j 0 < L.getD i 0 then j else i
def highF (L : List Int) (i j : Nat) : Nat := if L.getD i 0 < L.getD j 0 then j else i
/-- tb leads to a table over these numbers -/
structure TL (base tb n : Nat) (L : List Int) (W : World) : Prop where
  cell : ∃ la lc, W.cell? ⟨tb, 0, none⟩ = some (.slice la n lc) ∧ RdB base W la L
  len : L.length = n
  tbb : base ≤ tb
theorem TL.fm {base tb n : Nat} {L : List Int} {W W' : World} (h : TL base tb n L W) (hf : Fm base W W') : TL base tb n L W' := by
  obtain ⟨la, lc, h1, h2⟩ := h.cell
  exact ⟨⟨la, lc, hf _ _ _ h.tbb h1, h2.fm hf⟩, h.len, h.tbb⟩
set_option maxRecDepth 100000 in
set_option maxHeartbeats 1000000 in
theorem low_any (base tb n i j : Nat) (L : List Int) (w : World) (h : TL base tb n L w) (hi : i < n) (hj : j < n) :
    Calls Tryd.prog 11 #[.pointer (some ⟨tb, 0, none⟩), .int .i64 i, .int .i64 j] w fun e w' => e = .returned (.int .i64 (lowF L i j : Nat)) ∧ Below w.heap.size w w' := by
  obtain ⟨la, lc, hc, hr⟩ := h.cell
  obtain ⟨b, o, rfl, hci⟩ := hr.at (i := i) (by rw [h.len]; exact hi)
  obtain ⟨b', o', e, hcj⟩ := hr.at (i := j) (by rw [h.len]; exact hj)
  cases e
  have i0 : (0 : Int) ≤ (i : Int) := by omega
  have i1 : (i : Int) < (n : Int) := by omega
  have j0 : (0 : Int) ≤ (j : Int) := by omega
  have j1 : (j : Int) < (n : Int) := by omega
  obtain ⟨z, hz⟩ : ∃ z, z = L.getD i 0 := ⟨_, rfl⟩
  obtain ⟨y, hy⟩ : ∃ y, y = L.getD j 0 := ⟨_, rfl⟩
  rw [← hz] at hci
  rw [← hy] at hcj
  have HZ := Lib.hid (And.intro hz hy)
  clear hr h hz hy
  by_cases hyz : y < z
  · have e : lowF L i j = j := by rw [lowF, ← HZ.out.1, ← HZ.out.2, if_pos hyz]
    rw [e]
    clear e HZ
    go_enter Tryd.func11, Tryd.ntmps11
    go_wp2_with fail
    go_quiet (fail)
    go_wp2_with fail
    go_ret
    exact ⟨rfl, belowDrewN _ _⟩
  · have e : lowF L i j = i := by rw [lowF, ← HZ.out.1, ← HZ.out.2, if_neg hyz]
    rw [e]
    have hd : decide (y < z) = false := decide_eq_false hyz
    clear e HZ
    go_enter Tryd.func11, Tryd.ntmps11
    go_wp2_with fail
    go_quiet (fail)
    go_wp2_with fail
    go_ret
    exact ⟨rfl, belowDrewN _ _⟩
set_option maxRecDepth 100000 in
set_option maxHeartbeats 1000000 in
theorem high_any (base tb n i j : Nat) (L : List Int) (w : World) (h : TL base tb n L w) (hi : i < n) (hj : j < n) :
    Calls Tryd.prog 12 #[.pointer (some ⟨tb, 0, none⟩), .int .i64 i, .int .i64 j] w fun e w' => e = .returned (.int .i64 (highF L i j : Nat)) ∧ Below w.heap.size w w' := by
  obtain ⟨la, lc, hc, hr⟩ := h.cell
  obtain ⟨b, o, rfl, hci⟩ := hr.at (i := i) (by rw [h.len]; exact hi)
  obtain ⟨b', o', e, hcj⟩ := hr.at (i := j) (by rw [h.len]; exact hj)
  cases e
  have i0 : (0 : Int) ≤ (i : Int) := by omega
  have i1 : (i : Int) < (n : Int) := by omega
  have j0 : (0 : Int) ≤ (j : Int) := by omega
  have j1 : (j : Int) < (n : Int) := by omega
  obtain ⟨z, hz⟩ : ∃ z, z = L.getD i 0 := ⟨_, rfl⟩
  obtain ⟨y, hy⟩ : ∃ y, y = L.getD j 0 := ⟨_, rfl⟩
  rw [← hz] at hci
  rw [← hy] at hcj
  have HZ := Lib.hid (And.intro hz hy)
  clear hr h hz hy
  by_cases hyz : z < y
  · have e : highF L i j = j := by rw [highF, ← HZ.out.1, ← HZ.out.2, if_pos hyz]
    rw [e]
    clear e HZ
    go_enter Tryd.func12, Tryd.ntmps12
    go_wp2_with fail
    go_quiet (fail)
    go_wp2_with fail
    go_ret
    exact ⟨rfl, belowDrewN _ _⟩
  · have e : highF L i j = i := by rw [highF, ← HZ.out.1, ← HZ.out.2, if_neg hyz]
    rw [e]
    have hd : decide (z < y) = false := decide_eq_false hyz
    clear e HZ
    go_enter Tryd.func12, Tryd.ntmps12
    go_wp2_with fail
    go_quiet (fail)
    go_wp2_with fail
    go_ret
    exact ⟨rfl, belowDrewN _ _⟩
end Go.Proofs.YtnnpeblpdkeffaaDoor.table
