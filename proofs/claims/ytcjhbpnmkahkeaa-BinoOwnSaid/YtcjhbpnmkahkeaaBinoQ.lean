/- Package bino: which tree has the least number. -/
import Derived.Test.YtcjhbpnmkahkeaaBinoP
namespace Go.Proofs.Ytcjhbpnmkahkeaa.bino
open Go.RowKit

/-- the i-th tree: its number and rank, its kids -/
def nthF : F → Nat → (Int × Int) × F
  | .nil, _ => ((0, 0), .nil)
  | .node a k _, 0 => (a, k)
  | .node _ _ s, i + 1 => nthF s i
theorem Fo.at {B : Nat} {W : World} : ∀ {f : F} {ps : List (Option Addr)}, Fo B W ps f → ∀ i, i < flen f → ∃ b v ks, ps.getD i none = some ⟨b, 0, none⟩ ∧ B ≤ b ∧ W.heap[b]? = some (.cells #[.int .i64 (nthF f i).1.1, .int .i64 (nthF f i).1.2, v] 119 (0, 0)) ∧ RowR B W v ks ∧ Fo B W ks (nthF f i).2
  | .nil, _, _, i, hi => by simp [flen] at hi
  | .node a k s, _, ⟨b, rest, v, ks, e, h1, h2, h3, h4, h5⟩, 0, _ => ⟨b, v, ks, by rw [e]; rfl, h1, h2, h3, h4⟩
  | .node a k s, _, ⟨b, rest, v, ks, e, h1, h2, h3, h4, h5⟩, i + 1, hi => by
    obtain ⟨b', v', ks', g1, g2⟩ := Fo.at h5 i (by simp only [flen] at hi; omega)
    exact ⟨b', v', ks', by rw [e]; simpa using g1, g2⟩
/-- the place of the least among the first i -/
def bestOf (f : F) : Nat → Nat
  | 0 => 0
  | i + 1 => if (nthF f i).1.1 < (nthF f (bestOf f i)).1.1 then i else bestOf f i
theorem bestOf_lt (f : F) (h : 0 < flen f) : ∀ i, i ≤ flen f → bestOf f i < flen f := by
  intro i
  induction i with
  | zero => intro _; exact h
  | succ i ih =>
    intro hi
    unfold bestOf
    split
    · omega
    · exact ih (by omega)

set_option maxRecDepth 100000 in
set_option maxHeartbeats 4000000 in
theorem least_any (B : Nat) (w : World) (a : Option Addr) (n c : Nat) (f : F) (h : HeapR B w (.slice a n c) f) (hf : 0 < flen f) (hs : f.size ≤ 17592186044000) :
    Calls Try.prog 101 #[.agg #[.slice a n c]] w fun e w' => e = .returned (.int .i64 (bestOf f (flen f) : Nat)) ∧ Below w.heap.size w w' := by
  obtain ⟨ps, ⟨a', c', hv, ⟨_, hnc⟩, hrow⟩, hfo⟩ := h
  injection hv with e1 e2 e3
  subst e1 e2 e3
  have hlen := Fo.len hfo
  have hfs := flen_size f
  rcases hrow with h0 | ⟨g, o, rfl, _, hc⟩
  · rw [h0] at hlen; simp at hlen; omega
  · obtain ⟨n, hn⟩ : ∃ n, n = ps.length := ⟨_, rfl⟩
    rw [← hn] at hc hlen ⊢
    rw [← hlen]
    have hnb : n ≤ 17592186044000 := by omega
    have hn0 : 0 < n := by omega
    have hb0 := belowAlloc w (.cells #[.slice (some ⟨g, o, none⟩) n c] 69)
    have hat : ∀ W, Below w.heap.size w W → ∀ i, i < n → ∃ b, W.cell? ⟨g, o + i, none⟩ = some (.pointer (some ⟨b, 0, none⟩)) ∧ W.cell? ⟨b, 0, none⟩ = some (.int .i64 (nthF f i).1.1) := fun W hW i hi => by
      obtain ⟨b, v, ks, g1, _, g2, _⟩ := Fo.at hfo i (by omega)
      refine ⟨b, ?_, upc hW (by simp [World.cell?, g2])⟩
      rw [← g1]
      exact upc hW (hc i hi)
    have Hat := Lib.hid hat
    have Hlt : Hid (∀ i, i ≤ n → bestOf f i < n) := Lib.hid (fun i hi => by have := bestOf_lt f hf i (by omega); omega)
    have kb := cell_of_one (heap_alloc_new w (.cells #[.slice (some ⟨g, o, none⟩) n c] 69))
    have Hb0 := Lib.hid hb0
    obtain ⟨V, hV⟩ : ∃ V, V = w.alloc (.cells #[.slice (some ⟨g, o, none⟩) n c] 69) := ⟨_, rfl⟩
    rw [← hV] at kb Hb0
    have HV := Lib.hid hV
    clear hnc hfo hlen hfs hc hb0 hat hf hn hs hV
    go_enter Try.func101, Try.ntmps101
    go_wp2_with fail
    rw [← HV.out]
    go_wp2_with fail
    go_loopw [3, 4, 5, 9] (fun bv _ _ iv wr => ∃ k : Nat, k ≤ n ∧ iv = .int .i64 k ∧ bv = .int .i64 (bestOf f k : Nat) ∧ Hid (Below V.heap.size V wr)) (fun _ _ _ iv _ => n - (intOf iv).toNat)
    case atStart => exact ⟨0, Nat.zero_le _, rfl, rfl, Lib.hid (Below.refl _ _)⟩
    case round =>
      obtain ⟨k, hk, rfl, rfl, HB⟩ := hrel
      by_cases hlt : k < n
      · obtain ⟨b, q1, q2⟩ := Hat.out wr (belowTrans Hb0.out HB.out) k hlt
        have hbl := Hlt.out k hk
        obtain ⟨b', q3, q4⟩ := Hat.out wr (belowTrans Hb0.out HB.out) (bestOf f k) hbl
        have kb2 := upc HB.out kb
        obtain ⟨m, hm⟩ : ∃ m, m = bestOf f k := ⟨_, rfl⟩
        have hnext : bestOf f (k + 1) = if (nthF f k).1.1 < (nthF f m).1.1 then k else m := by rw [hm]; rfl
        rw [← hm] at q3 q4 hbl
        rw [← hm]
        obtain ⟨x, hx⟩ : ∃ x, x = (nthF f k).1.1 := ⟨_, rfl⟩
        obtain ⟨y, hy⟩ : ∃ y, y = (nthF f m).1.1 := ⟨_, rfl⟩
        rw [← hx] at q2 hnext
        rw [← hy] at q4 hnext
        have h0 : (0 : Int) ≤ (k : Int) := by omega
        have h1 : (k : Int) < (n : Int) := by omega
        have h2 : (0 : Int) ≤ (m : Int) := by omega
        have h3 : (m : Int) < (n : Int) := by omega
        have HN := Lib.hid hnext
        have HK := Lib.hid HB.out
        clear hm hx hy hnext hbl
        by_cases hxy : x < y
        · have hd : decide (x < y) = true := by simpa using hxy
          have hN : bestOf f (k + 1) = k := by rw [HN.out, if_pos hxy]
          have HN2 := Lib.hid hN
          clear hN HN
          go_wp2_with fail
          go_quiet (fail)
          go_wp2_with fail
          exact ⟨⟨k + 1, hlt, by go_num, by rw [HN2.out], Lib.hid (belowTrans HK.out (belowDrewN _ _))⟩, by simp [intOf]; omega⟩
        · have hd : decide (x < y) = false := by simpa using hxy
          have hN : bestOf f (k + 1) = m := by rw [HN.out, if_neg hxy]
          have HN2 := Lib.hid hN
          clear hN HN
          go_wp2_with fail
          go_quiet (fail)
          go_wp2_with fail
          exact ⟨⟨k + 1, hlt, by go_num, by rw [HN2.out], Lib.hid (belowTrans HK.out (belowDrewN _ _))⟩, by simp [intOf]; omega⟩
      · obtain rfl : n = k := by omega
        have HK := Lib.hid (belowTrans Hb0.out HB.out)
        go_wp2_with fail
        go_ret
        exact ⟨rfl, HK.out⟩
end Go.Proofs.Ytcjhbpnmkahkeaa.bino
