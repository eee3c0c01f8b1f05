/- Package pat: put. -/
import Derived.Test.YtenaddjnaeebbaaPat2
namespace Go.Proofs.Ytenaddjnaeebbaa.pat
open Go.RowKit

theorem cnt_put_le (k : Nat) (v : Int) (t : PT) : (put t k v).cnt ≤ t.cnt + 1 := by
  have hboth : ∀ a b : PT, (both a b).cnt = a.cnt + b.cnt := by
    intro a b
    unfold both
    split
    · rfl
    · simp only [PT.cnt]; omega
  induction t with
  | leaf k' v' =>
    unfold put
    split
    · simp only [PT.cnt]; omega
    · rw [hboth]; simp only [PT.cnt]; omega
  | node key b l r ihl ihr =>
    unfold put
    split
    · split
      · simp only [PT.cnt]; omega
      · simp only [PT.cnt]; omega
    · rw [hboth]; simp only [PT.cnt]; omega

set_option maxHeartbeats 4000000 in
theorem put_leaf (B : Nat) (w : World) (b k k' : Nat) (v v' : Int) (hB : B ≤ w.heap.size) (h : HP B w b (.leaf k' v')) (hk : k < 2 ^ 64) (hk' : k' < 2 ^ 64) :
    Calls Try.prog 41 #[.pointer (some ⟨b, 0, none⟩), .int .u64 (k : Nat), .int .i64 v] w (RetP B w (put (.leaf k' v') k v)) := by
  obtain ⟨c0, c1, c2, c3, c4, c5⟩ := cells6 h.2
  by_cases e : k' = k
  · subst e
    have e2 : put (.leaf k' v') k' v = .leaf k' v := if_pos rfl
    rw [e2]
    have Hh := Lib.hid h
    clear h e2
    go_enter Try.func41, Try.ntmps41
    go_wp2_with fail
    refine (leaf_any w k' v).mono ?_
    rintro e w1 ⟨rfl, rfl⟩
    go_wp2_with fail
    go_ret
    exact ⟨w.heap.size, rfl, HP.leaf hB, belowAlloc _ _⟩
  · have e2 : put (.leaf k' v') k v = both (.leaf k' v') (.leaf k v) := if_neg e
    rw [e2]
    have hne : ((k' : Int) == (k : Int)) = false := by simp; omega
    have hap : Apart (.leaf k' v') (.leaf k v) := apart_leaf (by show k < k' ∨ k' + 2 ^ 0 ≤ k; omega)
    have HB := Lib.hid (both_any B (w.alloc (.cells #[.int .u64 (k : Nat), .int .u64 0, .int .i64 v, .int .i64 1, .pointer none, .pointer none] 71)) b w.heap.size (.leaf k' v') (.leaf k v) (by simp; omega) (HP.up (belowAlloc _ _) h) (HP.leaf hB) hk' hk hap (by simp only [PT.cnt]; omega))
    have He := Lib.hid e
    clear h e e2 hap
    go_enter Try.func41, Try.ntmps41
    go_wp2_with fail
    refine (leaf_any w k v).mono ?_
    rintro e w1 ⟨rfl, rfl⟩
    go_wp2_with fail
    refine HB.out.mono ?_
    rintro e w2 ⟨c, rfl, hp, hb2⟩
    have Hp := Lib.hid (And.intro hp hb2)
    clear hp hb2
    go_wp2_with fail
    go_ret
    exact ⟨c, rfl, Hp.out.1, belowTrans (belowAlloc _ _) Hp.out.2⟩

/-- what is at hand of a node -/
theorem node_facts {key n : Nat} {l r : PT} (h : Ok (.node key n l r)) : n < 64 ∧ key < 2 ^ 64 := by
  have h1 := h.lev
  have h2 := h.lt
  exact ⟨h1, h2⟩

set_option maxRecDepth 100000 in
set_option maxHeartbeats 8000000 in
theorem put_any (B k : Nat) (v : Int) (hk : k < 2 ^ 64) (t : PT) : ∀ (w : World) (b : Nat), B ≤ w.heap.size → HP B w b t → Ok t → t.cnt ≤ 1152921504606843999 →
    Calls Try.prog 41 #[.pointer (some ⟨b, 0, none⟩), .int .u64 (k : Nat), .int .i64 v] w (RetP B w (put t k v)) := by
  induction t with
  | leaf k' v' => intro w b hB h hok _; exact put_leaf B w b k k' v v' hB h hk hok
  | node key n l r ihl ihr =>
    intro w b hB h hok hc
    obtain ⟨hn, hkey⟩ := node_facts hok
    have hcell := h.cells
    obtain ⟨_, bl, br, hb, hl, hr⟩ := h
    obtain ⟨c0, c1, c2, c3, c4, c5⟩ := cells6 hb
    obtain ⟨va, la, ra, ca⟩ := hcell
    have hh : HP B w b (.node key n l r) := ⟨by assumption, bl, br, hb, hl, hr⟩
    obtain ⟨_, _, okl, okr, _, _⟩ := id hok
    have hcl : l.cnt + r.cnt ≤ 1152921504606843999 := hc
    have hM0 : 0 < 2 ^ n := Nat.two_pow_pos n
    obtain ⟨f, hf⟩ : ∃ f, decide (k / 2 ^ (n + 1) * 2 ^ (n + 1) = key) = f := ⟨_, rfl⟩
    have HF : Hid (Calls Try.prog 60 #[.pointer (some ⟨b, 0, none⟩), .int .u64 (k : Nat)] w fun e w' => e = .returned (.bool f) ∧ Below w.heap.size w w') :=
      Lib.hid ((fits_any w b key n k va _ la ra ca hk hn f hf).mono fun e w' ⟨h1, m, h2⟩ => ⟨h1, by rw [h2]; exact belowDrewN _ _⟩)
    cases f
    · have hnf : ¬ (k / 2 ^ (n + 1) * 2 ^ (n + 1) = key) := by simpa using hf
      have e2 : put (.node key n l r) k v = both (.node key n l r) (.leaf k v) := if_neg hnf
      rw [e2]
      have hout : k < key ∨ key + 2 ^ (n + 1) ≤ k := by
        rcases Nat.lt_or_ge k key with h | h
        · exact .inl h
        · rcases Nat.lt_or_ge k (key + 2 ^ (n + 1)) with h' | h'
          · exact absurd ((fits_iff (Nat.two_pow_pos _) hok.2.1).2 ⟨h, h'⟩) hnf
          · exact .inr h'
      have hap : Apart (.node key n l r) (.leaf k v) := apart_leaf hout
      have HB := Lib.hid (fun W (hW : Below w.heap.size w W) => both_any B (W.alloc (.cells #[.int .u64 (k : Nat), .int .u64 0, .int .i64 v, .int .i64 1, .pointer none, .pointer none] 71)) b W.heap.size (.node key n l r) (.leaf k v) (by have := hW.size; simp; omega) (HP.up (belowTrans hW (belowAlloc _ _)) hh) (HP.leaf (szle hW hB)) hok hk hap (by simp only [PT.cnt]; omega))
      obtain ⟨M, hM⟩ : ∃ M, M = 2 ^ n := ⟨_, rfl⟩
      rw [← hM] at c1 hM0
      have hMne : ((M : Int) == 0) = false := by simp; omega
      clear hok hh hb hl hr ca e2 hnf hout hap hf ihl ihr hM
      go_enter Try.func41, Try.ntmps41
      go_wp2_with ((go_at_call 60; (with_reducible refine HF.out.mono ?_); rintro e w1 ⟨rfl, hb1⟩; have Hb1 := Lib.hid hb1; clear hb1))
      refine (leaf_any w1 k v).mono ?_
      rintro e w2 ⟨rfl, rfl⟩
      go_wp2_with fail
      refine (HB.out _ Hb1.out).mono ?_
      rintro e w3 ⟨c, rfl, hp, hb2⟩
      have Hp := Lib.hid (And.intro hp hb2)
      clear hp hb2
      go_wp2_with fail
      go_ret
      exact ⟨c, rfl, Hp.out.1, belowTrans Hb1.out (belowTrans (belowAlloc _ _) Hp.out.2)⟩
    · have hfit : k / 2 ^ (n + 1) * 2 ^ (n + 1) = key := by simpa using hf
      by_cases h0 : k / 2 ^ n % 2 = 0
      · have e2 : put (.node key n l r) k v = .node key n (put l k v) r := by rw [put, if_pos hfit, if_pos h0]
        rw [e2]
        have HI := Lib.hid (fun W (hW : Below w.heap.size w W) => ihl W bl (szle hW hB) (HP.up hW hl) okl (by omega))
        have HT := Lib.hid (fun W c (hW : Below w.heap.size w W) (hp : HP B W c (put l k v)) => two_some B W key n c br (put l k v) r (szle hW hB) hp (HP.up hW hr) (by have := cnt_put_le k v l; omega))
        have hand := and0 hk hn h0
        obtain ⟨M, hM⟩ : ∃ M, M = 2 ^ n := ⟨_, rfl⟩
        rw [← hM] at c1 hM0 hand HT
        have hMne : ((M : Int) == 0) = false := by simp; omega
        clear hok hh hb hl hr ca e2 hfit hf ihl ihr hM h0
        go_enter Try.func41, Try.ntmps41
        go_wp2_with ((go_at_call 60; (with_reducible refine HF.out.mono ?_); rintro e w1 ⟨rfl, hb1⟩; have d0 := upc hb1 c0; have d1 := upc hb1 c1; have d4 := upc hb1 c4; have d5 := upc hb1 c5; have Hb1 := Lib.hid hb1; clear hb1))
        go_region_held3 (fun w' => w'.cell? ⟨b, 0, none⟩ = some (.int .u64 (key : Nat)) ∧ w'.cell? ⟨b, 1, none⟩ = some (.int .u64 (M : Nat)) ∧ w'.cell? ⟨b, 4, none⟩ = some (.pointer (some ⟨bl, 0, none⟩)) ∧ w'.cell? ⟨b, 5, none⟩ = some (.pointer (some ⟨br, 0, none⟩))) (first | exact ⟨g0, g1, g4, g5⟩ | exact ⟨e0, e1, e4, e5⟩ | go_keep)
          (first
          | (go_at_call 41; refine (HI.out _ (by exact belowTrans Hb1.out (belowDrew _))).mono ?_; rintro e w2 ⟨c2', rfl, hp2, hb2⟩; replace hb2 := belowTrans (belowDrew _) hb2; have e0 := upc hb2 d0; have e1 := upc hb2 d1; have e4 := upc hb2 d4; have e5 := upc hb2 d5)
          | (go_at_call 62; refine (HT.out _ c2' (by exact belowTrans Hb1.out hb2) (by exact hp2)).mono ?_; rintro e w3 ⟨c3', rfl, hp3, hb3⟩; have g0 := upc hb3 e0; have g1 := upc hb3 e1; have g4 := upc hb3 e4; have g5 := upc hb3 e5))
        have Hp := Lib.hid (And.intro hp3 (belowTrans (belowTrans Hb1.out hb2) hb3))
        clear d0 d1 d4 d5 e0 e1 e4 e5 g0 g1 g4 g5 hp2 hp3 hb2 hb3
        go_wp2_with fail
        go_ret
        exact ⟨c3', rfl, Hp.out.1, Hp.out.2⟩
      · have e2 : put (.node key n l r) k v = .node key n l (put r k v) := by rw [put, if_pos hfit, if_neg h0]
        rw [e2]
        have HI := Lib.hid (fun W (hW : Below w.heap.size w W) => ihr W br (szle hW hB) (HP.up hW hr) okr (by omega))
        have HT := Lib.hid (fun W c (hW : Below w.heap.size w W) (hp : HP B W c (put r k v)) => two_some B W key n bl c l (put r k v) (szle hW hB) (HP.up hW hl) hp (by have := cnt_put_le k v r; omega))
        have hand := and1 hk hn h0
        obtain ⟨M, hM⟩ : ∃ M, M = 2 ^ n := ⟨_, rfl⟩
        rw [← hM] at c1 hM0 hand HT
        have hMne : ((M : Int) == 0) = false := by simp; omega
        clear hok hh hb hl hr ca e2 hfit hf ihl ihr hM h0
        go_enter Try.func41, Try.ntmps41
        go_wp2_with ((go_at_call 60; (with_reducible refine HF.out.mono ?_); rintro e w1 ⟨rfl, hb1⟩; have d0 := upc hb1 c0; have d1 := upc hb1 c1; have d4 := upc hb1 c4; have d5 := upc hb1 c5; have Hb1 := Lib.hid hb1; clear hb1))
        go_region_held3 (fun w' => w'.cell? ⟨b, 0, none⟩ = some (.int .u64 (key : Nat)) ∧ w'.cell? ⟨b, 1, none⟩ = some (.int .u64 (M : Nat)) ∧ w'.cell? ⟨b, 4, none⟩ = some (.pointer (some ⟨bl, 0, none⟩)) ∧ w'.cell? ⟨b, 5, none⟩ = some (.pointer (some ⟨br, 0, none⟩))) (first | exact ⟨g0, g1, g4, g5⟩ | exact ⟨e0, e1, e4, e5⟩ | go_keep)
          (first
          | (go_at_call 41; refine (HI.out _ (by exact belowTrans Hb1.out (belowDrew _))).mono ?_; rintro e w2 ⟨c2', rfl, hp2, hb2⟩; replace hb2 := belowTrans (belowDrew _) hb2; have e0 := upc hb2 d0; have e1 := upc hb2 d1; have e4 := upc hb2 d4; have e5 := upc hb2 d5)
          | (go_at_call 62; refine (HT.out _ c2' (by exact belowTrans Hb1.out hb2) (by exact hp2)).mono ?_; rintro e w3 ⟨c3', rfl, hp3, hb3⟩; have g0 := upc hb3 e0; have g1 := upc hb3 e1; have g4 := upc hb3 e4; have g5 := upc hb3 e5))
        have Hp := Lib.hid (And.intro hp3 (belowTrans (belowTrans Hb1.out hb2) hb3))
        clear d0 d1 d4 d5 e0 e1 e4 e5 g0 g1 g4 g5 hp2 hp3 hb2 hb3
        go_wp2_with fail
        go_ret
        exact ⟨c3', rfl, Hp.out.1, Hp.out.2⟩
end Go.Proofs.Ytenaddjnaeebbaa.pat
