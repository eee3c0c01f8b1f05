/- Package table: told, Least. -/
import Derived.Test.YtnnpeblpdkeffaaDoorTab
import Derived.StillTailTactics
import Derived.Lib.ItoaNum
namespace Go.Proofs.YtnnpeblpdkeffaaDoor.table
open Go.RowKit Go

set_option maxHeartbeats 400000 in
theorem len_any (x : Nat) (w : World) (h1 : x < 18446744073709551616) : Calls Tryd.prog 15 #[.int .u64 (x : Int)] w fun e w' => e = .returned (.int .i64 (Lib.bitLen x : Nat)) ∧ w' = w := by
  have H := Lib.hid (len64_any x w h1)
  clear h1
  go_enter Tryd.func15, Tryd.ntmps15
  go_wp2_with fail
  refine H.out.mono ?_
  rintro e w1 ⟨rfl, hw⟩
  have hw' := hw.symm
  subst hw'
  go_wp2_with fail
  go_ret
  exact ⟨rfl, rfl⟩
/-- the value of the method low, bound to the table -/
def lowV (tb : Nat) : Value := .func (.func 11) #[.pointer (some ⟨tb, 0, none⟩)] #[]
set_option maxRecDepth 100000 in
set_option maxHeartbeats 2000000 in
theorem told_in (base tb n k K i j d m x y : Nat) (L : List Int) (w : World) (ra va : Option Addr) (rb ro vl vc rc gb go_ : Nat) (h : TL base tb n L w) (hra : ra = some ⟨rb, ro, none⟩) (hva : va = some ⟨gb, go_, none⟩) (hd : d = j - i) (hij : i < j) (hjn : j ≤ n) (hn : n ≤ 5000) (hk : Lib.bitLen d = k + 1) (hkK : k < K) (_hK : K ≤ 20000) (hm : m = j - 2 ^ k) (hp : 2 ^ k ≤ d) (hmv : m < vl) (hiv : i < vl)
    (hrow : w.cell? ⟨rb, ro + k, none⟩ = some (.slice va vl vc)) (hx : w.cell? ⟨gb, go_ + i, none⟩ = some (.int .i64 (x : Nat))) (hy : w.cell? ⟨gb, go_ + m, none⟩ = some (.int .i64 (y : Nat))) (hxn : x < n) (hyn : y < n) :
    Calls Tryd.prog 13 #[.pointer (some ⟨tb, 0, none⟩), .slice ra K rc, .int .i64 i, .int .i64 j, .func (.func 11) #[.pointer (some ⟨tb, 0, none⟩)] #[]] w fun e w' => e = .returned (.tuple #[.int .i64 (lowF L x y : Nat), .nilIface]) ∧ Below w.heap.size w w' := by
  subst hra hva
  obtain ⟨la, lc, hc, _⟩ := h.cell
  have HLo := Lib.hid (low_any base tb n x y L w.drew (h.fm (Fm.of (belowDrew w))) hxn hyn)
  have HLen := Lib.hid (len_any d w (by omega))
  rw [hk] at HLen
  obtain ⟨P, hP⟩ : ∃ P, P = 2 ^ k := ⟨_, rfl⟩
  have HP := Lib.hid hP
  rw [← hP] at hm hp
  have g1 : ¬ ((i : Int) < 0) := by omega
  have g2 : ¬ ((j : Int) < (i : Int)) := by omega
  have g3 : ¬ ((n : Int) < (j : Int)) := by omega
  have g4 : ((i : Int) == (j : Int)) = false := by simp; omega
  have e1 : (j : Int) - (i : Int) = (d : Int) := by omega
  have e2 : (j : Int) - (P : Int) = (m : Int) := by omega
  have k0 : (0 : Int) ≤ (k : Int) := by omega
  have k1 : (k : Int) < (K : Int) := by omega
  have i0 : (0 : Int) ≤ (i : Int) := by omega
  have i1 : (i : Int) < (vl : Int) := by omega
  have m0 : (0 : Int) ≤ (m : Int) := by omega
  have m1 : (m : Int) < (vl : Int) := by omega
  have hPs : P ≤ 5000 := by omega
  have HH := Lib.hid (And.intro hd hm)
  clear h hd hm hk
  go_enter Tryd.func13, Tryd.ntmps13
  go_wp2_with fail
  have e5 : ((k + 1 : Nat) : Int) - 1 = (k : Int) := by omega
  refine HLen.out.mono ?_
  rintro e w1 ⟨rfl, hw⟩
  have hw' := hw.symm
  subst hw'
  clear HLen e1 hw
  have hkk : k < 64 := by
    rcases Nat.lt_or_ge k 13 with h1 | h1
    · omega
    · have h2 := Nat.pow_le_pow_right (n := 2) (by decide) h1
      rw [← HP.out] at h2
      omega
  have hp2 : ((2 : Int) ^ k) = (P : Int) := by rw [HP.out]; simp
  have r2 : IntKind.i64.wrap ((2 : Int) ^ k) = (P : Int) := by rw [hp2, IntKind.wrap_i64]; omega
  have r3 : IntKind.i64.wrap (m : Int) = (m : Int) := by rw [IntKind.wrap_i64]; omega
  have k64 : (k : Int) ≤ 64 := by omega
  clear hp2 hP
  go_wp2_with fail
  go_still_tail 18, (by kernel_rfl)
  change wpList _ _ _ _ _ w.drew
  go_wp2_with fail
  refine HLo.out.mono ?_
  rintro e w1 ⟨rfl, hb1⟩
  have Hb := Lib.hid (belowTrans (belowDrew w) hb1)
  clear hb1 HLo
  go_wp2_with fail
  exact bodyPost_ret (v := .tuple #[.int .i64 (lowF L x y : Nat), .nilIface]) (by simp [results, Tryd.results13, go_sem]) rfl ⟨rfl, Hb.out⟩
set_option maxRecDepth 100000 in
set_option maxHeartbeats 1000000 in
theorem told_range (base tb n : Nat) (i j : Int) (L : List Int) (w : World) (v f : Value) (h : TL base tb n L w) (hbad : i < 0 ∨ j < i ∨ (n : Int) < j) :
    Calls Tryd.prog 13 #[.pointer (some ⟨tb, 0, none⟩), v, .int .i64 i, .int .i64 j, f] w fun e w' => e = .returned (.tuple #[.int .i64 0, er.errV 1]) ∧ Below w.heap.size w w' := by
  obtain ⟨la, lc, hc, _⟩ := h.cell
  have hE : er.errV 1 = .iface 34 (.int .i64 1) := rfl
  rw [hE]
  clear h hE
  by_cases g1 : i < 0
  · go_enter Tryd.func13, Tryd.ntmps13
    go_wp2_with fail
    exact bodyPost_ret (v := .tuple #[.int .i64 0, .iface 34 (.int .i64 1)]) (by simp [results, Tryd.results13, go_sem]) rfl ⟨rfl, Below.refl _ _⟩
  · have d1 : decide (i < 0) = false := decide_eq_false g1
    by_cases g2 : j < i
    · clear hbad
      go_enter Tryd.func13, Tryd.ntmps13
      go_wp2_with fail
      exact bodyPost_ret (v := .tuple #[.int .i64 0, .iface 34 (.int .i64 1)]) (by simp [results, Tryd.results13, go_sem]) rfl ⟨rfl, Below.refl _ _⟩
    · have d2 : decide (j < i) = false := decide_eq_false g2
      have g3 : (n : Int) < j := by omega
      clear hbad
      go_enter Tryd.func13, Tryd.ntmps13
      go_wp2_with fail
      exact bodyPost_ret (v := .tuple #[.int .i64 0, .iface 34 (.int .i64 1)]) (by simp [results, Tryd.results13, go_sem]) rfl ⟨rfl, Below.refl _ _⟩
set_option maxRecDepth 100000 in
set_option maxHeartbeats 1000000 in
theorem told_none (base tb n : Nat) (i : Int) (L : List Int) (w : World) (v f : Value) (h : TL base tb n L w) (h0 : 0 ≤ i) (h1 : i ≤ (n : Int)) :
    Calls Tryd.prog 13 #[.pointer (some ⟨tb, 0, none⟩), v, .int .i64 i, .int .i64 i, f] w fun e w' => e = .returned (.tuple #[.int .i64 0, er.errV 2]) ∧ Below w.heap.size w w' := by
  obtain ⟨la, lc, hc, _⟩ := h.cell
  have hE : er.errV 2 = .iface 34 (.int .i64 2) := rfl
  rw [hE]
  have d1 : decide (i < 0) = false := decide_eq_false (by omega)
  have d3 : decide ((n : Int) < i) = false := decide_eq_false (by omega)
  clear h hE
  go_enter Tryd.func13, Tryd.ntmps13
  go_wp2_with fail
  exact bodyPost_ret (v := .tuple #[.int .i64 0, .iface 34 (.int .i64 2)]) (by simp [results, Tryd.results13, go_sem]) rfl ⟨rfl, Below.refl _ _⟩
/-- rows for all powers of two that fit -/
def Good (n : Nat) (rows : List (List Nat)) : Prop := ∀ k, 2 ^ k ≤ n → ∃ row, rows[k]? = some row ∧ row.length = n - 2 ^ k + 1 ∧ ∀ x ∈ row, x < n
def ofN (row : List Nat) : List Int := row.map fun x : Nat => (x : Int)
theorem ofN_length (row : List Nat) : (ofN row).length = row.length := List.length_map ..
theorem ofN_getD {row : List Nat} {i x : Nat} (h : row[i]? = some x) : (ofN row).getD i 0 = (x : Int) := by
  simp [ofN, List.getD_eq_getElem?_getD, h]
/-- tb leads to a table over these numbers, with these rows of the places of the least -/
structure TB (base tb n : Nat) (L : List Int) (rows : List (List Nat)) (W : World) : Prop where
  tl : TL base tb n L W
  rw : ∃ ra rc, W.cell? ⟨tb, 1, none⟩ = some (.slice ra rows.length rc) ∧ ∀ k row, rows[k]? = some row → ∃ rb ro va vc, ra = some ⟨rb, ro, none⟩ ∧ base ≤ rb ∧ W.cell? ⟨rb, ro + k, none⟩ = some (.slice va row.length vc) ∧ RdB base W va (ofN row)
theorem TB.fm {base tb n : Nat} {L : List Int} {rows : List (List Nat)} {W W' : World} (h : TB base tb n L rows W) (hf : Fm base W W') : TB base tb n L rows W' := by
  obtain ⟨ra, rc, h1, h2⟩ := h.rw
  refine ⟨h.tl.fm hf, ra, rc, hf _ _ _ h.tl.tbb h1, fun k row hk => ?_⟩
  obtain ⟨rb, ro, va, vc, e, hb, hc, hr⟩ := h2 k row hk
  exact ⟨rb, ro, va, vc, e, hb, hf _ _ _ hb hc, hr.fm hf⟩
set_option maxRecDepth 100000 in
set_option maxHeartbeats 1000000 in
theorem Least_via (tb K : Nat) (i j : Int) (w : World) (ra : Option Addr) (rc : Nat) (v c : Int) (hc : w.cell? ⟨tb, 1, none⟩ = some (.slice ra K rc))
    (h : Calls Tryd.prog 13 #[.pointer (some ⟨tb, 0, none⟩), .slice ra K rc, .int .i64 i, .int .i64 j, .func (.func 11) #[.pointer (some ⟨tb, 0, none⟩)] #[]] w fun e w' => e = .returned (.tuple #[.int .i64 v, er.errV c]) ∧ Below w.heap.size w w') :
    Calls Tryd.prog 7 #[.pointer (some ⟨tb, 0, none⟩), .int .i64 i, .int .i64 j] w fun e w' => e = .returned (.tuple #[.int .i64 v, er.errV c]) ∧ Below w.heap.size w w' := by
  obtain ⟨ev, hev⟩ : ∃ ev, ev = er.errV c := ⟨_, rfl⟩
  rw [← hev] at h ⊢
  have H := Lib.hid h
  clear h hev
  go_enter Tryd.func7, Tryd.ntmps7
  go_wp2_with fail
  refine H.out.mono ?_
  rintro e w1 ⟨rfl, hb⟩
  have Hb := Lib.hid hb
  clear hb H
  go_wp2_with fail
  exact bodyPost_ret (v := .tuple #[.int .i64 v, ev]) (by simp [results, Tryd.results7, go_sem]) rfl ⟨rfl, Hb.out⟩
/-- what Least tells hangs on the numbers and the rows alone -/
theorem Least_any (n : Nat) (L : List Int) (rows : List (List Nat)) (hn : n ≤ 5000) (hg : Good n rows) (hK : rows.length ≤ 20000) (i j : Int) : ∃ v c : Int, ∀ base tb W, TB base tb n L rows W →
    Calls Tryd.prog 7 #[.pointer (some ⟨tb, 0, none⟩), .int .i64 i, .int .i64 j] W fun e w' => e = .returned (.tuple #[.int .i64 v, er.errV c]) ∧ Below W.heap.size W w' := by
  by_cases hbad : i < 0 ∨ j < i ∨ (n : Int) < j
  · refine ⟨0, 1, fun base tb W h => ?_⟩
    obtain ⟨ra, rc, hc, _⟩ := h.rw
    exact Least_via tb _ i j W ra rc 0 1 hc (told_range base tb n i j L W _ _ h.tl hbad)
  · by_cases hij : i = j
    · subst hij
      refine ⟨0, 2, fun base tb W h => ?_⟩
      obtain ⟨ra, rc, hc, _⟩ := h.rw
      exact Least_via tb _ i i W ra rc 0 2 hc (told_none base tb n i L W _ _ h.tl (by omega) (by omega))
    · obtain ⟨i', rfl⟩ : ∃ i' : Nat, i = (i' : Int) := ⟨i.toNat, by omega⟩
      obtain ⟨j', rfl⟩ : ∃ j' : Nat, j = (j' : Int) := ⟨j.toNat, by omega⟩
      obtain ⟨d, hd⟩ : ∃ d, d = j' - i' := ⟨_, rfl⟩
      obtain ⟨b1, b2, b3⟩ := Lib.bitLenAux_bounds 64 d (by omega) (by omega)
      obtain ⟨k, hk⟩ : ∃ k, Lib.bitLen d = k + 1 := ⟨Lib.bitLenAux 64 d - 1, by show Lib.bitLenAux 64 d = _; omega⟩
      have hk' : Lib.bitLenAux 64 d = k + 1 := hk
      rw [hk', show k + 1 - 1 = k by omega] at b2
      obtain ⟨row, hr1, hr2, hr3⟩ := hg k (by omega)
      have hkK : k < rows.length := (List.getElem?_eq_some_iff.1 hr1).1
      obtain ⟨x, hx⟩ : ∃ x, row[i']? = some x := ⟨_, List.getElem?_eq_getElem (by omega)⟩
      obtain ⟨y, hy⟩ : ∃ y, row[j' - 2 ^ k]? = some y := ⟨_, List.getElem?_eq_getElem (by omega)⟩
      refine ⟨(lowF L x y : Nat), 0, fun base tb W h => ?_⟩
      obtain ⟨ra, rc, hc, hrows⟩ := h.rw
      obtain ⟨rb, ro, va, vc, e1, _, hcr, hrd⟩ := hrows k row hr1
      obtain ⟨gb, go_, e2, hcx⟩ := hrd.at (i := i') (by rw [ofN_length]; omega)
      obtain ⟨gb', go', e3, hcy⟩ := hrd.at (i := j' - 2 ^ k) (by rw [ofN_length]; omega)
      rw [e2] at e3
      cases e3
      rw [ofN_getD hx] at hcx
      rw [ofN_getD hy] at hcy
      have ht := told_in base tb n k rows.length i' j' d (j' - 2 ^ k) x y L W ra va rb ro row.length vc rc gb go_ h.tl e1 e2 hd (by omega) (by omega) hn hk hkK hK rfl b2 (by omega) (by omega) hcr hcx hcy (hr3 x (List.mem_of_getElem? hx)) (hr3 y (List.mem_of_getElem? hy))
      exact Least_via tb _ i' j' W ra rc _ 0 hc ht
end Go.Proofs.YtnnpeblpdkeffaaDoor.table
