/- Package inv: slices.Contains, Check. -/
import Derived.Test.YtnigadnjppeckaaDoorInvU
import Derived.Test.YtnigadnjppeckaaDoorErrAs
namespace Go.Proofs.YtnigadnjppeckaaDoor.inv
open Go.RowKit Go

theorem reads_cell {W : World} {a : Option Addr} {l : List Int} {k : Nat} (h : Reads W a l) (hk : k < l.length) : ∃ rb ro, a = some ⟨rb, ro, none⟩ ∧ W.cell? ⟨rb, ro + k, none⟩ = some (.int .i64 (l.getD k 0)) := by
  rcases h with e | ⟨rb, ro, e, h⟩
  · rw [e] at hk
    simp at hk
  · exact ⟨rb, ro, e, h k hk⟩
set_option maxRecDepth 100000 in
set_option maxHeartbeats 1000000 in
theorem index_any (w : World) (a : Option Addr) (c n : Nat) (xs : List Int) (x : Int) (hl : n = xs.length) (hn : n ≤ 17592186044416) (hr : Reads w a xs) :
    Calls Tryd.prog 27 #[.slice a n c, .int .i64 x] w fun e w' => (∃ r : Int, e = .returned (.int .i64 r) ∧ (0 ≤ r ↔ x ∈ xs)) ∧ w' = w := by
  have Hl := Lib.hid hl
  have Hr := Lib.hid hr
  clear hl hr
  go_enter Tryd.func27, Tryd.ntmps27
  go_wp2_with fail
  go_loopw [5, 8] (fun _ iv wr => ∃ k : Nat, k ≤ n ∧ iv = .int .i64 k ∧ wr = w ∧ Hid (x ∉ xs.take k)) (fun _ iv _ => n - (intOf iv).toNat)
  case atStart => exact ⟨0, Nat.zero_le _, rfl, rfl, Lib.hid (by simp)⟩
  case round =>
    obtain ⟨k, hk, rfl, rfl, HX⟩ := hrel
    by_cases hlt : k < n
    · obtain ⟨rb, ro, rfl, hc⟩ := reads_cell Hr.out (k := k) (by rw [← Hl.out]; exact hlt)
      obtain ⟨y, hy⟩ : ∃ y, y = xs.getD k 0 := ⟨_, rfl⟩
      rw [← hy] at hc
      have Hy := Lib.hid hy
      have h0 : (0 : Int) ≤ (k : Int) := by omega
      have h1 : (k : Int) < (n : Int) := by omega
      clear hy
      have hg : y = xs[k]'(by rw [← Hl.out]; exact hlt) := by
        rw [Hy.out, List.getD_eq_getElem?_getD, List.getElem?_eq_getElem (by rw [← Hl.out]; exact hlt)]
        rfl
      have HG := Lib.hid hg
      clear hg
      by_cases hxy : x = y
      · have hm : x ∈ xs := by rw [hxy, HG.out]; exact List.getElem_mem _
        have HM := Lib.hid hm
        clear hm
        have he : (x == y) = true := by simpa using hxy
        go_wp2_with fail
        go_ret
        exact ⟨⟨_, rfl, by simp [HM.out]⟩, rfl⟩
      · have hm : x ∉ xs.take (k + 1) := by
          rw [List.take_succ_eq_append_getElem (by rw [← Hl.out]; exact hlt)]
          intro h
          rcases List.mem_append.1 h with h | h
          · exact HX.out h
          · rw [List.mem_singleton, ← HG.out] at h
            exact hxy h
        have HM := Lib.hid hm
        have he : (x == y) = false := by simpa using hxy
        clear hm
        go_wp2_with fail
        exact ⟨⟨k + 1, hlt, by go_num, trivial, HM⟩, by simp [intOf]; omega⟩
    · obtain rfl : n = k := by omega
      have hm : x ∉ xs := by
        have h := HX.out
        rwa [List.take_of_length_le (by rw [Hl.out]; exact Nat.le_refl _)] at h
      have HM := Lib.hid hm
      clear hm
      go_wp2_with fail
      go_ret
      exact ⟨⟨_, rfl, by simp [HM.out]⟩, rfl⟩
set_option maxRecDepth 100000 in
set_option maxHeartbeats 1000000 in
theorem contains_any (w : World) (a : Option Addr) (c n : Nat) (xs : List Int) (x : Int) (hl : n = xs.length) (hn : n ≤ 17592186044416) (hr : Reads w a xs) :
    Calls Tryd.prog 19 #[.slice a n c, .int .i64 x] w fun e w' => e = .returned (.bool (decide (x ∈ xs))) ∧ w' = w := by
  have HI := Lib.hid (index_any w a c n xs x hl hn hr)
  clear hl hr
  go_enter Tryd.func19, Tryd.ntmps19
  go_wp2_with fail
  refine HI.out.mono ?_
  rintro e w1 ⟨⟨r, rfl, hr⟩, rfl⟩
  have HR := Lib.hid hr
  clear hr
  go_wp2_with fail
  go_ret
  exact ⟨by rw [← decide_eq_decide.2 HR.out]; rfl, rfl⟩
/-- what Check tells: 4: too many; 3: none of its form; else 0 -/
def chkF (p : List Int) : List Int → Nat → Int
  | [], _ => 0
  | x :: r, i => if x < 0 ∨ (p.length : Int) ≤ x ∨ x ∈ p.take i then 3 else chkF p r (i + 1)
def chk (p : List Int) : Int := if 20 < p.length then 4 else chkF p p 0
theorem chkF_bad {p : List Int} {k : Nat} (hk : k < p.length) (h : p.getD k 0 < 0 ∨ (p.length : Int) ≤ p.getD k 0 ∨ p.getD k 0 ∈ p.take k) : chkF p (p.drop k) k = 3 := by
  rw [List.drop_eq_getElem_cons hk]
  rw [List.getD_eq_getElem?_getD, List.getElem?_eq_getElem hk, Option.getD_some] at h
  rw [chkF, if_pos h]
theorem chkF_good {p : List Int} {k : Nat} (hk : k < p.length) (h : ¬ (p.getD k 0 < 0 ∨ (p.length : Int) ≤ p.getD k 0 ∨ p.getD k 0 ∈ p.take k)) : chkF p (p.drop k) k = chkF p (p.drop (k + 1)) (k + 1) := by
  rw [List.drop_eq_getElem_cons hk]
  rw [List.getD_eq_getElem?_getD, List.getElem?_eq_getElem hk, Option.getD_some] at h
  rw [chkF, if_neg h]
set_option maxRecDepth 100000 in
set_option maxHeartbeats 2000000 in
theorem Check_any (w : World) (a : Option Addr) (c n : Nat) (p : List Int) (hl : n = p.length) (hc : n ≤ c) (hr : Reads w a p) :
    Calls Tryd.prog 11 #[.slice a n c] w fun e w' => e = .returned (er.errV (chk p)) ∧ w' = w := by
  by_cases hbig : 20 < n
  · have e : chk p = 4 := by rw [chk, if_pos (by omega)]
    rw [e]
    have h0 : (20 : Int) < (n : Int) := by omega
    go_enter Tryd.func11, Tryd.ntmps11
    go_wp2_with fail
    go_ret
    exact ⟨rfl, rfl⟩
  · have e : chk p = chkF p (p.drop 0) 0 := by rw [chk, if_neg (by omega)]; rfl
    have h0 : ¬ ((20 : Int) < (n : Int)) := by omega
    have Hl := Lib.hid hl
    have Hr := Lib.hid hr
    have H0 := Lib.hid e
    clear hl hr e
    go_enter Tryd.func11, Tryd.ntmps11
    go_wp2_with fail
    go_loopw [3, 4, 11] (fun _ _ iv wr => ∃ k : Nat, k ≤ n ∧ iv = .int .i64 k ∧ wr = w ∧ Hid (chk p = chkF p (p.drop k) k)) (fun _ _ iv _ => n - (intOf iv).toNat)
    case atStart => exact ⟨0, Nat.zero_le _, rfl, rfl, H0⟩
    case round =>
      obtain ⟨k, hk, rfl, rfl, HX⟩ := hrel
      clear H0
      by_cases hlt : k < n
      · have hkp : k < p.length := by rw [← Hl.out]; exact hlt
        obtain ⟨rb, ro, rfl, hcell⟩ := reads_cell Hr.out (k := k) hkp
        obtain ⟨y, hy⟩ : ∃ y, y = p.getD k 0 := ⟨_, rfl⟩
        rw [← hy] at hcell
        have hbad : (y < 0 ∨ (n : Int) ≤ y ∨ y ∈ p.take k) → chk p = 3 := fun h => by
          rw [HX.out]
          exact chkF_bad hkp (by rw [← hy, ← Hl.out]; exact h)
        have hgood : ¬ (y < 0 ∨ (n : Int) ≤ y ∨ y ∈ p.take k) → chk p = chkF p (p.drop (k + 1)) (k + 1) := fun h => by
          rw [HX.out]
          exact chkF_good hkp (by rw [← hy, ← Hl.out]; exact h)
        have htk : k = (p.take k).length := by rw [List.length_take]; omega
        have HC := Lib.hid (contains_any wr (some ⟨rb, ro, none⟩) c k (p.take k) y htk (by omega) (.inr ⟨rb, ro, rfl, fun i hi => by
          rw [← htk] at hi
          rcases Hr.out with e | ⟨b', o', e, h⟩
          · rw [e] at hkp
            simp at hkp
          · cases e
            rw [h i (by omega), List.getD_eq_getElem?_getD, List.getD_eq_getElem?_getD, List.getElem?_take, if_pos hi]⟩))
        have HB := Lib.hid hbad
        have HG := Lib.hid hgood
        have k0 : (0 : Int) ≤ (k : Int) := by omega
        have k1 : (k : Int) < (n : Int) := by omega
        have k2 : (k : Int) ≤ (c : Int) := by omega
        clear hbad hgood hy htk hkp
        by_cases hneg : y < 0
        · as_aux_lemma =>
          have e3 := HB.out (.inl hneg)
          have E3 := Lib.hid e3
          clear e3
          go_wp2_with fail
          go_ret
          rw [E3.out]
          exact ⟨rfl, rfl⟩
        · by_cases hge : (n : Int) ≤ y
          · as_aux_lemma =>
            have e3 := HB.out (.inr (.inl hge))
            have E3 := Lib.hid e3
            have hd : decide (y < 0) = false := by simp; omega
            clear e3
            go_wp2_with fail
            go_ret
            rw [E3.out]
            exact ⟨rfl, rfl⟩
          · as_aux_lemma =>
            have hd : decide (y < 0) = false := by simp; omega
            have hd2 : decide ((n : Int) ≤ y) = false := by simp; omega
            go_wp2_with fail
            refine HC.out.mono ?_
            rintro e w1 ⟨rfl, rfl⟩
            by_cases hm : y ∈ p.take k
            · have E3 := Lib.hid (HB.out (.inr (.inr hm)))
              rw [decide_eq_true hm]
              clear HC HB HG hm
              go_wp2_with fail
              go_ret
              rw [E3.out]
              exact ⟨rfl, rfl⟩
            · have E3 := Lib.hid (HG.out (fun h => h.elim (fun h => by omega) (fun h => h.elim (fun h => by omega) hm)))
              rw [decide_eq_false hm]
              clear HC HB HG hm
              go_wp2_with fail
              exact ⟨⟨k + 1, hlt, by go_num, trivial, E3⟩, by simp [intOf]; omega⟩
      · obtain rfl : n = k := by omega
        have e0 : chk p = 0 := by
          rw [HX.out, List.drop_eq_nil_of_le (by rw [Hl.out]; exact Nat.le_refl _)]
          rfl
        have E0 := Lib.hid e0
        clear e0 HX
        go_wp2_with fail
        go_ret
        rw [E0.out]
        exact ⟨rfl, rfl⟩
end Go.Proofs.YtnigadnjppeckaaDoor.inv
