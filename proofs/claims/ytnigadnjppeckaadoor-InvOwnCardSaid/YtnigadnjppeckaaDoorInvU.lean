/- Package inv: sorted of whatever row; Count. -/
import Derived.Test.YtnigadnjppeckaaDoorInvT
namespace Go.Proofs.YtnigadnjppeckaaDoor.inv
open Go.RowKit Go

theorem srt_len (k : Nat) (xs : List Int) (h2 : 2 ≤ xs.length) : srtF (k + 1) xs = ((mrg (srtF k (xs.take (xs.length / 2))).1 (srtF k (xs.drop (xs.length / 2))).1 (srtF k (xs.drop (xs.length / 2))).2).1, IntKind.i64.wrap ((srtF k (xs.take (xs.length / 2))).2 + (mrg (srtF k (xs.take (xs.length / 2))).1 (srtF k (xs.drop (xs.length / 2))).1 (srtF k (xs.drop (xs.length / 2))).2).2)) := by
  rw [srtF, if_neg (by omega)]
theorem sorted_any : ∀ (k : Nat) (xs : List Int) (a : Option Addr) (c : Nat) (w : World), Reads w a xs → (a = none → c = 0) → xs.length ≤ c → xs.length ≤ 2 ^ k → xs.length ≤ 17592186044400 →
    Calls Tryd.prog 10 #[.slice a xs.length c] w (RetSo w (srtF k xs)) := by
  intro k
  induction k with
  | zero =>
    intro xs a c w hr hn hc hk _
    exact sorted_small w a c xs.length xs rfl (by simp at hk; omega) hr hn
  | succ k ih =>
    intro xs a c w hr hn hc hk hb
    by_cases h2 : xs.length < 2
    · have e : srtF (k + 1) xs = (xs, 0) := by rw [srtF, if_pos h2]
      rw [e]
      exact sorted_small w a c xs.length xs rfl h2 hr hn
    · rcases hr with rfl | ⟨b, o, rfl, hx⟩
      · simp at h2
      · rw [srt_len k xs (by omega)]
        rw [Nat.pow_succ] at hk
        have l1 : (xs.take (xs.length / 2)).length = xs.length / 2 := by rw [List.length_take]; omega
        have l2 : (xs.drop (xs.length / 2)).length = xs.length - xs.length / 2 := List.length_drop
        refine sorted_big w b o c xs.length (xs.length / 2) (srtF k (xs.take (xs.length / 2))) (srtF k (xs.drop (xs.length / 2))) rfl (by rw [srtF_length, l1]) (by rw [srtF_length, l2]) (by omega) hc hb ?_ ?_
        · intro W hW
          have h := ih (xs.take (xs.length / 2)) (some ⟨b, o, none⟩) c W (.inr ⟨b, o, rfl, fun i hi => ?_⟩) (fun h => by cases h) (by omega) (by omega) (by omega)
          · rw [l1] at h
            exact h
          · rw [l1] at hi
            rw [upc hW (hx i (by omega)), List.getD_eq_getElem?_getD, List.getD_eq_getElem?_getD, List.getElem?_take, if_pos hi]
        · intro W hW
          have h := ih (xs.drop (xs.length / 2)) (some ⟨b, o + xs.length / 2, none⟩) (c - xs.length / 2) W (.inr ⟨b, _, rfl, fun i hi => ?_⟩) (fun h => by cases h) (by omega) (by omega) (by omega)
          · rw [l2] at h
            exact h
          · rw [l2] at hi
            rw [Nat.add_assoc, upc hW (hx (xs.length / 2 + i) (by omega)), List.getD_eq_getElem?_getD, List.getD_eq_getElem?_getD, List.getElem?_drop]
theorem Count_any (k : Nat) (xs : List Int) (a : Option Addr) (c : Nat) (w : World) (hr : Reads w a xs) (hn : a = none → c = 0) (hc : xs.length ≤ c) (hk : xs.length ≤ 2 ^ k) (hb : xs.length ≤ 17592186044400) :
    Calls Tryd.prog 5 #[.slice a xs.length c] w fun e w' => e = .returned (.int .i64 (srtF k xs).2) ∧ Below w.heap.size w w' := by
  have H := Lib.hid (sorted_any k xs a c w hr hn hc hk hb)
  obtain ⟨r, hr⟩ : ∃ r, r = srtF k xs := ⟨_, rfl⟩
  rw [← hr] at H ⊢
  clear hr hn hc hk hb
  go_enter Tryd.func5, Tryd.ntmps5
  go_wp2_with fail
  refine H.out.mono ?_
  rintro e w1 ⟨a1, c1, rfl, ho, hb⟩
  have HB := Lib.hid hb
  clear ho hb
  go_wp2_with fail
  go_ret
  exact ⟨rfl, HB.out⟩
theorem count_312 : (srtF 2 [3, 1, 2]).2 = 2 := by
  simp [srtF, mrg]
  try decide
end Go.Proofs.YtnigadnjppeckaaDoor.inv
