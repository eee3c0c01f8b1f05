import Derived.Test.YtnigadnjppeckaaBase
import Derived.Test.YtnigadnjppeckaaRows
import Derived.Deep.QuietTactic
import Derived.BigQuiet
namespace Go.Proofs.Ytnigadnjppeckaa
open Go.RowKit

set_option maxHeartbeats 400000 in
theorem sameInts_ne (a b : Option Addr) (n m c d : Nat) (w : World) (hne : n ≠ m) :
    Calls Try.prog 13 #[.slice a n c, .slice b m d] w fun e w' => e = .returned (.bool false) ∧ w = w' := by
  have h : (((n : Int)) != (m : Int)) = true := by simp; omega
  have H := Lib.hid hne
  clear hne
  go_enter Try.func13, Try.ntmps13
  go_wp2
  go_ret
  exact ⟨rfl, rfl⟩

theorem drewN_add (w : World) (q n : Nat) : (w.drewN q).drewN n = w.drewN (q + n) := World.drewN_drewN w q n
def RetB (b : Bool) (w : World) (e : Ending) (w' : World) : Prop := e = .returned (.bool b) ∧ ∃ n, w' = w.drewN n

theorem take_same (xs ys : List Int) (k : Nat) (hx : k < xs.length) (hy : k < ys.length) (h : xs.take k = ys.take k) (he : xs.getD k 0 = ys.getD k 0) : xs.take (k+1) = ys.take (k+1) := by
  rw [List.take_succ_eq_append_getElem hx, List.take_succ_eq_append_getElem hy, h]
  simp [List.getD_eq_getElem?_getD, hx, hy] at he
  rw [he]

set_option maxHeartbeats 1000000 in
theorem sameInts_eq (xs ys : List Int) (b o b' o' n c d : Nat) (w : World) (hx : xs.length = n) (hy : ys.length = n) (hn : n ≤ maxLen)
    (hcx : ∀ i, i < n → w.cell? ⟨b, o + i, none⟩ = some (.int .i64 (xs.getD i 0))) (hcy : ∀ i, i < n → w.cell? ⟨b', o' + i, none⟩ = some (.int .i64 (ys.getD i 0))) :
    Calls Try.prog 13 #[.slice (some ⟨b, o, none⟩) n c, .slice (some ⟨b', o', none⟩) n d] w (RetB (decide (xs = ys)) w) := by
  unfold maxLen at hn
  have Hx := Lib.hid hx
  have Hy := Lib.hid hy
  have Hcx := Lib.hid hcx
  have Hcy := Lib.hid hcy
  clear hx hy hcx hcy
  go_enter Try.func13, Try.ntmps13
  go_wp2
  go_loopw [5] (fun i wr => ∃ k q : Nat, k ≤ n ∧ i = .int .i64 k ∧ wr = w.drewN q ∧ Hid (xs.take k = ys.take k)) (fun i _ => n - (intOf i).toNat)
  case atStart => exact ⟨0, 0, Nat.zero_le _, rfl, rfl, Lib.hid rfl⟩
  case round =>
    obtain ⟨k, q, hk, rfl, rfl, HS⟩ := hrel
    by_cases hlt : k < n
    · have c1 := Hcx.out k hlt
      have c2 := Hcy.out k hlt
      have h0 : (0 : Int) ≤ (k : Int) := by omega
      have h1 : (k : Int) < (n : Int) := by omega
      by_cases he : xs[k]?.getD 0 = ys[k]?.getD 0
      · have hS : xs.take (k + 1) = ys.take (k + 1) := take_same xs ys k (by rw [Hx.out]; omega) (by rw [Hy.out]; omega) HS.out (by simpa using he)
        have HS' := Lib.hid hS
        have hb : (xs[k]?.getD 0 != ys[k]?.getD 0) = false := by simp [he]
        clear hS he HS
        go_wp2_with fail
        go_quiet (fail)
        go_wp2_with fail
        exact ⟨⟨k + 1, q + nq, by omega, by go_num, rfl, HS'⟩, by simp [intOf]; omega⟩
      · have hb : (xs[k]?.getD 0 != ys[k]?.getD 0) = true := by simp [he]
        have hF : decide (xs = ys) = false := by
          simp only [decide_eq_false_iff_not]; intro h; exact he (by rw [h])
        have HF := Lib.hid hF
        clear hF he HS
        go_wp2_with fail
        go_quiet (fail)
        go_wp2_with fail
        go_ret
        show RetB _ w (.returned (.bool false)) _
        exact ⟨by rw [HF.out], _, drewN_add w q nq⟩
    · have hkn : k = n := by omega
      have hT : decide (xs = ys) = true := by
        have := HS.out
        rw [hkn, List.take_of_length_le (by rw [Hx.out]; omega), List.take_of_length_le (by rw [Hy.out]; omega)] at this
        simpa using this
      have HT := Lib.hid hT
      clear hT hkn HS
      go_wp2_with fail
      go_ret
      show RetB _ w (.returned (.bool true)) _
      exact ⟨by rw [HT.out], _, rfl⟩

set_option maxHeartbeats 1000000 in
theorem sameInts_zero (a b : Option Addr) (c d : Nat) (w : World) :
    Calls Try.prog 13 #[.slice a 0 c, .slice b 0 d] w (RetB true w) := by
  go_enter Try.func13, Try.ntmps13
  go_wp2
  go_loopw [5] (fun i wr => i = .int .i64 0 ∧ wr = w) (fun _ _ => 0)
  case atStart => exact ⟨rfl, rfl⟩
  case round =>
    obtain ⟨rfl, rfl⟩ := hrel
    go_wp2_with fail
    go_ret
    show RetB _ _ (.returned (.bool true)) _
    exact ⟨rfl, 0, rfl⟩

theorem sameInts_any (a b : Option Addr) (c d : Nat) (xs ys : List Int) (w : World) (hx : Reads w a xs) (hy : Reads w b ys) (hn : xs.length ≤ maxLen) :
    Calls Try.prog 13 #[.slice a xs.length c, .slice b ys.length d] w (RetB (decide (xs = ys)) w) := by
  by_cases hl : xs.length = ys.length
  · rcases hx with rfl | ⟨b1, o1, rfl, h1⟩
    · have : ys = [] := List.eq_nil_of_length_eq_zero (by simpa using hl.symm)
      subst this
      simpa using sameInts_zero a b c d w
    · rcases hy with rfl | ⟨b2, o2, rfl, h2⟩
      · have : xs = [] := List.eq_nil_of_length_eq_zero (by simpa using hl)
        subst this
        simpa using sameInts_zero _ b c d w
      · have := sameInts_eq xs ys b1 o1 b2 o2 xs.length c d w rfl hl.symm hn h1 (fun i hi => h2 i (by omega))
        rw [← hl]
        exact this
  · refine (sameInts_ne a b xs.length ys.length c d w hl).mono ?_
    rintro e w' ⟨rfl, rfl⟩
    refine ⟨?_, 0, rfl⟩
    have : decide (xs = ys) = false := by
      simp only [decide_eq_false_iff_not]
      intro h
      exact hl (by rw [h])
    rw [this]
theorem sameInts_self (a b : Option Addr) (c d n : Nat) (xs : List Int) (w : World) (hl : xs.length = n) (hx : Reads w a xs) (hy : Reads w b xs) (hn : n ≤ maxLen) :
    Calls Try.prog 13 #[.slice a n c, .slice b n d] w (RetB true w) := by
  subst hl
  have h := sameInts_any a b c d xs xs w hx hy hn
  rwa [decide_eq_true rfl] at h
end Go.Proofs.Ytnigadnjppeckaa
