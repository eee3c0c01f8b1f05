/- The reference's Before: one word is ahead of another. -/
import Derived.Test.YteglhcpochcopaaTrieWd
import Derived.Test.YteglhcpochcopaaTrieK
namespace Go.Proofs.Yteglhcpochcopaa.trie
open Go.RowKit

def beforeB : Wd → Wd → Bool
  | [], [] => false
  | [], _ :: _ => true
  | _ :: _, [] => false
  | a :: s, b :: u => if a = b then beforeB s u else decide (a.toNat < b.toNat)
theorem before_iff (a b : Wd) : beforeB a b = true ↔ wlt a b := by
  induction a generalizing b with
  | nil => cases b <;> simp [beforeB, wlt]
  | cons c a ih =>
    cases b with
    | nil => simp [beforeB, wlt]
    | cons d b =>
      simp only [beforeB, wlt]
      by_cases h : c = d
      · subst h; simp [ih]
      · have : c.toNat ≠ d.toNat := fun e => h (toNat_inj' e)
        simp [h]
theorem before_len {a b : Wd} {i : Nat} (h : i = a.length ∨ i = b.length) (ha : i ≤ a.length) (hb : i ≤ b.length) : beforeB (a.drop i) (b.drop i) = decide (a.length < b.length) := by
  rcases h with rfl | rfl
  · rw [List.drop_length]
    cases hd : b.drop a.length with
    | nil =>
      have : b.length ≤ a.length := by have := congrArg List.length hd; simp at this; omega
      simp [beforeB]; omega
    | cons d u =>
      have : a.length < b.length := by have := congrArg List.length hd; simp at this; omega
      simp [beforeB, this]
  · rw [List.drop_length]
    cases hd : a.drop b.length with
    | nil =>
      have : a.length ≤ b.length := by have := congrArg List.length hd; simp at this; omega
      simp [beforeB]; omega
    | cons d u => simp [beforeB]; omega
theorem before_step {a b : Wd} {i : Nat} (ha : i < a.length) (hb : i < b.length) : beforeB (a.drop i) (b.drop i) = if a.getD i 0 = b.getD i 0 then beforeB (a.drop (i + 1)) (b.drop (i + 1)) else decide ((a.getD i 0).toNat < (b.getD i 0).toNat) := by
  rw [List.drop_eq_getElem_cons ha, List.drop_eq_getElem_cons hb]
  simp [beforeB, List.getD_eq_getElem?_getD, ha, hb]
set_option maxHeartbeats 4000000 in
theorem Before_any (w : World) (a b : Wd) (ha : a.length ≤ 140737488351232) : Calls Try.prog 25 #[sv a, sv b] w fun e w' => e = .returned (.bool (beforeB a b)) ∧ Below w.heap.size w w' := by
  have hl1 := fun ty W => sv_len a ty W
  have hl2 := fun ty W => sv_len b ty W
  have hix : ∀ i, i < a.length → ∀ W, (Instr.index 9 (sv a) (.int .i64 (i : Int))).run Try.prog W = .ok (.int .u8 ((a.getD i 0).toNat : Int)) W := fun i hi W => by rw [sv_at a i hi W]; simp [bv, List.getD_eq_getElem?_getD, hi]
  have hiy : ∀ i, i < b.length → ∀ W, (Instr.index 9 (sv b) (.int .i64 (i : Int))).run Try.prog W = .ok (.int .u8 ((b.getD i 0).toNat : Int)) W := fun i hi W => by rw [sv_at b i hi W]; simp [bv, List.getD_eq_getElem?_getD, hi]
  obtain ⟨n, hn⟩ : ∃ n, n = a.length := ⟨_, rfl⟩
  obtain ⟨m, hm⟩ : ∃ m, m = b.length := ⟨_, rfl⟩
  obtain ⟨xs, hxs⟩ : ∃ xs, xs = sv a := ⟨_, rfl⟩
  obtain ⟨ys, hys⟩ : ∃ ys, ys = sv b := ⟨_, rfl⟩
  simp only [← hxs, ← hys, ← hn, ← hm] at hl1 hl2 hix hiy ha ⊢
  have HN := Lib.hid (And.intro hn hm)
  have HX := Lib.hid (And.intro hix hiy)
  have HI : Hid (beforeB a b = beforeB (a.drop 0) (b.drop 0) ∧ Below w.heap.size w w) := Lib.hid ⟨rfl, Below.refl _ _⟩
  clear hxs hys hn hm hix hiy
  go_enter Try.func25, Try.ntmps25
  go_wp2_with fail
  go_loopw [5] (fun iv wr => ∃ i : Nat, iv = .int .i64 i ∧ i ≤ n ∧ i ≤ m ∧ Hid (beforeB a b = beforeB (a.drop i) (b.drop i) ∧ Below w.heap.size w wr)) (fun iv _ => n - (intOf iv).toNat)
  case atStart => exact ⟨0, rfl, Nat.zero_le _, Nat.zero_le _, HI⟩
  case round =>
    obtain ⟨i, rfl, hin, him, HS⟩ := hrel
    clear HI
    have i0 : (0 : Int) ≤ (i : Int) := by omega
    by_cases h1 : i < n
    · have h1i : (i : Int) < (n : Int) := by omega
      by_cases h2 : i < m
      · have h2i : (i : Int) < (m : Int) := by omega
        have hw1 : IntKind.i64.wrap ((i : Int) + 1) = (i : Int) + 1 := IntWalk.i64_in _ (by omega)
        have hx := HX.out.1 i h1
        have hy := HX.out.2 i h2
        have hs := before_step (a := a) (b := b) (i := i) (by rw [← HN.out.1]; exact h1) (by rw [← HN.out.2]; exact h2)
        by_cases he : a.getD i 0 = b.getD i 0
        · rw [if_pos he] at hs
          rw [he] at hx
          obtain ⟨z, hz⟩ : ∃ z : Int, z = ((b.getD i 0).toNat : Int) := ⟨_, rfl⟩
          rw [← hz] at hx hy
          have HE := Lib.hid (And.intro (HS.out.1.trans hs) HS.out.2)
          clear hs he hz HS
          go_wp2_with fail
          go_quiet (fail)
          have HN2 := Lib.hid (And.intro HE.out.1 (HE.out.2.trans ((belowDrewN _ nq).mono HE.out.2.size)))
          go_wp2_with fail
          go_roundw
          case rel => exact ⟨i + 1, by go_num, h1, h2, HN2⟩
          case measure => simp [intOf]; omega
        · rw [if_neg he] at hs
          have hne : (a.getD i 0).toNat ≠ (b.getD i 0).toNat := fun e => he (toNat_inj' e)
          obtain ⟨z, hz⟩ : ∃ z : Nat, z = (a.getD i 0).toNat := ⟨_, rfl⟩
          obtain ⟨y, hyy⟩ : ∃ z : Nat, z = (b.getD i 0).toNat := ⟨_, rfl⟩
          rw [← hz, ← hyy] at hs
          rw [← hz] at hx
          rw [← hyy] at hy
          rw [← hz, ← hyy] at hne
          have hne2 : ((z : Int) != (y : Int)) = true := by simp; omega
          have Hr : Hid (decide (z < y) = beforeB a b) := Lib.hid (by rw [HS.out.1, hs])
          have HF := Lib.hid HS.out.2
          clear hs he hne hz hyy HS
          go_wp2_with fail
          go_quiet (fail)
          go_wp2_with fail
          go_quiet (fail)
          go_wp2_with fail
          go_ret
          exact ⟨congrArg (fun b => Ending.returned (.bool b)) Hr.out, HF.out.trans ((belowTrans (belowDrewN _ _) (belowDrewN _ _)).mono HF.out.size)⟩
      · have h2i : ¬ ((i : Int) < (m : Int)) := by omega
        have hr := before_len (a := a) (b := b) (i := i) (.inr (by have := HN.out.2; omega)) (by have := HN.out.1; omega) (by have := HN.out.2; omega)
        rw [← HN.out.1, ← HN.out.2] at hr
        have HF := Lib.hid (And.intro (HS.out.1.trans hr) HS.out.2)
        clear hr HS
        go_wp2_with fail
        go_ret
        refine ⟨?_, HF.out.2⟩
        rw [HF.out.1]
        simp
    · have h1i : ¬ ((i : Int) < (n : Int)) := by omega
      have hr := before_len (a := a) (b := b) (i := i) (.inl (by have := HN.out.1; omega)) (by have := HN.out.1; omega) (by have := HN.out.2; omega)
      rw [← HN.out.1, ← HN.out.2] at hr
      have HF := Lib.hid (And.intro (HS.out.1.trans hr) HS.out.2)
      clear hr HS
      go_wp2_with fail
      go_ret
      refine ⟨?_, HF.out.2⟩
      rw [HF.out.1]
      simp
end Go.Proofs.Yteglhcpochcopaa.trie
