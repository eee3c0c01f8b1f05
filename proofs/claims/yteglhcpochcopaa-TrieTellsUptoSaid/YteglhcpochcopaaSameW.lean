/- Are two lists of things the same? (Turned from XSameVP.) -/
import Derived.Test.YteglhcpochcopaaTrieWm
import Derived.Deep.QuietTactic
import Derived.BigQuiet
import Derived.Laws.StructEq
namespace Go.Proofs.Yteglhcpochcopaa.trie
open Go.RowKit
abbrev V := Wd × Int

theorem part0 (a b : Value) (W : World) : (part 9 #[a, b] 0).run Try.prog W = .ok a W := by
  simp [part, Try.isAgg9]
theorem part1 (a b : Value) (W : World) : (part 3 #[a, b] 1).run Try.prog W = .ok b W := by
  simp [part, Try.isAgg3]
theorem neqV (x1 y1 : Wd) (x2 y2 : Int) (W : World) : (binOp .neq 29 (.agg #[.string (bw x1), .int .i64 x2]) (.agg #[.string (bw y1), .int .i64 y2])).run Try.prog W = .ok (.bool (!(x1 == y1 && x2 == y2))) W := by
  rw [run_neq_struct, run_equalIn_agg _ _ _ _ _ (by kernel_rfl) (by kernel_rfl)]
  have hf : (Try.prog.fieldsOf 29).toList = [{ name := "Text", type := 9, offset := 0, embedded := false, tag := "", pkgPath := "", byteOffset := 0 }, { name := "Val", type := 3, offset := 1, embedded := false, tag := "", pkgPath := "", byteOffset := 16 }] := by kernel_rfl
  rw [hf]
  simp [Op.eqFields, part0, part1, run_equalIn_int _ _ _ _ _ _ _ Try.underlying3, run_equalIn_string _ _ _ _ _ Try.underlying9, bw, Result.andThen]
  by_cases h1 : x1 = y1 <;> by_cases h2 : x2 = y2 <;> simp [h1, h2]

def RetB (b : Bool) (w : World) (e : Ending) (w' : World) : Prop := e = .returned (.bool b) ∧ ∃ n, w' = w.drewN n
set_option maxHeartbeats 400000 in
theorem sameV_ne (a b : Option Addr) (n m c d : Nat) (w : World) (hne : n ≠ m) :
    Calls Try.prog 16 #[.slice a n c, .slice b m d] w (RetB false w) := by
  have h : (((n : Int)) != (m : Int)) = true := by simp; omega
  have H := Lib.hid hne
  clear hne
  go_enter Try.func16, Try.ntmps16
  go_wp2
  go_ret
  exact ⟨rfl, 0, rfl⟩

theorem take_sameV (xs ys : List V) (k : Nat) (hx : k < xs.length) (hy : k < ys.length) (h : xs.take k = ys.take k) (he : xs.getD k ([], 0) = ys.getD k ([], 0)) : xs.take (k+1) = ys.take (k+1) := by
  rw [List.take_succ_eq_append_getElem hx, List.take_succ_eq_append_getElem hy, h]
  simp [List.getD_eq_getElem?_getD, hx, hy] at he
  rw [he]

set_option maxHeartbeats 2000000 in
theorem sameV_eq (xs ys : List V) (b o b' o' n c d : Nat) (w : World) (hx : xs.length = n) (hy : ys.length = n) (hn : n ≤ maxLen)
    (hcx : ∀ i, i < n → w.cell? ⟨b, o + i * 2, none⟩ = some (sv ((xs.getD i ([], 0))).1) ∧ w.cell? ⟨b, o + i * 2 + 1, none⟩ = some (.int .i64 ((xs.getD i ([], 0))).2))
    (hcy : ∀ i, i < n → w.cell? ⟨b', o' + i * 2, none⟩ = some (sv ((ys.getD i ([], 0))).1) ∧ w.cell? ⟨b', o' + i * 2 + 1, none⟩ = some (.int .i64 ((ys.getD i ([], 0))).2)) :
    Calls Try.prog 16 #[.slice (some ⟨b, o, none⟩) n c, .slice (some ⟨b', o', none⟩) n d] w (RetB (decide (xs = ys)) w) := by
  unfold maxLen at hn
  have Hx := Lib.hid hx
  have Hy := Lib.hid hy
  have Hcx := Lib.hid hcx
  have Hcy := Lib.hid hcy
  clear hx hy hcx hcy
  go_enter Try.func16, Try.ntmps16
  go_wp2
  go_loopw [5] (fun i wr => ∃ k q : Nat, k ≤ n ∧ i = .int .i64 k ∧ wr = w.drewN q ∧ Hid (xs.take k = ys.take k)) (fun i _ => n - (intOf i).toNat)
  case atStart => exact ⟨0, 0, Nat.zero_le _, rfl, rfl, Lib.hid rfl⟩
  case round =>
    obtain ⟨k, q, hk, rfl, rfl, HS⟩ := hrel
    by_cases hlt : k < n
    · obtain ⟨p1, p2⟩ := Hcx.out k hlt
      obtain ⟨q1, q2⟩ := Hcy.out k hlt
      obtain ⟨x, hxx⟩ : ∃ x, x = xs.getD k ([], 0) := ⟨_, rfl⟩
      obtain ⟨y, hyy⟩ : ∃ y, y = ys.getD k ([], 0) := ⟨_, rfl⟩
      rw [← hxx] at p1 p2
      rw [← hyy] at q1 q2
      obtain ⟨x1, x2⟩ := x
      obtain ⟨y1, y2⟩ := y
      dsimp only at p1 p2 q1 q2
      have h0 : (0 : Int) ≤ (k : Int) := by omega
      have h1 : (k : Int) < (n : Int) := by omega
      rw [sv_bw] at p1 q1
      have hq := fun W => neqV x1 y1 x2 y2 W
      by_cases he : x1 = y1 ∧ x2 = y2
      · have hS : xs.take (k + 1) = ys.take (k + 1) := take_sameV xs ys k (by rw [Hx.out]; omega) (by rw [Hy.out]; omega) HS.out (by rw [← hxx, ← hyy, he.1, he.2])
        have HS' := Lib.hid hS
        have hb : (!(x1 == y1 && x2 == y2)) = false := by simp [he.1, he.2]
        rw [hb] at hq
        have He := Lib.hid he
        clear hS he HS hxx hyy hb
        go_wp2_with fail
        go_quiet (fail)
        go_wp2_with fail
        exact ⟨⟨k + 1, q + nq, by omega, by go_num, rfl, HS'⟩, by simp [intOf]; omega⟩
      · have hb : (!(x1 == y1 && x2 == y2)) = true := by
          cases hbb : (x1 == y1 && x2 == y2) with
          | false => rfl
          | true => exact absurd (by simpa [Bool.and_eq_true, and_assoc] using hbb) he
        rw [hb] at hq
        have hF : decide (xs = ys) = false := by
          simp only [decide_eq_false_iff_not]
          intro h
          apply he
          have : ((x1, x2) : V) = (y1, y2) := by rw [hxx, hyy, h]
          simpa using this
        have HF := Lib.hid hF
        have He := Lib.hid he
        clear hF he HS hxx hyy hb
        go_wp2_with fail
        go_quiet (fail)
        go_wp2_with fail
        go_ret
        show RetB _ w (.returned (.bool false)) _
        exact ⟨by rw [HF.out], _, World.drewN_drewN w q nq⟩
    · have hkn : k = n := by omega
      have hT : decide (xs = ys) = true := by
        have := HS.out
        rw [hkn, List.take_of_length_le (by rw [Hx.out]; omega), List.take_of_length_le (by rw [Hy.out]; omega)] at this
        simpa using this
      have HT := Lib.hid hT
      clear hT hkn HS
      go_wp2_with fail
      go_ret
      show RetB _ w (.returned (.bool true)) _
      exact ⟨by rw [HT.out], _, rfl⟩

set_option maxHeartbeats 1000000 in
theorem sameV_zero (a b : Option Addr) (c d : Nat) (w : World) :
    Calls Try.prog 16 #[.slice a 0 c, .slice b 0 d] w (RetB true w) := by
  go_enter Try.func16, Try.ntmps16
  go_wp2
  go_loopw [5] (fun i wr => i = .int .i64 0 ∧ wr = w) (fun _ _ => 0)
  case atStart => exact ⟨rfl, rfl⟩
  case round =>
    obtain ⟨rfl, rfl⟩ := hrel
    go_wp2_with fail
    go_ret
    show RetB _ _ (.returned (.bool true)) _
    exact ⟨rfl, 0, rfl⟩

theorem sameV_any (a b : Option Addr) (c d n m : Nat) (xs ys : List V) (w : World) (hxn : xs.length = n) (hym : ys.length = m) (hx : ReadsW w a xs) (hy : ReadsW w b ys) (hn : n ≤ maxLen) (r : Bool) (hr : decide (xs = ys) = r) :
    Calls Try.prog 16 #[.slice a n c, .slice b m d] w (RetB r w) := by
  subst hxn hym hr
  by_cases hl : xs.length = ys.length
  · rcases hx with rfl | ⟨b1, o1, rfl, h1⟩
    · have : ys = [] := List.eq_nil_of_length_eq_zero (by simpa using hl.symm)
      subst this
      simpa using sameV_zero a b c d w
    · rcases hy with rfl | ⟨b2, o2, rfl, h2⟩
      · have : xs = [] := List.eq_nil_of_length_eq_zero (by simpa using hl)
        subst this
        simpa using sameV_zero _ b c d w
      · have := sameV_eq xs ys b1 o1 b2 o2 xs.length c d w rfl hl.symm hn h1 (fun i hi => h2 i (by omega))
        rw [← hl]
        exact this
  · refine (sameV_ne a b xs.length ys.length c d w hl).mono ?_
    rintro e w' ⟨rfl, hb⟩
    refine ⟨?_, hb⟩
    have : decide (xs = ys) = false := by
      simp only [decide_eq_false_iff_not]
      intro h
      exact hl (by rw [h])
    rw [this]
end Go.Proofs.Yteglhcpochcopaa.trie
