/- Package seg: all, safe. -/
import Derived.Test.YtnnpeblpdkeffaaSegM
import Derived.BigQuiet
import Derived.BigRegion
import Derived.StillTailTactics
import Derived.Laws.EntriesVeiled
namespace Go.Proofs.Ytnnpeblpdkeffaa.seg
open Go.RowKit Go

/-- what a call leaves behind -/
def RetP (s pb M n : Nat) (P : PF) (w : World) (e : Ending) (w' : World) : Prop := e = .returned (.tuple #[]) ∧ SM s pb M n P w' ∧ On pb w w'
def allP (P : PF) (a : Nat) (c m : Int) : PF := updP P a ⟨wrap64 ((P a).sum + wrap64 (c * m)), wrap64 ((P a).least + m), wrap64 ((P a).most + m), (P a).put, (P a).what, wrap64 ((P a).more + m)⟩
set_option maxRecDepth 100000 in
set_option maxHeartbeats 1000000 in
theorem all_any (s pb M n a : Nat) (P : PF) (w : World) (c what m : Int) (h : SM s pb M n P w) (ha : a < M) :
    Calls Try.prog 28 #[.pointer (some ⟨s, 0, none⟩), .int .i64 a, .int .i64 c, .bool false, .int .i64 what, .int .i64 m] w (RetP s pb M n (allP P a c m) w) := by
  obtain ⟨h0, h1⟩ := h.head
  obtain ⟨c0, c1, c2, c3, c4, c5⟩ := h.cells ha
  have f0 := h.free (a * 6)
  have f1 := h.free (a * 6 + 1)
  have f2 := h.free (a * 6 + 2)
  have f5 := h.free (a * 6 + 5)
  have ha0 : (0 : Int) ≤ (a : Int) := by omega
  have ha1 : (a : Int) < (M : Int) := by omega
  have H := Lib.hid h
  clear h
  go_enter Try.func28, Try.ntmps28
  go_wp2_with fail
  go_end0
  have hs := (((H.out.setSum ha (wrap64 ((P a).sum + wrap64 (c * m)))).setLeast ha (wrap64 ((P a).least + m))).setMost ha (wrap64 ((P a).most + m))).setMore ha (wrap64 ((P a).more + m))
  refine ⟨rfl, ?_, (((On.set _ _ _ _).trans (On.set _ _ _ _)).trans (On.set _ _ _ _)).trans (On.set _ _ _ _)⟩
  refine cast (congrArg (fun Q => SM s pb M n Q _) ?_) hs
  funext j
  simp only [allP, updP]
  by_cases hj : j = a <;> simp [hj]
theorem allP_other {P : PF} {a i : Nat} {c m : Int} (h : i ≠ a) : allP P a c m i = P i := updP_other _ _ h
set_option maxRecDepth 100000 in
set_option maxHeartbeats 1000000 in
theorem safe_any (s pb M n a : Nat) (P : PF) (w : World) (x : Int) (h : SM s pb M n P w) (ha : a < M) :
    Calls Try.prog 29 #[.pointer (some ⟨s, 0, none⟩), .int .i64 a, .int .i64 x] w fun e w' => ∃ b, e = .returned (.bool b) ∧ Below w.heap.size w w' := by
  obtain ⟨h0, h1⟩ := h.head
  obtain ⟨c0, c1, c2, c3, c4, c5⟩ := h.cells ha
  have ha0 : (0 : Int) ≤ (a : Int) := by omega
  have ha1 : (a : Int) < (M : Int) := by omega
  obtain ⟨g, hg⟩ : ∃ g, g = (decide (0 ≤ x) == decide ((P a).least ≤ wrap64 ((P a).least + x))) := ⟨_, rfl⟩
  clear h
  go_enter Try.func29, Try.ntmps29
  go_wp2_with fail
  all_goals
    go_ret
    exact ⟨_, rfl, belowAlloc _ _⟩
def pushP (P : PF) (a c : Nat) : PF := updP (allP (allP P (2 * a) ((c / 2 : Nat) : Int) (P a).more) (2 * a + 1) ((c - c / 2 : Nat) : Int) (P a).more) a ⟨(P a).sum, (P a).least, (P a).most, false, 0, 0⟩
set_option maxRecDepth 100000 in
set_option maxHeartbeats 1000000 in
theorem push_at (s pb M n a a2 a3 c c2 c3 : Nat) (P : PF) (w : World) (h2 : a2 = 2 * a) (h3 : a3 = 2 * a + 1) (g2 : c2 = c / 2) (g3 : c3 = c - c / 2) (h : SM s pb M n P w) (ha : a3 < M) (hM : M ≤ 20000) (hc : c ≤ 20000) (h1a : 1 ≤ a) (hp : (P a).put = false) :
    Calls Try.prog 27 #[.pointer (some ⟨s, 0, none⟩), .int .i64 a, .int .i64 c] w (RetP s pb M n (pushP P a c) w) := by
  have hA := Lib.hid (all_any s pb M n a2 P w.drew ((c2 : Nat) : Int) (P a).what (P a).more (h.below (belowDrew _)) (by omega))
  have hB := Lib.hid (fun W (hs : SM s pb M n (allP P a2 ((c2 : Nat) : Int) (P a).more) W) => all_any s pb M n a3 _ W.drew ((c3 : Nat) : Int) (P a).what (P a).more (hs.below (belowDrew _)) (by omega))
  obtain ⟨h0, h1⟩ := h.head
  obtain ⟨c0, c1, c2', c3', c4, c5⟩ := h.cells (show a < M by omega)
  rw [hp] at c3'
  have ha0 : (0 : Int) ≤ (a : Int) := by omega
  have ha1 : (a : Int) < (M : Int) := by omega
  have e1 : (2 : Int) * (a : Int) = (a2 : Int) := by omega
  have e2 : ((c : Int)).tdiv 2 = (c2 : Int) := by rw [Int.tdiv_eq_ediv_of_nonneg (by omega)]; omega
  have e3 : (a2 : Int) + 1 = (a3 : Int) := by omega
  have e4 : (c : Int) - (c2 : Int) = (c3 : Int) := by omega
  have hle : a3 ≤ 20000 ∧ c3 ≤ 20000 ∧ a2 ≤ 20000 ∧ c2 ≤ 20000 := ⟨by omega, by omega, by omega, by omega⟩
  obtain ⟨l1, l2, l3, l4⟩ := hle
  obtain ⟨am, ham⟩ : ∃ am, am = (P a).more := ⟨_, rfl⟩
  obtain ⟨aw, haw⟩ : ∃ aw, aw = (P a).what := ⟨_, rfl⟩
  rw [← ham] at hA hB c5
  rw [← haw] at hA hB c4
  have H := Lib.hid (And.intro h2 (And.intro h3 (And.intro g2 (And.intro g3 (And.intro ham (And.intro haw hp))))))
  have hne : a ≠ a2 ∧ a ≠ a3 ∧ a < M := ⟨by omega, by omega, by omega⟩
  have Hne := Lib.hid hne
  clear h h2 h3 g2 g3 hne ham haw c0 c1 c2' h0 hp
  go_enter Try.func27, Try.ntmps27
  go_wp2_with fail
  have r1 : IntKind.i64.wrap (a2 : Int) = (a2 : Int) := by rw [IntKind.wrap_i64]; omega
  have r2 : IntKind.i64.wrap (c2 : Int) = (c2 : Int) := by rw [IntKind.wrap_i64]; omega
  have r3 : IntKind.i64.wrap (a3 : Int) = (a3 : Int) := by rw [IntKind.wrap_i64]; omega
  have r4 : IntKind.i64.wrap (c3 : Int) = (c3 : Int) := by rw [IntKind.wrap_i64]; omega
  go_still_tail 17, (by kernel_rfl)
  change wpList _ _ _ _ _ w.drew
  go_wp2_with fail
  refine hA.out.mono ?_
  rintro e w1 ⟨rfl, s1, o1⟩
  obtain ⟨_, _, _, d3, d4, d5⟩ := s1.cells Hne.out.2.2
  rw [allP_other Hne.out.1] at d3 d4 d5
  rw [H.out.2.2.2.2.2.2] at d3
  rw [← H.out.2.2.2.2.2.1] at d4
  rw [← H.out.2.2.2.2.1] at d5
  have HB := Lib.hid (hB.out w1 s1)
  have O1 := Lib.hid o1
  clear s1 o1 c3' c4 c5
  go_wp2_with fail
  go_still_tail 20, (by kernel_rfl)
  change wpList _ _ _ _ _ w1.drew
  go_wp2_with fail
  refine HB.out.mono ?_
  rintro e w2 ⟨rfl, s2, o2⟩
  obtain ⟨_, _, _, q3, q4, q5⟩ := s2.cells Hne.out.2.2
  have f3 := s2.free (a * 6 + 3)
  have f4 := s2.free (a * 6 + 4)
  have f5 := s2.free (a * 6 + 5)
  have S2 := Lib.hid (And.intro s2 o2)
  clear s2 o2
  go_wp2_with fail
  go_end0
  have hs := ((S2.out.1.setPut Hne.out.2.2 false).setWhat Hne.out.2.2 0).setMore Hne.out.2.2 0
  refine ⟨rfl, cast (congrArg (fun Q => SM s pb M n Q _) ?_) hs, (On.below (belowDrew w)).trans (O1.out.trans ((On.below (belowDrew w1)).trans (S2.out.2.trans (((On.set _ _ _ _).trans (On.set _ _ _ _)).trans (On.set _ _ _ _)))))⟩
  obtain ⟨n1, n2, _⟩ := Hne.out
  obtain ⟨h2, h3, g2, g3, ham, haw, hp⟩ := H.out
  subst h2 h3 g2 g3 ham haw
  funext j
  by_cases hj : j = a
  · subst hj
    simp [pushP, allP, updP, n1, n2]
  · simp [pushP, allP, updP, hj]
theorem push_any (s pb M n a c : Nat) (P : PF) (w : World) (h : SM s pb M n P w) (ha : 2 * a + 1 < M) (hM : M ≤ 20000) (hc : c ≤ 20000) (h1a : 1 ≤ a) (hp : (P a).put = false) :
    Calls Try.prog 27 #[.pointer (some ⟨s, 0, none⟩), .int .i64 a, .int .i64 c] w (RetP s pb M n (pushP P a c) w) :=
  push_at s pb M n a _ _ c _ _ P w rfl rfl rfl rfl h ha hM hc h1a hp
end Go.Proofs.Ytnnpeblpdkeffaa.seg
