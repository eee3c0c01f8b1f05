/- Package seg: build. -/
import Derived.Test.YtnnpeblpdkeffaaSegT
import Derived.Test.YtnnpeblpdkeffaaRowI
namespace Go.Proofs.Ytnnpeblpdkeffaa.seg
open Go.RowKit Go

theorem On.reads {pb : Nat} {w w' : World} (h : On pb w w') {b o : Nat} {l : List Int} (hn : b ≠ pb) (hr : ∀ i, i < l.length → w.cell? ⟨b, o + i, none⟩ = some (.int .i64 (l.getD i 0))) : ∀ i, i < l.length → w'.cell? ⟨b, o + i, none⟩ = some (.int .i64 (l.getD i 0)) := by
  intro i hi
  have hc := hr i hi
  have hs : b < w.heap.size := by
    unfold World.cell? at hc
    rcases Nat.lt_or_ge b w.heap.size with h1 | h1
    · exact h1
    · rw [show (⟨b, o + i, none⟩ : Addr).block = b from rfl, Array.getElem?_eq_none h1] at hc; cases hc
  unfold World.cell? at hc ⊢
  rw [show (⟨b, o + i, none⟩ : Addr).block = b from rfl] at hc ⊢
  rw [h.block b hs hn]
  exact hc
/-- what build leaves behind -/
def RetB (s pb M n a : Nat) (P : PF) (l : List Int) (w : World) (e : Ending) (w' : World) : Prop := e = .returned (.tuple #[]) ∧ (∃ (P' : PF) (vs : List Int), SM s pb M n P' w' ∧ Rep P' a vs ∧ vs.length = l.length ∧ vs.map wrap64 = l.map wrap64 ∧ ∀ i, ¬ Dsc a i → P' i = P i) ∧ On pb w w'
set_option maxRecDepth 100000 in
set_option maxHeartbeats 1000000 in
theorem build_leaf (s pb M n a b o cap : Nat) (x : Int) (P : PF) (w : World) (hx : w.cell? ⟨b, o, none⟩ = some (.int .i64 x)) (haM : a < M) (h : SM s pb M n P w) :
    Calls Try.prog 17 #[.pointer (some ⟨s, 0, none⟩), .int .i64 a, .slice (some ⟨b, o, none⟩) 1 cap] w (RetB s pb M n a P [x] w) := by
  obtain ⟨h0, h1⟩ := h.head
  have hd := h.below (belowDrew w)
  have ha0 : (0 : Int) ≤ (a : Int) := by omega
  have ha1 : (a : Int) < (M : Int) := by omega
  have HD := Lib.hid hd
  clear h hd
  go_enter Try.func17, Try.ntmps17
  go_wp2_with fail
  go_still_tail 16, (by kernel_rfl)
  change wpList _ _ _ _ _ w.drew
  have hd := HD.out
  have hbd := On.below (pb := pb) (belowDrew w)
  clear HD
  revert hd hbd
  generalize w.drew = W
  intro hd hbd
  obtain ⟨c0, c1, c2, c3, c4, c5⟩ := hd.cells haM
  have f0 := hd.free (a * 6)
  have f1 := hd.free (a * 6 + 1)
  have f2 := hd.free (a * 6 + 2)
  have f3 := hd.free (a * 6 + 3)
  have f4 := hd.free (a * 6 + 4)
  have f5 := hd.free (a * 6 + 5)
  have HD := Lib.hid (And.intro hd hbd)
  clear hd hbd
  go_wp2_with fail
  have hs := (((((HD.out.1.setSum haM x).setLeast haM x).setMost haM x).setPut haM false).setWhat haM 0).setMore haM 0
  refine bodyPost_ret (v := .tuple #[]) (by simp [results, Try.results17]) rfl ⟨rfl, ⟨updP P a ⟨x, x, x, false, 0, 0⟩, [x], cast (congrArg (fun Q => SM s pb M n Q _) ?_) hs, ?_, rfl, rfl, fun i hi => updP_other _ _ (fun e => hi (e ▸ Dsc.self _))⟩, HD.out.2.trans ((((((On.set _ _ _ _).trans (On.set _ _ _ _)).trans (On.set _ _ _ _)).trans (On.set _ _ _ _)).trans (On.set _ _ _ _)).trans (On.set _ _ _ _))⟩
  · funext j
    by_cases hj : j = a <;> simp [updP, hj]
  · have hl := Rep.leaf (P := updP P a ⟨x, x, x, false, 0, 0⟩) a (by rw [updP_same])
    rw [updP_same] at hl
    exact hl
set_option maxRecDepth 100000 in
set_option maxHeartbeats 1000000 in
theorem build_step (s pb M n a a2 a3 b o c k d cap : Nat) (l : List Int) (P : PF) (w : World) (h2 : a2 = 2 * a) (h3 : a3 = 2 * a + 1) (hcl : c = l.length) (hk : k = c / 2) (hd : d = c - k) (hM : M ≤ 20000) (hc : c ≤ 5000) (h1a : 1 ≤ a) (hc2 : 2 ≤ c) (hcap : c ≤ cap) (ha : a3 < M) (hz : P a = Part.zero) (h : SM s pb M n P w)
    (ih1 : Calls Try.prog 17 #[.pointer (some ⟨s, 0, none⟩), .int .i64 a2, .slice (some ⟨b, o, none⟩) k cap] w (RetB s pb M n a2 P (l.take k) w))
    (ih2 : ∀ (P1 : PF) (W : World), SM s pb M n P1 W → (∀ i, ¬ Dsc a2 i → P1 i = P i) → On pb w W → Calls Try.prog 17 #[.pointer (some ⟨s, 0, none⟩), .int .i64 a3, .slice (some ⟨b, o + k, none⟩) d (cap - k)] W (RetB s pb M n a3 P1 (l.drop k) W)) :
    Calls Try.prog 17 #[.pointer (some ⟨s, 0, none⟩), .int .i64 a, .slice (some ⟨b, o, none⟩) c cap] w (RetB s pb M n a P l w) := by
  subst hk hd
  have q5 : ¬ (cap = c / 2) := by omega
  have E1 : ((a2 : Nat) : Int) = 2 * (a : Int) := by omega
  have E2 : ((c / 2 : Nat) : Int) = (c : Int) / 2 := by omega
  have E3 : ((a3 : Nat) : Int) = 2 * (a : Int) + 1 := by omega
  have E4 : ((c - c / 2 : Nat) : Int) = (c : Int) - (c : Int) / 2 := by omega
  have HE := Lib.hid (And.intro E1 (And.intro E2 (And.intro E3 E4)))
  have q0 : ¬ ((c : Int) = 1) := by omega
  rw [E1] at ih1
  have ih2' := fun P1 W h1 h2 h3 => ih2 P1 W h1 h2 h3
  rw [E3] at ih2'
  have H1 := Lib.hid ih1
  have H2 := Lib.hid ih2'
  have q6 : (0 : Int) ≤ (c : Int) / 2 := by omega
  have q7 : (c : Int) / 2 ≤ (c : Int) := by omega
  have Hcl := Lib.hid (And.intro hcl (And.intro h hz))
  clear ih1 ih2 ih2' E1 E2 E3 E4 h hz hcl
  go_enter Try.func17, Try.ntmps17
  go_wp2_with fail
  refine H1.out.mono ?_
  rintro e w1 ⟨rfl, ⟨P1, vs1, s1, r1, l1, m1, q1⟩, o1⟩
  have H3 := Lib.hid (H2.out P1 w1 s1 q1 o1)
  have O1 := Lib.hid (And.intro r1 (And.intro l1 (And.intro m1 (And.intro q1 o1))))
  clear r1 l1 m1 q1 o1 s1 H1 H2
  go_wp2_with fail
  refine H3.out.mono ?_
  rintro e w2 ⟨rfl, ⟨P2, vs2, s2, r2, l2, m2, q2⟩, o2⟩
  have H4 := Lib.hid (pull_any s pb M n a P2 w2 s2 (by omega) hM)
  have O2 := Lib.hid (And.intro r2 (And.intro l2 (And.intro m2 (And.intro q2 o2))))
  clear r2 l2 m2 q2 o2 s2 H3
  go_wp2_with fail
  refine H4.out.mono ?_
  rintro e w3 ⟨rfl, ⟨x5, y5, z5, s5⟩, o5⟩
  have H5 := Lib.hid (And.intro s5 o5)
  clear s5 o5 H4
  go_wp2_with fail
  go_end0
  obtain ⟨r1, l1, m1, p1, o1⟩ := O1.out
  obtain ⟨r2, l2, m2, p2, o2⟩ := O2.out
  obtain ⟨s5, o5⟩ := H5.out
  obtain ⟨hcl, h, hz⟩ := Hcl.out
  subst h2 h3
  rw [List.length_take] at l1
  rw [List.length_drop] at l2
  have hj := join_rep (vs := (vs1 ++ vs2).map wrap64) h1a (by rw [hz]; rfl) (by rw [hz]; rfl) (by omega) (by omega) r1 p1 r2 p2 rfl
  have hl2 : 2 ≤ ((vs1 ++ vs2).map wrap64).length := by simp; omega
  refine ⟨rfl, ⟨_, (vs1 ++ vs2).map wrap64, s5, Rep.at hj.1 hl2 _ _ _ h1a, by simp; omega, ?_, fun i hi => ?_⟩, o1.trans (o2.trans o5)⟩
  · rw [List.map_map, show (wrap64 ∘ wrap64) = wrap64 from funext wrap64_idem, List.map_append, m1, m2, ← List.map_append, List.take_append_drop]
  · have n1 : i ≠ a := fun e => hi (e ▸ Dsc.self _)
    rw [atP, updP_other _ _ n1, p2 i (fun h => hi h.right), p1 i (fun h => hi h.left)]
theorem build_any (s pb M n : Nat) (hM : M ≤ 20000) : ∀ (N a b o cap : Nat) (l : List Int) (P : PF) (w : World), l.length ≤ N → l.length ≤ 5000 → l.length ≤ cap → 1 ≤ l.length → 1 ≤ a → b ≠ pb → (∀ i, Dsc a i → P i = Part.zero) → (∀ i, i < l.length → w.cell? ⟨b, o + i, none⟩ = some (.int .i64 (l.getD i 0))) → Bnd a l.length M → SM s pb M n P w →
    Calls Try.prog 17 #[.pointer (some ⟨s, 0, none⟩), .int .i64 a, .slice (some ⟨b, o, none⟩) l.length cap] w (RetB s pb M n a P l w) := by
  intro N
  induction N with
  | zero =>
    intro a b o cap l P w hN _ _ h1
    omega
  | succ N ih =>
    intro a b o cap l P w hN h5 hcap h1 ha hb hz hr hB h
    by_cases h2 : 2 ≤ l.length
    · have l1 : (l.take (l.length / 2)).length = l.length / 2 := by rw [List.length_take]; omega
      have l2 : (l.drop (l.length / 2)).length = l.length - l.length / 2 := List.length_drop
      refine build_step s pb M n a (2 * a) (2 * a + 1) b o l.length (l.length / 2) (l.length - l.length / 2) cap l P w rfl rfl rfl rfl rfl hM h5 ha h2 hcap (hB.two h2).2.lt (hz a (Dsc.self a)) h ?_ ?_
      · have hx := ih (2 * a) b o cap (l.take (l.length / 2)) P w (by omega) (by omega) (by omega) (by omega) (by omega) hb (fun i hi => hz i hi.left) (fun i hi => by
          rw [l1] at hi
          rw [hr i (by omega), List.getD_eq_getElem?_getD, List.getD_eq_getElem?_getD, List.getElem?_take, if_pos hi]) (by rw [l1]; exact (hB.two h2).1) h
        rw [l1] at hx
        exact hx
      · intro P1 W hs hq hon
        have hx := ih (2 * a + 1) b (o + l.length / 2) (cap - l.length / 2) (l.drop (l.length / 2)) P1 W (by omega) (by omega) (by omega) (by omega) (by omega) hb (fun i hi => by rw [hq i (fun h => not_both ha h hi)]; exact hz i hi.right) (fun i hi => by
          rw [l2] at hi
          have := hon.reads hb hr (l.length / 2 + i) (by omega)
          rw [Nat.add_assoc, this, List.getD_eq_getElem?_getD, List.getD_eq_getElem?_getD, List.getElem?_drop]) (by rw [l2]; exact (hB.two h2).2) hs
        rw [l2] at hx
        exact hx
    · match l, h1, h2 with
      | [x], _, _ => exact build_leaf s pb M n a b o cap x P w (by simpa using hr 0 (by simp)) hB.lt h
      | _ :: _ :: _, _, h2 => simp at h2
end Go.Proofs.Ytnnpeblpdkeffaa.seg
