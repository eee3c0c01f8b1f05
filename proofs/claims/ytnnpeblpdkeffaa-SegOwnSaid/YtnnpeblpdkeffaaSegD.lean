/- Package seg: change of all numbers. -/
import Derived.Test.YtnnpeblpdkeffaaSegC
namespace Go.Proofs.Ytnnpeblpdkeffaa.seg
open Go.RowKit Go

set_option maxRecDepth 100000 in
set_option maxHeartbeats 2000000 in
theorem change_step (s pb M n a a2 a3 c k d : Nat) (x : Int) (P : PF) (vs : List Int) (w : World) (h2 : a2 = 2 * a) (h3 : a3 = 2 * a + 1) (hcl : c = vs.length) (hk : k = c / 2) (hd : d = c - k) (hM : M ≤ 20000) (hc : c ≤ 20000) (h1a : 1 ≤ a) (hR : Rep P a vs) (haM : a < M) (ha : 2 ≤ c → a3 < M) (h : SM s pb M n P w)
    (ih : ∀ (b e : Nat) (P1 : PF) (us : List Int) (W : World), (b = a2 ∧ e = k ∨ b = a3 ∧ e = d) → 2 ≤ c → e = us.length → Rep P1 b us → SM s pb M n P1 W →
      Calls Try.prog 20 #[.pointer (some ⟨s, 0, none⟩), .int .i64 b, .int .i64 e, .int .i64 0, .int .i64 e, .bool false, .int .i64 x] W (RetV s pb M n b P1 (us.map fun v => wrap64 (v + x)) W)) :
    Calls Try.prog 20 #[.pointer (some ⟨s, 0, none⟩), .int .i64 a, .int .i64 c, .int .i64 0, .int .i64 c, .bool false, .int .i64 x] w (RetV s pb M n a P (vs.map fun v => wrap64 (v + x)) w) := by
  have hc1 : 1 ≤ c := by rw [hcl]; exact hR.len
  have HS := Lib.hid (safe_any s pb M n a P w x h haM)
  have HA := Lib.hid (fun W (hW : Below w.heap.size w W) => all_any s pb M n a P W c 0 x (h.below hW) haM)
  have HR := Lib.hid hR
  have H := Lib.hid h
  have Hcl := Lib.hid hcl
  have IH := Lib.hid ih
  have p1 : ¬ ((c : Int) ≤ 0) := by omega
  clear h hR hcl ih
  go_enter Try.func20, Try.ntmps20
  go_wp2_with fail
  refine HS.out.mono ?_
  rintro e w1 ⟨b, rfl, hb1⟩
  cases b with
  | true => as_aux_lemma =>
    have HA1 := Lib.hid (HA.out w1 hb1)
    have Hb1 := Lib.hid hb1
    clear hb1 HS HA
    go_wp2_with fail
    refine HA1.out.mono ?_
    rintro e w2 ⟨rfl, s2, o2⟩
    have H2 := Lib.hid (And.intro s2 o2)
    clear s2 o2
    go_wp2_with fail
    refine bodyPost_ret (v := .tuple #[]) (by simp [results, Try.results20]) rfl ⟨rfl, ⟨_, H2.out.1, ?_, fun i hi => allP_off hi⟩, (On.below Hb1.out).trans H2.out.2⟩
    have := HR.out.all h1a x (wrap64 ((P a).least + x)) (wrap64 ((P a).most + x))
    rw [← Hcl.out] at this
    exact this
  | false =>
    by_cases hone : c = 1
    · as_aux_lemma =>
      subst hone
      have hS1 := H.out.below hb1
      obtain ⟨g0, g1⟩ := hS1.head
      obtain ⟨c0, c1, c2, c3, c4, c5⟩ := hS1.cells haM
      have f0 := hS1.free (a * 6)
      have f1 := hS1.free (a * 6 + 1)
      have f2 := hS1.free (a * 6 + 2)
      have f3 := hS1.free (a * 6 + 3)
      have f4 := hS1.free (a * 6 + 4)
      have f5 := hS1.free (a * 6 + 5)
      have ha0 : (0 : Int) ≤ (a : Int) := by omega
      have ha1 : (a : Int) < (M : Int) := by omega
      have H1 := Lib.hid (And.intro hS1 hb1)
      clear hS1 hb1 HS HA IH
      go_wp2_with fail
      have hv : vs = [(P a).sum] := HR.out.one Hcl.out.symm
      have hs := (((((H1.out.1.setSum haM (wrap64 ((P a).sum + x))).setLeast haM (wrap64 ((P a).sum + x))).setMost haM (wrap64 ((P a).sum + x))).setPut haM false).setWhat haM 0).setMore haM 0
      refine bodyPost_ret (v := .tuple #[]) (by simp [results, Try.results20]) rfl ⟨rfl, ⟨updP P a ⟨wrap64 ((P a).sum + x), wrap64 ((P a).sum + x), wrap64 ((P a).sum + x), false, 0, 0⟩, cast (congrArg (fun Q => SM s pb M n Q _) ?_) hs, ?_, fun i hi => updP_other _ _ (fun e => hi (e ▸ Dsc.self _))⟩, (On.below H1.out.2).trans ((((((On.set _ _ _ _).trans (On.set _ _ _ _)).trans (On.set _ _ _ _)).trans (On.set _ _ _ _)).trans (On.set _ _ _ _)).trans (On.set _ _ _ _))⟩
      · funext j
        by_cases hj : j = a <;> simp [updP, hj]
      · have hl := Rep.leaf (P := updP P a ⟨wrap64 ((P a).sum + x), wrap64 ((P a).sum + x), wrap64 ((P a).sum + x), false, 0, 0⟩) a (by rw [updP_same])
        rw [updP_same] at hl
        rw [hv]
        exact hl
    · as_aux_lemma =>
      have hc2 : 2 ≤ c := by omega
      have hPu := push_any s pb M n a c P w1 (H.out.below hb1) (by have := ha hc2; omega) hM hc h1a HR.out.put
      have HPu := Lib.hid hPu
      have Hb1 := Lib.hid hb1
      have E1 : ((a2 : Nat) : Int) = 2 * (a : Int) := by omega
      have E2 : ((k : Nat) : Int) = (c : Int) / 2 := by omega
      have E3 : ((a3 : Nat) : Int) = 2 * (a : Int) + 1 := by omega
      have E4 : ((d : Nat) : Int) = (c : Int) - (c : Int) / 2 := by omega
      have HE := Lib.hid (And.intro E1 (And.intro E2 (And.intro E3 E4)))
      clear E1 E2 E3 E4
      have a3M := ha hc2
      have r0 : ¬ ((c : Int) = 1) := by omega
      have k0 : (0 : Int) ≤ (k : Int) := by omega
      have k1 : (k : Int) ≤ (c : Int) := by omega
      clear hPu hb1 HS HA
      go_wp2_with fail
      refine HPu.out.mono ?_
      rintro e w2 ⟨rfl, s2, o2⟩
      obtain ⟨l, r, hl, hr, rl, rr, ev, ev'⟩ := pushP_rep HR.out h1a (by rw [← Hcl.out]; exact hc2)
      rw [← Hcl.out] at hl hr rl rr
      have H2' := IH.out a2 k _ l w2 (.inl ⟨rfl, rfl⟩) hc2 (by rw [hl, hk]) (by rw [h2]; exact rl) s2
      rw [HE.out.1, HE.out.2.1] at H2'
      have H2 := Lib.hid H2'
      clear H2'
      have O2 := Lib.hid o2
      clear s2 o2 HPu
      go_wp2_with fail
      refine H2.out.mono ?_
      rintro e w3 ⟨rfl, ⟨P3, s3, r3, q3⟩, o3⟩
      have H3' := IH.out a3 d P3 r w3 (.inr ⟨rfl, rfl⟩) hc2 (by rw [hr, hd, hk]) (by rw [h3]; exact rr.congr fun i hi => q3 i (fun h => by rw [h2] at h; exact not_both h1a h hi)) s3
      rw [HE.out.2.2.1, HE.out.2.2.2] at H3'
      have H3 := Lib.hid H3'
      clear H3'
      have O3 := Lib.hid (And.intro o3 (And.intro r3 q3))
      clear s3 o3 r3 q3 H2
      go_wp2_with fail
      refine H3.out.mono ?_
      rintro e w4 ⟨rfl, ⟨P4, s4, r4, q4⟩, o4⟩
      have H4 := Lib.hid (pull_any s pb M n a P4 w4 s4 (by omega) hM)
      have O4 := Lib.hid (And.intro o4 (And.intro r4 q4))
      clear s4 o4 r4 q4 H3
      go_wp2_with fail
      refine H4.out.mono ?_
      rintro e w5 ⟨rfl, ⟨x5, y5, z5, s5⟩, o5⟩
      have H5 := Lib.hid (And.intro s5 o5)
      clear s5 o5
      go_wp2_with fail
      go_end0
      obtain ⟨o3, r3, q3⟩ := O3.out
      obtain ⟨o4, r4, q4⟩ := O4.out
      obtain ⟨s5, o5⟩ := H5.out
      subst h2 h3
      have hlen : l.length + r.length = c := by rw [hl, hr]; omega
      have hj := join_rep (vs := vs.map fun v => wrap64 (v + x)) h1a (pushP_at P a c).1 (pushP_at P a c).2 (by simp only [List.length_map]; rw [hlen, hl]) (by simp only [List.length_map]; omega) r3 q3 r4 q4 (by
        rw [ev, List.map_append, List.map_append, List.map_map, List.map_map]
        congr 1 <;> exact List.map_congr_left fun v _ => (wrap64_idem _).symm)
      refine ⟨rfl, ⟨_, s5, Rep.at hj.1 (by rw [List.length_map, ← Hcl.out]; exact hc2) _ _ _ h1a, fun i hi => ?_⟩, (On.below Hb1.out).trans (O2.out.trans (o3.trans (o4.trans o5)))⟩
      have n1 : i ≠ a := fun e => hi (e ▸ Dsc.self _)
      rw [atP, updP_other _ _ n1, q4 i (fun h => hi h.right), q3 i (fun h => hi h.left), pushP_off hi]
theorem change_any (s pb M n : Nat) (x : Int) (hM : M ≤ 20000) : ∀ (N a c : Nat) (P : PF) (vs : List Int) (w : World), vs.length ≤ N → c = vs.length → c ≤ 20000 → 1 ≤ a → Rep P a vs → Bnd a c M → SM s pb M n P w →
    Calls Try.prog 20 #[.pointer (some ⟨s, 0, none⟩), .int .i64 a, .int .i64 c, .int .i64 0, .int .i64 c, .bool false, .int .i64 x] w (RetV s pb M n a P (vs.map fun v => wrap64 (v + x)) w) := by
  intro N
  induction N with
  | zero =>
    intro a c P vs w hN _ _ _ hR
    have := hR.len
    omega
  | succ N ih =>
    intro a c P vs w hN hc hcb h1 hR hB h
    refine change_step s pb M n a (2 * a) (2 * a + 1) c (c / 2) (c - c / 2) x P vs w rfl rfl hc rfl rfl hM hcb h1 hR hB.lt (fun h2 => (hB.two h2).2.lt) h ?_
    intro b e P1 us W hbe h2 he hR1 hs
    rcases hbe with ⟨rfl, rfl⟩ | ⟨rfl, rfl⟩
    · exact ih (2 * a) (c / 2) P1 us W (by omega) he (by omega) (by omega) hR1 (hB.two h2).1 hs
    · exact ih (2 * a + 1) (c - c / 2) P1 us W (by omega) he (by omega) (by omega) hR1 (hB.two h2).2 hs
end Go.Proofs.Ytnnpeblpdkeffaa.seg
