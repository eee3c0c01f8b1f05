/- Package inv, plain laws: what sorted tells (the count wraps as the machine's does). No function of the program is named here. -/
import Derived.Test.YtnigadnjppeckaaMore
import Derived.Test.YtnigadnjppeckaaCloneI
import Derived.Test.YtnigadnjppeckaaRows
import Derived.Deep.AppendLies
import Derived.Deep.RegionLaw
import Derived.Deep.QuietTactic
import Derived.BigQuiet
import Derived.Laws.EntriesVeiled
namespace Go.Proofs.Ytnigadnjppeckaa.inv
open Go

/-- two rows into one; n: how many pairs were out of order so far -/
def mrg : List Int → List Int → Int → List Int × Int
  | [], [], n => ([], n)
  | [], y :: b, n => ((y :: (mrg [] b (IntKind.i64.wrap (n + 0))).1), (mrg [] b (IntKind.i64.wrap (n + 0))).2)
  | x :: a, [], n => ((x :: (mrg a [] n).1), (mrg a [] n).2)
  | x :: a, y :: b, n => if x ≤ y then ((x :: (mrg a (y :: b) n).1), (mrg a (y :: b) n).2) else ((y :: (mrg (x :: a) b (IntKind.i64.wrap (n + ((a.length + 1 : Nat) : Int)))).1), (mrg (x :: a) b (IntKind.i64.wrap (n + ((a.length + 1 : Nat) : Int)))).2)
termination_by a b => a.length + b.length
/-- sorted, and how many pairs were out of order -/
def srtF : Nat → List Int → List Int × Int
  | 0, xs => (xs, 0)
  | k + 1, xs => if xs.length < 2 then (xs, 0) else
      let p := srtF k (xs.take (xs.length / 2))
      let q := srtF k (xs.drop (xs.length / 2))
      let r := mrg p.1 q.1 q.2
      (r.1, IntKind.i64.wrap (p.2 + r.2))
theorem mrg_length : ∀ (a b : List Int) (n : Int), (mrg a b n).1.length = a.length + b.length := by
  intro a b n
  induction a, b, n using mrg.induct with
  | case1 n => simp [mrg]
  | case2 n y b ih => rw [mrg]; simp only [List.length_cons] at *; omega
  | case3 n x a ih => rw [mrg]; simp only [List.length_cons] at *; omega
  | case4 n x a y b h ih => rw [mrg, if_pos h]; simp only [List.length_cons] at *; omega
  | case5 n x a y b h ih => rw [mrg, if_neg h]; simp only [List.length_cons] at *; omega
theorem srtF_length (k : Nat) : ∀ xs : List Int, (srtF k xs).1.length = xs.length := by
  induction k with
  | zero => intro xs; rfl
  | succ k ih =>
    intro xs
    unfold srtF
    split
    · rfl
    · simp only [mrg_length, ih, List.length_take, List.length_drop]
      omega
end Go.Proofs.Ytnigadnjppeckaa.inv
/- Package inv, plain law: a list that rises has no pair out of order. No function of the program is named here. -/
namespace Go.Proofs.Ytnigadnjppeckaa.inv
open Go

theorem wrap_zero : IntKind.i64.wrap (0 + 0) = 0 := by decide
theorem mrg_rise : ∀ (a b : List Int) (n : Int), n = 0 → (a ++ b).Pairwise (· ≤ ·) → mrg a b n = (a ++ b, 0) := by
  intro a b n
  induction a, b, n using mrg.induct with
  | case1 n => intro hn _; rw [mrg, hn]; rfl
  | case2 n y b ih =>
    intro hn h
    subst hn
    rw [wrap_zero] at ih
    have e := ih rfl (by simpa using (List.pairwise_cons.1 (by simpa using h)).2)
    rw [mrg, wrap_zero, e]
    rfl
  | case3 n x a ih =>
    intro hn h
    have e := ih hn (by simpa using (List.pairwise_cons.1 (by simpa using h)).2)
    rw [mrg, e]
    simp
  | case4 x a y b n hle ih =>
    intro hn h
    have e := ih hn (List.pairwise_cons.1 (by simpa using h)).2
    rw [mrg, if_pos hle, e]
    simp
  | case5 x a y b n hle ih =>
    intro _ h
    have h2 : (x :: (a ++ y :: b)).Pairwise (· ≤ ·) := h
    exact absurd ((List.pairwise_cons.1 h2).1 y (by simp)) hle
theorem srtF_rise (k : Nat) : ∀ xs : List Int, xs.Pairwise (· ≤ ·) → srtF k xs = (xs, 0) := by
  induction k with
  | zero => intro xs _; rfl
  | succ k ih =>
    intro xs h
    unfold srtF
    split
    · rfl
    · have e1 := ih (xs.take (xs.length / 2)) (h.sublist (List.take_sublist _ _))
      have e2 := ih (xs.drop (xs.length / 2)) (h.sublist (List.drop_sublist _ _))
      have e3 := mrg_rise (xs.take (xs.length / 2)) (xs.drop (xs.length / 2)) 0 rfl (by rw [List.take_append_drop]; exact h)
      rw [List.take_append_drop] at e3
      simp only [e1, e2, e3, wrap_zero]
end Go.Proofs.Ytnigadnjppeckaa.inv
/- Package inv: sorted (under way). -/
namespace Go.Proofs.Ytnigadnjppeckaa.inv
open Go.RowKit

def RetSo (w : World) (r : List Int × Int) (e : Ending) (w' : World) : Prop := ∃ a c, e = .returned (.tuple #[.slice a r.1.length c, .int .i64 r.2]) ∧ OwnI 3 w' w.heap.size (.slice a r.1.length c) r.1 ∧ Below w.heap.size w w'
set_option maxRecDepth 100000 in
set_option maxHeartbeats 2000000 in
theorem sorted_small (w : World) (a : Option Addr) (c n : Nat) (xs : List Int) (hl : xs.length = n) (h2 : n < 2) (hr : Reads w a xs) (hnone : a = none → c = 0) :
    Calls Try.prog 74 #[.slice a n c] w (RetSo w (xs, 0)) := by
  have HC := Lib.hid (cloneI.clone_any w a c xs hr hnone (by omega))
  rw [hl] at HC
  have Hl := Lib.hid hl
  have hc : (n : Int) < 2 := by omega
  clear hr hnone hl
  go_enter Try.func74, Try.ntmps74
  go_wp2_with fail
  refine HC.out.mono ?_
  rintro e w1 ⟨a1, c1, rfl, ho, hb⟩
  have HO := Lib.hid (And.intro ho hb)
  clear ho hb HC
  go_wp2_with fail
  exact bodyPost_ret (v := .tuple #[.slice a1 xs.length c1, .int .i64 0]) (by simp [results, Try.results74, go_sem]) rfl ⟨a1, c1, rfl, HO.out.1, HO.out.2⟩
end Go.Proofs.Ytnigadnjppeckaa.inv
/- Package inv: sorted of two and more numbers. (Printed by it.py.) -/
namespace Go.Proofs.Ytnigadnjppeckaa.inv
open Go.RowKit Go

def lenS : Value → Nat
  | .slice _ n _ => n
  | _ => 0
/-- what holds between two rounds: V is the world where the loop begins -/
structure MS (V : World) (r : List Int × Int) (pa pb dn : List Int) (N : Int) (va vb : Option Addr) (ca cb : Nat) (ov : Value) (W : World) : Prop where
  ra : Reads V va pa
  rb : Reads V vb pb
  la : pa.length ≤ ca
  lb : pb.length ≤ cb
  own : OwnI 3 W V.heap.size ov dn
  bel : Below V.heap.size V W
  e1 : dn ++ (mrg pa pb N).1 = r.1
  e2 : (mrg pa pb N).2 = r.2
theorem MS.drewN {V : World} {r : List Int × Int} {pa pb dn : List Int} {N : Int} {va vb : Option Addr} {ca cb : Nat} {ov : Value} {W : World} (h : MS V r pa pb dn N va vb ca cb ov W) (q : Nat) : MS V r pa pb dn N va vb ca cb ov (W.drewN q) :=
  ⟨h.ra, h.rb, h.la, h.lb, h.own, belowTrans h.bel (belowDrewN _ _), h.e1, h.e2⟩
theorem reads_tail {V : World} {b o : Nat} {x : Int} {pa : List Int} {c : Nat} (h : Reads V (some ⟨b, o, none⟩) (x :: pa)) (hc : pa.length + 1 ≤ c) : Reads V (if c - 1 = 0 then some ⟨b, o, none⟩ else some ⟨b, o + 1, none⟩) pa := by
  cases pa with
  | nil => exact .inl rfl
  | cons y pa =>
    simp only [List.length_cons] at hc
    rw [if_neg (by omega)]
    rcases h with h | ⟨b', o', e, hx⟩
    · cases h
    · cases e
      refine .inr ⟨b, o + 1, rfl, fun i hi => ?_⟩
      have := hx (i + 1) (by simpa using hi)
      rw [show o + 1 + i = o + (i + 1) by omega, this]
      simp
theorem reads_head {V : World} {va : Option Addr} {x : Int} {pa : List Int} (h : Reads V va (x :: pa)) : ∃ b o, va = some ⟨b, o, none⟩ ∧ V.cell? ⟨b, o, none⟩ = some (.int .i64 x) := by
  rcases h with h | ⟨b, o, e, hx⟩
  · cases h
  · exact ⟨b, o, e, by simpa using hx 0 (by simp)⟩
theorem mrg_nn (n : Int) : mrg [] [] n = ([], n) := by rw [mrg]
theorem mrg_nc (y : Int) (b : List Int) (n : Int) : mrg [] (y :: b) n = (y :: (mrg [] b (IntKind.i64.wrap (n + 0))).1, (mrg [] b (IntKind.i64.wrap (n + 0))).2) := by rw [mrg]
theorem mrg_cn (x : Int) (a : List Int) (n : Int) : mrg (x :: a) [] n = (x :: (mrg a [] n).1, (mrg a [] n).2) := by rw [mrg]
theorem mrg_le {x y : Int} (a b : List Int) (n : Int) (h : x ≤ y) : mrg (x :: a) (y :: b) n = (x :: (mrg a (y :: b) n).1, (mrg a (y :: b) n).2) := by rw [mrg, if_pos h]
theorem mrg_gt {x y : Int} (a b : List Int) (n : Int) (h : ¬ x ≤ y) : mrg (x :: a) (y :: b) n = (y :: (mrg (x :: a) b (IntKind.i64.wrap (n + ((a.length + 1 : Nat) : Int)))).1, (mrg (x :: a) b (IntKind.i64.wrap (n + ((a.length + 1 : Nat) : Int)))).2) := by rw [mrg, if_neg h]
theorem MS.stepA {V : World} {r : List Int × Int} {x : Int} {pa pb dn : List Int} {N : Int} {b o : Nat} {vb : Option Addr} {ca cb : Nat} {ov ov' : Value} {W W' : World} (h : MS V r (x :: pa) pb dn N (some ⟨b, o, none⟩) vb ca cb ov W)
    (hm : mrg (x :: pa) pb N = (x :: (mrg pa pb N).1, (mrg pa pb N).2)) (hown : W'.ownsRow V.heap.size 3 1 ov' (dn.length + 1) (dn.map (Value.int .i64) ++ [.int .i64 x])) (hb : Below V.heap.size V W') :
    MS V r pa pb (dn ++ [x]) N (if ca - 1 = 0 then some ⟨b, o, none⟩ else some ⟨b, o + 1, none⟩) vb (ca - 1) cb ov' W' := by
  have hl := h.la
  simp only [List.length_cons] at hl
  have h1 := h.e1
  have h2 := h.e2
  rw [hm] at h1 h2
  refine ⟨reads_tail h.ra hl, h.rb, by omega, h.lb, ?_, hb, ?_, h2⟩
  · unfold OwnI
    simpa using hown
  · rw [← h1]
    simp
theorem MS.stepB {V : World} {r : List Int × Int} {y : Int} {pa pb dn : List Int} {N N' : Int} {b o : Nat} {va : Option Addr} {ca cb : Nat} {ov ov' : Value} {W W' : World} (h : MS V r pa (y :: pb) dn N va (some ⟨b, o, none⟩) ca cb ov W)
    (hm : mrg pa (y :: pb) N = (y :: (mrg pa pb N').1, (mrg pa pb N').2)) (hown : W'.ownsRow V.heap.size 3 1 ov' (dn.length + 1) (dn.map (Value.int .i64) ++ [.int .i64 y])) (hb : Below V.heap.size V W') :
    MS V r pa pb (dn ++ [y]) N' va (if cb - 1 = 0 then some ⟨b, o, none⟩ else some ⟨b, o + 1, none⟩) ca (cb - 1) ov' W' := by
  have hl := h.lb
  simp only [List.length_cons] at hl
  have h1 := h.e1
  have h2 := h.e2
  rw [hm] at h1 h2
  refine ⟨h.ra, reads_tail h.rb hl, h.la, by omega, ?_, hb, ?_, h2⟩
  · unfold OwnI
    simpa using hown
  · rw [← h1]
    simp
set_option maxRecDepth 100000 in
set_option maxHeartbeats 2000000 in
theorem sorted_big (w : World) (b o c n h : Nat) (R1 R2 : List Int × Int) (hh : h = n / 2) (hR1 : R1.1.length = h) (hR2 : R2.1.length = n - h) (h2 : 2 ≤ n) (hc : n ≤ c) (hn : n ≤ 17592186044400)
    (ih1 : ∀ W, Below w.heap.size w W → Calls Try.prog 74 #[.slice (some ⟨b, o, none⟩) h c] W (RetSo W R1))
    (ih2 : ∀ W, Below w.heap.size w W → Calls Try.prog 74 #[.slice (some ⟨b, o + h, none⟩) (n - h) (c - h)] W (RetSo W R2)) :
    Calls Try.prog 74 #[.slice (some ⟨b, o, none⟩) n c] w (RetSo w ((mrg R1.1 R2.1 R2.2).1, IntKind.i64.wrap (R1.2 + (mrg R1.1 R2.1 R2.2).2))) := by
  have h0 : ¬ ((n : Int) < 2) := by omega
  have q1 : ((n : Int)).tdiv 2 = (h : Nat) := by subst hh; rw [Int.tdiv_eq_ediv_of_nonneg (by omega)]; omega
  have q2 : (0 : Int) ≤ (h : Int) := by omega
  have q3 : (h : Int) ≤ (c : Int) := by omega
  have q4 : (h : Int) ≤ (n : Int) := by omega
  have q5 : ¬ (c = h) := by omega
  have HR12 := Lib.hid (And.intro hR1 hR2)
  clear hR1 hR2
  have H1 := Lib.hid ih1
  have H2 := Lib.hid ih2
  have Hh := Lib.hid hh
  clear ih1 ih2 hh
  go_enter Try.func74, Try.ntmps74
  go_wp2_with fail
  refine (H1.out w (Below.refl _ _)).mono ?_
  rintro e w1 ⟨a1, c1, rfl, ho1, hb1⟩
  have H2' := Lib.hid (H2.out w1 hb1)
  have HO1 := Lib.hid (And.intro ho1 hb1)
  clear ho1 hb1 H1 H2
  go_wp2_with fail
  refine H2'.out.mono ?_
  rintro e w2 ⟨a2, c2, rfl, ho2, hb2⟩
  have HO2 := Lib.hid (And.intro ho2 hb2)
  have HA := Lib.hid (HO1.out.1.up hb2)
  have HB := Lib.hid (belowTrans HO1.out.2 hb2)
  clear ho2 hb2 H2' HO1
  go_wp2_with fail
  obtain ⟨i0, hi, hz0, hz1, hz2⟩ := info_parts infoInt
  have Hi := Lib.hid (And.intro hi (And.intro hz0 (And.intro hz1 hz2)))
  obtain ⟨r, hr⟩ : ∃ r, r = mrg R1.1 R2.1 R2.2 := ⟨_, rfl⟩
  have HS : Hid (MS w2 r R1.1 R2.1 [] R2.2 a1 a2 c1 c2 (.slice none 0 0) w2) := Lib.hid ⟨HA.out.reads, HO2.out.1.reads, by
      obtain ⟨a', c', e, _⟩ := HA.out.form
      rcases HA.out.2 with ⟨e1, e2⟩ | ⟨g, cap, cur, e1, _, _, e3, _⟩
      · omega
      · injection e1 with _ _ e4; omega, by
      rcases HO2.out.1.2 with ⟨e1, e2⟩ | ⟨g, cap, cur, e1, _, _, e3, _⟩
      · omega
      · injection e1 with _ _ e4; omega, World.ownsRow_nil _ _ _ _, Below.refl _ _, by rw [hr]; rfl, by rw [hr]⟩
  rw [← hr]
  have hrl : r.1.length = n := by rw [hr, mrg_length, HR12.out.1, HR12.out.2, Hh.out]; omega
  have Hrl := Lib.hid hrl
  have Hr := Lib.hid hr
  clear hrl
  clear hi hz0 hz1 hz2 hr
  go_loopw [4, 6, 7, 8] (fun av bv nv ov wr => ∃ (va vb : Option Addr) (ca cb : Nat) (pa pb dn : List Int) (N : Int) (ow : Value), av = .slice va pa.length ca ∧ bv = .slice vb pb.length cb ∧ nv = .int .i64 N ∧ ow = ov ∧ Hid (MS w2 r pa pb dn N va vb ca cb ow wr)) (fun av bv _ _ _ => lenS av + lenS bv)
  case atStart => exact ⟨a1, a2, c1, c2, R1.1, R2.1, [], R2.2, _, rfl, rfl, rfl, rfl, HS⟩
  case round =>
    obtain ⟨va, vb, ca, cb, pa, pb, dn, N, ow, rfl, rfl, rfl, rfl, HM⟩ := hrel
    obtain ⟨oa, oc, rfl, _⟩ := HM.out.own.form
    obtain ⟨dl, hdl⟩ : ∃ dl, dl = dn.length := ⟨_, rfl⟩
    have hlen : dl + (pa.length + pb.length) ≤ n := by
      have h1 := congrArg List.length HM.out.e1
      rw [List.length_append, mrg_length, Hrl.out] at h1
      omega
    have hown : wr.ownsRow w2.heap.size 3 1 (.slice oa dl oc) dl (dn.map (Value.int .i64)) := by
      have h := HM.out.own
      unfold OwnI at h
      rw [← hdl] at h
      exact h
    have hsz := HM.out.bel.size
    have Ho := Lib.hid hown
    clear hown HS
    cases pa with
    | nil =>
      cases pb with
      | nil =>
        have e1 := HM.out.e1
        have e2 := HM.out.e2
        simp only [mrg, List.append_nil] at e1 e2
        have HF := Lib.hid (And.intro HM.out.own (And.intro HM.out.bel (And.intro e1 e2)))
        clear HM e1 e2 Ho
        go_wp2_with fail
        have HR : RetSo w (r.1, IntKind.i64.wrap (R1.2 + r.2)) (.returned (.tuple #[.slice oa dn.length oc, .int .i64 (IntKind.i64.wrap (R1.2 + N))])) wr := by
          obtain ⟨r1, r2⟩ := r
          obtain ⟨q1, q2, q3, q4⟩ := HF.out
          dsimp only at q3 q4 ⊢
          subst q3 q4
          exact ⟨oa, oc, rfl, ownsRow_lower q1 HB.out.size, belowTrans HB.out q2⟩
        exact bodyPost_ret (v := .tuple #[.slice oa dn.length oc, .int .i64 (IntKind.i64.wrap (R1.2 + N))]) (by simp [results, Try.results74, go_sem, wrap64, IntKind.wrap_i64]) rfl (by rw [← Hr.out]; exact HR)
      | cons y pb =>
        obtain ⟨bb, bo, rfl, hcb⟩ := reads_head HM.out.rb
        have Hcb := Lib.hid hcb
        have hlb := HM.out.lb
        simp only [List.length_cons, List.length_nil] at hlb hlen ⊢
        have g1 : ((pb.length : Int) + 1 == 0) = false := by simp; omega
        have g2 : (0 : Int) < (pb.length : Int) + 1 := by omega
        have g3 : (1 : Int) ≤ (pb.length : Int) + 1 := by omega
        have g4 : (pb.length : Int) + 1 ≤ (cb : Int) := by omega
        clear hcb
        rw [← hdl]
        have Hdl := Lib.hid hdl
        clear hdl
        go_wp2_with fail
        go_quiet (fail)
        have HO' : Hid ((wr.drewN nq).ownsRow w2.heap.size 3 1 (.slice oa dl oc) dl (dn.map (Value.int .i64))) := Lib.hid Ho.out
        have HM' := Lib.hid (HM.out.drewN nq)
        have hsz' : w2.heap.size ≤ (wr.drewN nq).heap.size := hsz
        clear HM Ho hsz
        obtain ⟨wq, hwq⟩ : ∃ wq, wq = wr.drewN nq := ⟨_, rfl⟩
        rw [← hwq] at HO' HM' hsz' ⊢
        have kcb := upc HM'.out.bel Hcb.out
        clear hwq
        go_wp2_with fail
        go_region_law ((obtain ⟨hi, hz0, hz1, hz2⟩ := Hi.out; refine step_append_lies _ rfl (.tmp 65) (.tmp 69) 22 rfl w2.heap.size 3 i0 (.int .i64 0) 1 8 Try.underlying22 hi hz0 hz1 hz2 rfl (by decide) (.slice oa dl oc) dl (dn.map (Value.int .i64)) rfl (by exact (HO'.out.alloc _).drew) ⟨wq.heap.size, 0, none⟩ 1 1 [.int .i64 y] rfl rfl (World.news_of_block (cs := #[.int .i64 y]) (t := 3) (fr := (0, 0)) (heap_alloc_new _ _)) (by simp [Value.oneCell']) (by omega) (by unfold maxLen; omega) (by omega) (by simp; omega) (wq.heap.size + 1) (by simp) ?_; intro g cap5 w5 hown5 hgrow hat hlt5; clear hi hz0 hz1 hz2 hat hlt5; have Hg := Lib.hid (And.intro hown5 (⟨hgrow.os, hgrow.tape, hgrow.output, hgrow.size, hgrow.block⟩ : (wq.alloc (.cells #[.int .i64 y] 3)).grownBy w5 (Value.slice oa dl oc).ownBlock)); clear hown5 hgrow))
        all_goals
          have hb5 : Below w2.heap.size w2 w5 := Below.grown (belowTrans HM'.out.bel (belowAlloc _ _)) Hg.out.2 (by simp; omega) (fun k hk => (World.ownsRow.lt HO'.out k hk).1)
          have HN := Lib.hid (HM'.out.stepB (mrg_nc y pb N) (by rw [← Hdl.out]; exact Hg.out.1) hb5)
          clear hb5 HM' HO' Hg
          by_cases hz : cb - 1 = 0
          · simp only [if_pos hz] at HN
            rw [hz] at HN
            have hzi : cb = 1 := by omega
            go_wp2_with fail
            exact ⟨⟨_, _, ca, 0, [], pb, _, _, _, rfl, rfl, by simp [wrap64, IntKind.wrap_i64], rfl, HN⟩, by simp [lenS]⟩
          · simp only [if_neg hz] at HN
            have hzi : ¬ (cb = 1) := by omega
            go_wp2_with fail
            exact ⟨⟨_, _, ca, (cb - 1), [], pb, _, _, _, rfl, rfl, by simp [wrap64, IntKind.wrap_i64], rfl, HN⟩, by simp [lenS]⟩
    | cons x pa =>
      cases pb with
      | nil =>
        obtain ⟨ab, ao, rfl, hca⟩ := reads_head HM.out.ra
        have Hca := Lib.hid hca
        have hla := HM.out.la
        simp only [List.length_cons, List.length_nil] at hla hlen ⊢
        have g2 : (0 : Int) < (pa.length : Int) + 1 := by omega
        have g3 : (1 : Int) ≤ (pa.length : Int) + 1 := by omega
        have g4 : (pa.length : Int) + 1 ≤ (ca : Int) := by omega
        clear hca
        rw [← hdl]
        have Hdl := Lib.hid hdl
        clear hdl
        go_wp2_with fail
        go_quiet (fail)
        have HO' : Hid ((wr.drewN nq).ownsRow w2.heap.size 3 1 (.slice oa dl oc) dl (dn.map (Value.int .i64))) := Lib.hid Ho.out
        have HM' := Lib.hid (HM.out.drewN nq)
        have hsz' : w2.heap.size ≤ (wr.drewN nq).heap.size := hsz
        clear HM Ho hsz
        obtain ⟨wq, hwq⟩ : ∃ wq, wq = wr.drewN nq := ⟨_, rfl⟩
        rw [← hwq] at HO' HM' hsz' ⊢
        have kca := upc HM'.out.bel Hca.out
        clear hwq
        go_wp2_with fail
        go_region_law ((obtain ⟨hi, hz0, hz1, hz2⟩ := Hi.out; refine step_append_lies _ rfl (.tmp 57) (.tmp 61) 22 rfl w2.heap.size 3 i0 (.int .i64 0) 1 8 Try.underlying22 hi hz0 hz1 hz2 rfl (by decide) (.slice oa dl oc) dl (dn.map (Value.int .i64)) rfl (by exact (HO'.out.alloc _).drew) ⟨wq.heap.size, 0, none⟩ 1 1 [.int .i64 x] rfl rfl (World.news_of_block (cs := #[.int .i64 x]) (t := 3) (fr := (0, 0)) (heap_alloc_new _ _)) (by simp [Value.oneCell']) (by omega) (by unfold maxLen; omega) (by omega) (by simp; omega) (wq.heap.size + 1) (by simp) ?_; intro g cap5 w5 hown5 hgrow hat hlt5; clear hi hz0 hz1 hz2 hat hlt5; have Hg := Lib.hid (And.intro hown5 (⟨hgrow.os, hgrow.tape, hgrow.output, hgrow.size, hgrow.block⟩ : (wq.alloc (.cells #[.int .i64 x] 3)).grownBy w5 (Value.slice oa dl oc).ownBlock)); clear hown5 hgrow))
        all_goals
          have hb5 : Below w2.heap.size w2 w5 := Below.grown (belowTrans HM'.out.bel (belowAlloc _ _)) Hg.out.2 (by simp; omega) (fun k hk => (World.ownsRow.lt HO'.out k hk).1)
          have HN := Lib.hid (HM'.out.stepA (mrg_cn x pa N) (by rw [← Hdl.out]; exact Hg.out.1) hb5)
          clear hb5 HM' HO' Hg
          by_cases hz : ca - 1 = 0
          · simp only [if_pos hz] at HN
            rw [hz] at HN
            have hzi : ca = 1 := by omega
            go_wp2_with fail
            exact ⟨⟨_, _, _, _, ⟨_, _, 0, cb, pa, rfl, [], rfl, _, _, rfl, HN⟩, rfl, rfl, rfl, rfl⟩, by simp [lenS]⟩
          · simp only [if_neg hz] at HN
            have hzi : ¬ (ca = 1) := by omega
            go_wp2_with fail
            exact ⟨⟨_, _, _, _, ⟨_, _, (ca - 1), cb, pa, rfl, [], rfl, _, _, rfl, HN⟩, rfl, rfl, rfl, rfl⟩, by simp [lenS]⟩
      | cons y pb =>
        by_cases hxy : x ≤ y
        · as_aux_lemma =>
            obtain ⟨ab, ao, rfl, hca⟩ := reads_head HM.out.ra
            have Hca := Lib.hid hca
            have hla := HM.out.la
            obtain ⟨bb, bo, rfl, hcb⟩ := reads_head HM.out.rb
            have Hcb := Lib.hid hcb
            have hlb := HM.out.lb
            simp only [List.length_cons] at hla hlb hlen ⊢
            have g1 : ((pb.length : Int) + 1 == 0) = false := by simp; omega
            have g2 : (0 : Int) < (pa.length : Int) + 1 := by omega
            have g3 : (1 : Int) ≤ (pa.length : Int) + 1 := by omega
            have g4 : (pa.length : Int) + 1 ≤ (ca : Int) := by omega
            have g5 : (0 : Int) < (pb.length : Int) + 1 := by omega
            have g6 : (1 : Int) ≤ (pb.length : Int) + 1 := by omega
            have g7 : (pb.length : Int) + 1 ≤ (cb : Int) := by omega
            have g8 := upc HM.out.bel hca
            have g9 := upc HM.out.bel hcb
            clear hca hcb
            rw [← hdl]
            have Hdl := Lib.hid hdl
            clear hdl
            go_wp2_with fail
            go_quiet (fail)
            have HO' : Hid ((wr.drewN nq).ownsRow w2.heap.size 3 1 (.slice oa dl oc) dl (dn.map (Value.int .i64))) := Lib.hid Ho.out
            have HM' := Lib.hid (HM.out.drewN nq)
            have hsz' : w2.heap.size ≤ (wr.drewN nq).heap.size := hsz
            clear HM Ho hsz
            obtain ⟨wq, hwq⟩ : ∃ wq, wq = wr.drewN nq := ⟨_, rfl⟩
            rw [← hwq] at HO' HM' hsz' ⊢
            have kca := upc HM'.out.bel Hca.out
            have kcb := upc HM'.out.bel Hcb.out
            clear hwq
            go_wp2_with fail
            go_region_law ((obtain ⟨hi, hz0, hz1, hz2⟩ := Hi.out; refine step_append_lies _ rfl (.tmp 57) (.tmp 61) 22 rfl w2.heap.size 3 i0 (.int .i64 0) 1 8 Try.underlying22 hi hz0 hz1 hz2 rfl (by decide) (.slice oa dl oc) dl (dn.map (Value.int .i64)) rfl (by exact (HO'.out.alloc _).drew) ⟨wq.heap.size, 0, none⟩ 1 1 [.int .i64 x] rfl rfl (World.news_of_block (cs := #[.int .i64 x]) (t := 3) (fr := (0, 0)) (heap_alloc_new _ _)) (by simp [Value.oneCell']) (by omega) (by unfold maxLen; omega) (by omega) (by simp; omega) (wq.heap.size + 1) (by simp) ?_; intro g cap5 w5 hown5 hgrow hat hlt5; clear hi hz0 hz1 hz2 hat hlt5; have Hg := Lib.hid (And.intro hown5 (⟨hgrow.os, hgrow.tape, hgrow.output, hgrow.size, hgrow.block⟩ : (wq.alloc (.cells #[.int .i64 x] 3)).grownBy w5 (Value.slice oa dl oc).ownBlock)); clear hown5 hgrow))
            all_goals
              have hb5 : Below w2.heap.size w2 w5 := Below.grown (belowTrans HM'.out.bel (belowAlloc _ _)) Hg.out.2 (by simp; omega) (fun k hk => (World.ownsRow.lt HO'.out k hk).1)
              have HN := Lib.hid (HM'.out.stepA (mrg_le pa pb N hxy) (by rw [← Hdl.out]; exact Hg.out.1) hb5)
              clear hb5 HM' HO' Hg
              by_cases hz : ca - 1 = 0
              · simp only [if_pos hz] at HN
                rw [hz] at HN
                have hzi : ca = 1 := by omega
                go_wp2_with fail
                exact ⟨⟨_, _, _, _, ⟨_, _, 0, cb, pa, rfl, (y :: pb), rfl, _, _, rfl, HN⟩, rfl, rfl, rfl, rfl⟩, by simp [lenS]⟩
              · simp only [if_neg hz] at HN
                have hzi : ¬ (ca = 1) := by omega
                go_wp2_with fail
                exact ⟨⟨_, _, _, _, ⟨_, _, (ca - 1), cb, pa, rfl, (y :: pb), rfl, _, _, rfl, HN⟩, rfl, rfl, rfl, rfl⟩, by simp [lenS]⟩
        · as_aux_lemma =>
            obtain ⟨ab, ao, rfl, hca⟩ := reads_head HM.out.ra
            have Hca := Lib.hid hca
            have hla := HM.out.la
            obtain ⟨bb, bo, rfl, hcb⟩ := reads_head HM.out.rb
            have Hcb := Lib.hid hcb
            have hlb := HM.out.lb
            simp only [List.length_cons] at hla hlb hlen ⊢
            have g1 : ((pb.length : Int) + 1 == 0) = false := by simp; omega
            have g2 : (0 : Int) < (pa.length : Int) + 1 := by omega
            have g3 : (1 : Int) ≤ (pa.length : Int) + 1 := by omega
            have g4 : (pa.length : Int) + 1 ≤ (ca : Int) := by omega
            have g5 : (0 : Int) < (pb.length : Int) + 1 := by omega
            have g6 : (1 : Int) ≤ (pb.length : Int) + 1 := by omega
            have g7 : (pb.length : Int) + 1 ≤ (cb : Int) := by omega
            have g8 := upc HM.out.bel hca
            have g9 := upc HM.out.bel hcb
            clear hca hcb
            have hd : decide (x ≤ y) = false := by simp; omega
            rw [← hdl]
            have Hdl := Lib.hid hdl
            clear hdl
            go_wp2_with fail
            go_quiet (fail)
            have HO' : Hid ((wr.drewN nq).ownsRow w2.heap.size 3 1 (.slice oa dl oc) dl (dn.map (Value.int .i64))) := Lib.hid Ho.out
            have HM' := Lib.hid (HM.out.drewN nq)
            have hsz' : w2.heap.size ≤ (wr.drewN nq).heap.size := hsz
            clear HM Ho hsz
            obtain ⟨wq, hwq⟩ : ∃ wq, wq = wr.drewN nq := ⟨_, rfl⟩
            rw [← hwq] at HO' HM' hsz' ⊢
            have kca := upc HM'.out.bel Hca.out
            have kcb := upc HM'.out.bel Hcb.out
            clear hwq
            go_wp2_with fail
            go_region_law ((obtain ⟨hi, hz0, hz1, hz2⟩ := Hi.out; refine step_append_lies _ rfl (.tmp 65) (.tmp 69) 22 rfl w2.heap.size 3 i0 (.int .i64 0) 1 8 Try.underlying22 hi hz0 hz1 hz2 rfl (by decide) (.slice oa dl oc) dl (dn.map (Value.int .i64)) rfl (by exact (HO'.out.alloc _).drew) ⟨wq.heap.size, 0, none⟩ 1 1 [.int .i64 y] rfl rfl (World.news_of_block (cs := #[.int .i64 y]) (t := 3) (fr := (0, 0)) (heap_alloc_new _ _)) (by simp [Value.oneCell']) (by omega) (by unfold maxLen; omega) (by omega) (by simp; omega) (wq.heap.size + 1) (by simp) ?_; intro g cap5 w5 hown5 hgrow hat hlt5; clear hi hz0 hz1 hz2 hat hlt5; have Hg := Lib.hid (And.intro hown5 (⟨hgrow.os, hgrow.tape, hgrow.output, hgrow.size, hgrow.block⟩ : (wq.alloc (.cells #[.int .i64 y] 3)).grownBy w5 (Value.slice oa dl oc).ownBlock)); clear hown5 hgrow))
            all_goals
              have hb5 : Below w2.heap.size w2 w5 := Below.grown (belowTrans HM'.out.bel (belowAlloc _ _)) Hg.out.2 (by simp; omega) (fun k hk => (World.ownsRow.lt HO'.out k hk).1)
              have HN := Lib.hid (HM'.out.stepB (mrg_gt pa pb N (by omega)) (by rw [← Hdl.out]; exact Hg.out.1) hb5)
              clear hb5 HM' HO' Hg
              by_cases hz : cb - 1 = 0
              · simp only [if_pos hz] at HN
                rw [hz] at HN
                have hzi : cb = 1 := by omega
                go_wp2_with fail
                exact ⟨⟨_, _, ca, 0, (x :: pa), pb, _, _, _, rfl, rfl, by simp [wrap64, IntKind.wrap_i64], rfl, HN⟩, by simp [lenS]⟩
              · simp only [if_neg hz] at HN
                have hzi : ¬ (cb = 1) := by omega
                go_wp2_with fail
                exact ⟨⟨_, _, ca, (cb - 1), (x :: pa), pb, _, _, _, rfl, rfl, by simp [wrap64, IntKind.wrap_i64], rfl, HN⟩, by simp [lenS]⟩
end Go.Proofs.Ytnigadnjppeckaa.inv
/- Package inv: sorted of whatever row; Count. -/
namespace Go.Proofs.Ytnigadnjppeckaa.inv
open Go.RowKit Go

theorem srt_len (k : Nat) (xs : List Int) (h2 : 2 ≤ xs.length) : srtF (k + 1) xs = ((mrg (srtF k (xs.take (xs.length / 2))).1 (srtF k (xs.drop (xs.length / 2))).1 (srtF k (xs.drop (xs.length / 2))).2).1, IntKind.i64.wrap ((srtF k (xs.take (xs.length / 2))).2 + (mrg (srtF k (xs.take (xs.length / 2))).1 (srtF k (xs.drop (xs.length / 2))).1 (srtF k (xs.drop (xs.length / 2))).2).2)) := by
  rw [srtF, if_neg (by omega)]
theorem sorted_any : ∀ (k : Nat) (xs : List Int) (a : Option Addr) (c : Nat) (w : World), Reads w a xs → (a = none → c = 0) → xs.length ≤ c → xs.length ≤ 2 ^ k → xs.length ≤ 17592186044400 →
    Calls Try.prog 74 #[.slice a xs.length c] w (RetSo w (srtF k xs)) := by
  intro k
  induction k with
  | zero =>
    intro xs a c w hr hn hc hk _
    exact sorted_small w a c xs.length xs rfl (by simp at hk; omega) hr hn
  | succ k ih =>
    intro xs a c w hr hn hc hk hb
    by_cases h2 : xs.length < 2
    · have e : srtF (k + 1) xs = (xs, 0) := by rw [srtF, if_pos h2]
      rw [e]
      exact sorted_small w a c xs.length xs rfl h2 hr hn
    · rcases hr with rfl | ⟨b, o, rfl, hx⟩
      · simp at h2
      · rw [srt_len k xs (by omega)]
        rw [Nat.pow_succ] at hk
        have l1 : (xs.take (xs.length / 2)).length = xs.length / 2 := by rw [List.length_take]; omega
        have l2 : (xs.drop (xs.length / 2)).length = xs.length - xs.length / 2 := List.length_drop
        refine sorted_big w b o c xs.length (xs.length / 2) (srtF k (xs.take (xs.length / 2))) (srtF k (xs.drop (xs.length / 2))) rfl (by rw [srtF_length, l1]) (by rw [srtF_length, l2]) (by omega) hc hb ?_ ?_
        · intro W hW
          have h := ih (xs.take (xs.length / 2)) (some ⟨b, o, none⟩) c W (.inr ⟨b, o, rfl, fun i hi => ?_⟩) (fun h => by cases h) (by omega) (by omega) (by omega)
          · rw [l1] at h
            exact h
          · rw [l1] at hi
            rw [upc hW (hx i (by omega)), List.getD_eq_getElem?_getD, List.getD_eq_getElem?_getD, List.getElem?_take, if_pos hi]
        · intro W hW
          have h := ih (xs.drop (xs.length / 2)) (some ⟨b, o + xs.length / 2, none⟩) (c - xs.length / 2) W (.inr ⟨b, _, rfl, fun i hi => ?_⟩) (fun h => by cases h) (by omega) (by omega) (by omega)
          · rw [l2] at h
            exact h
          · rw [l2] at hi
            rw [Nat.add_assoc, upc hW (hx (xs.length / 2 + i) (by omega)), List.getD_eq_getElem?_getD, List.getD_eq_getElem?_getD, List.getElem?_drop]
theorem Count_any (k : Nat) (xs : List Int) (a : Option Addr) (c : Nat) (w : World) (hr : Reads w a xs) (hn : a = none → c = 0) (hc : xs.length ≤ c) (hk : xs.length ≤ 2 ^ k) (hb : xs.length ≤ 17592186044400) :
    Calls Try.prog 40 #[.slice a xs.length c] w fun e w' => e = .returned (.int .i64 (srtF k xs).2) ∧ Below w.heap.size w w' := by
  have H := Lib.hid (sorted_any k xs a c w hr hn hc hk hb)
  obtain ⟨r, hr⟩ : ∃ r, r = srtF k xs := ⟨_, rfl⟩
  rw [← hr] at H ⊢
  clear hr hn hc hk hb
  go_enter Try.func40, Try.ntmps40
  go_wp2_with fail
  refine H.out.mono ?_
  rintro e w1 ⟨a1, c1, rfl, ho, hb⟩
  have HB := Lib.hid hb
  clear ho hb
  go_wp2_with fail
  go_ret
  exact ⟨rfl, HB.out⟩
theorem count_312 : (srtF 2 [3, 1, 2]).2 = 2 := by
  simp [srtF, mrg]
  try decide
end Go.Proofs.Ytnigadnjppeckaa.inv
