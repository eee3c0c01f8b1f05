/- finger: pushRight. -/
import Derived.Test.YtnigadnjppeckaaFingC
import Derived.Deep.AppendLies
import Derived.Deep.RegionLaw
import Derived.Deep.RegionHeld3
namespace Go.Proofs.Ytnigadnjppeckaa.finger
open Go.RowKit Go

theorem Lv.up' {W W' : World} {B : Nat} {l : LT} {p : Option Addr} (h : Lv W B p l) (hb : Below W.heap.size W W') : Lv W' B p l := Lv.up hb h
theorem oneDig {W : World} {B b : Nat} {t : FT} {q : Option Addr} (hB : B ≤ b) (h : W.heap[b]? = some (.cells #[.pointer q] 93 (0, 0))) (ht : Th W B q t) {c : Nat} (hc : 1 ≤ c) : Dig W B (.slice (some ⟨b, 0, none⟩) 1 c) [t] :=
  ⟨b, c, _, rfl, hc, hB, h, fun i u hi => by
    match i, hi with
    | 0, hi => cases hi; exact ⟨q, rfl, ht⟩⟩
theorem twoDig {W : World} {B b : Nat} {t u : FT} {q r : Option Addr} (hB : B ≤ b) (h : W.heap[b]? = some (.cells #[.pointer q, .pointer r] 93 (0, 0))) (ht : Th W B q t) (hu : Th W B r u) {c : Nat} (hc : 2 ≤ c) : Dig W B (.slice (some ⟨b, 0, none⟩) 2 c) [t, u] :=
  ⟨b, c, _, rfl, hc, hB, h, fun i x hi => by
    match i, hi with
    | 0, hi => cases hi; exact ⟨q, rfl, ht⟩
    | 1, hi => cases hi; exact ⟨r, rfl, hu⟩⟩
theorem few_below {w w1 w5 : World} {T N n : Nat} {v : Value} {xs ys : List Value} {o : Obj} {v5 : Value} (h1 : Below w.heap.size w w1) (ho : w1.ownsRow w.heap.size T 1 v N xs) (_ : w5.ownsRow w.heap.size T 1 v5 n ys) (hg : (w1.alloc o).grownBy w5 v.ownBlock) : Below w.heap.size w w5 :=
  Below.grown (belowTrans h1 (belowAlloc _ _)) hg (by have := h1.size; simp; omega) (fun k hk => (World.ownsRow.lt ho k hk).1)
theorem few_below2 {w w1 w5 : World} {T N n : Nat} {v : Value} {xs ys : List Value} {v5 : Value} (h1 : Below w.heap.size w w1) (ho : w1.ownsRow (w.heap.size + 1) T 1 v N xs) (_ : w5.ownsRow (w.heap.size + 1) T 1 v5 n ys) (hg : w1.grownBy w5 v.ownBlock) : Below w.heap.size w w5 :=
  Below.grown h1 hg (by have := h1.size; omega) (fun k hk => by have := (World.ownsRow.lt ho k hk).1; omega)
theorem few_dig {w w5 : World} {B N : Nat} {v5 : Value} {ps : List (Option Addr)} {rs : List FT} {t : FT} {q : Option Addr} (hB : B ≤ w.heap.size) (hN : N = rs.length) (hpl : ps.length = rs.length) (hpt : ∀ (i : Nat) (t : FT), rs[i]? = some t → Th w B (ps.getD i none) t) (ht : Th w B q t)
    (hb : Below w.heap.size w w5) (ho : w5.ownsRow w.heap.size 93 1 v5 (N + 1) (ps.map Value.pointer ++ [.pointer q])) : Dig w5 B v5 (rs ++ [t]) := by
  refine Dig.of_own (ps := ps ++ [q]) hB ?_ (by simp [hpl]) (by simp) (fun i u hi => ?_)
  · rw [List.map_append, List.length_append, ← hN]
    exact ho
  · by_cases hlt : i < rs.length
    · rw [List.getElem?_append_left hlt] at hi
      have h := (hpt i u hi).up hb
      rw [List.getD_eq_getElem?_getD, List.getElem?_append_left (by omega), ← List.getD_eq_getElem?_getD]
      exact h
    · have hi2 := (List.getElem?_eq_some_iff.1 hi).1
      simp at hi2
      obtain rfl : i = rs.length := by omega
      simp at hi
      subst hi
      rw [List.getD_eq_getElem?_getD, ← hpl]
      simpa using ht.up hb
set_option maxRecDepth 100000 in
set_option maxHeartbeats 4000000 in
theorem push_any : ∀ (v : LT) (t : FT) (p q : Option Addr) (B : Nat) (w : World), v.Ok → B ≤ w.heap.size → Lv w B p v → Th w B q t →
    Calls Try.prog 75 #[.pointer p, .pointer q] w (RetLv w B (pushR v t))
  | .nil, t, p, q, B, w, hok, hB, hv, ht => by
    obtain rfl : p = none := hv
    have HA := Lib.hid (alone_any t q B w hB ht)
    clear ht hok
    go_enter Try.func75, Try.ntmps75
    go_wp2_with fail
    refine HA.out.mono ?_
    rintro e w1 ⟨p, rfl, h1, h2⟩
    have H1 := Lib.hid (And.intro h1 h2)
    clear h1 h2
    go_wp2_with fail
    go_ret
    exact ⟨p, rfl, H1.out.1, H1.out.2⟩
  | .one a, t, p, q, B, w, hok, hB, hv, ht => by
    obtain ⟨b, n, s, l, m, z, vl, rfl, hBb, hc, hd, _⟩ := hv
    obtain ⟨_, _, _, _, _, c5, c6, c7⟩ := eight_cells hc
    obtain ⟨kb, cap, cur, rfl, hlc, hkB, hkc, hkt⟩ := hd
    have hnil : ∀ W, (binOp .eql 92 (.slice none 0 0) (.slice none 0 0)).run Try.prog W = .ok (.bool true) W := fun W => Lib.run_eql_slice_nil W 92 93 none 0 0 0 0 Try.underlying92
    have hb1 := belowAlloc w (.cells #[.pointer q] 93)
    have HD : Hid (Dig w B (.slice (some ⟨kb, 0, none⟩) 1 cap) [a]) := Lib.hid ⟨kb, cap, cur, rfl, hlc, hkB, hkc, hkt⟩
    have HA := Lib.hid (deep_any [a] [t] .nil (some ⟨kb, 0, none⟩) (some ⟨w.heap.size, 0, none⟩) cap 1 1 1 none B (w.alloc (.cells #[.pointer q] 93)) (by simp; omega) (HD.out.up hb1) rfl (oneDig hB (heap_alloc_new _ _) (ht.up hb1) (Nat.le_refl _)) (by simp) (by simp))
    have Hb1 := Lib.hid hb1
    clear ht hok hc hkc hkt hb1
    go_enter Try.func75, Try.ntmps75
    go_wp2_with fail
    refine HA.out.mono ?_
    rintro e w1 ⟨p, rfl, h1, h2⟩
    have H1 := Lib.hid (And.intro h1 h2)
    clear h1 h2
    go_wp2_with fail
    go_ret
    exact ⟨p, rfl, H1.out.1, belowTrans Hb1.out H1.out.2⟩
  | .deep ls mid rs, t, p, q, B, w, hok, hB, hv, ht => by
    obtain ⟨b, n, s, l, m, z, vl, vr, pm, rfl, hBb, hc, hl, hr, hm⟩ := hv
    obtain ⟨_, _, _, _, _, c5, c6, c7⟩ := eight_cells hc
    obtain ⟨kb, cap, cur, ps, rfl, hlc, hkB, hkc, hpl, hps, hpt⟩ := hr.ptrs
    have HL := Lib.hid hl
    have HM := Lib.hid hm
    have HR := Lib.hid hr
    have HT := Lib.hid ht
    have Hpt := Lib.hid hpt
    have Hpl := Lib.hid hpl
    have HOk : ls.length ≤ 4 ∧ rs.length ≤ 4 ∧ mid.Ok := hok
    have HOk := Lib.hid HOk
    obtain ⟨lb, lcap, lcur, rfl, _⟩ := hl
    obtain ⟨i0, hi, hz0, hz1, hz2⟩ := info_parts infoTh
    have Hi := Lib.hid (And.intro hi (And.intro hz0 (And.intro hz1 hz2)))
    clear hi hz0 hz1 hz2
    have hnil : ∀ W, (binOp .eql 92 (.slice (some ⟨kb, 0, none⟩) rs.length cap) (.slice none 0 0)).run Try.prog W = .ok (.bool false) W := fun W => Lib.run_eql_slice_nil W 92 93 (some ⟨kb, 0, none⟩) rs.length cap 0 0 Try.underlying92
    have hk5 : ∀ W, Below w.heap.size w W → W.cell? ⟨b, 5, none⟩ = some (.slice (some ⟨lb, 0, none⟩) ls.length lcap) := fun W h => upc h c5
    have hk6 : ∀ W, Below w.heap.size w W → W.cell? ⟨b, 6, none⟩ = some (.slice (some ⟨kb, 0, none⟩) rs.length cap) := fun W h => upc h c6
    have hk7 : ∀ W, Below w.heap.size w W → W.cell? ⟨b, 7, none⟩ = some (.pointer pm) := fun W h => upc h c7
    have K5 := Lib.hid hk5
    have K6 := Lib.hid hk6
    have K7 := Lib.hid hk7
    obtain ⟨N, hN⟩ : ∃ N, N = rs.length := ⟨_, rfl⟩
    obtain ⟨L, hL⟩ : ∃ L, L = ls.length := ⟨_, rfl⟩
    rw [← hL] at c5 K5 hk5
    rw [← hN] at c6 K6 hk6 hnil
    have HN := Lib.hid (And.intro hN hL)
    have Hok := Lib.hid hok
    by_cases hfew : N < 4
    · rw [pushR_few (by omega)]
      have hC : ∀ k, Calls Try.prog 114 #[.slice (some ⟨kb, 0, none⟩) N cap] (w.drewN k) fun e w' => ∃ v, e = .returned v ∧ w'.ownsRow w.heap.size 93 1 v N (ps.map Value.pointer) ∧ Below w.heap.size w w' := fun k =>
        (clone_any (w.drewN k) kb N cap cur ps hkc (by omega) (by rw [hN]; exact hps) (by omega)).mono fun e w' ⟨v, h1, h2, h3⟩ => ⟨v, h1, h2, belowTrans (belowDrewN w k) h3⟩
      have hC2 : ∀ k, Calls Try.prog 114 #[.slice (some ⟨kb, 0, none⟩) N cap] ((w.drewN k).alloc (.cells #[.pointer q] 93)) fun e w' => ∃ v, e = .returned v ∧ w'.ownsRow (w.heap.size + 1) 93 1 v N (ps.map Value.pointer) ∧ Below w.heap.size w w' ∧ w'.heap[w.heap.size]? = some (.cells #[.pointer q] 93 (0, 0)) := fun k =>
        (clone_any ((w.drewN k).alloc (.cells #[.pointer q] 93)) kb N cap cur ps (upb (belowAlloc _ _) hkc) (by omega) (by rw [hN]; exact hps) (by omega)).mono fun e w' ⟨v, h1, h2, h3⟩ => ⟨v, h1, by simpa using h2, belowTrans (belowTrans (belowDrewN w k) (belowAlloc _ _)) h3, upb h3 (heap_alloc_new (w.drewN k) _)⟩
      have HC := Lib.hid hC
      have HC2 := Lib.hid hC2
      clear hr hm ht hpt hc hkc hps hC hC2 hN hL hk5 hk6 hk7 hok
      go_enter Try.func75, Try.ntmps75
      go_wp2_with fail
      go_region_held3 (fun w' => w'.cell? ⟨b, 5, none⟩ = some (.slice (some ⟨lb, 0, none⟩) L lcap) ∧ w'.cell? ⟨b, 7, none⟩ = some (.pointer pm) ∧ w'.cell? ⟨b, 6, none⟩ = some (.slice (some ⟨kb, 0, none⟩) N cap)) (go_keep)
        (first
            | (go_at_call 114; refine (HC.out 1).mono ?_; rintro e w1 ⟨v1, rfl, ho1, hb1⟩; have a5 := K5.out w1 hb1; have a6 := K6.out w1 hb1; have a7 := K7.out w1 hb1)
            | (go_at_call 114; refine (HC2.out 1).mono ?_; rintro e w1 ⟨v1, rfl, ho2, hb1, hq2⟩; have a5 := K5.out w1 hb1; have a6 := K6.out w1 hb1; have a7 := K7.out w1 hb1)
            | (go_at_call 113; refine (deep_any ls (rs ++ [t]) mid (some ⟨lb, 0, none⟩) (some ⟨g5, 0, none⟩) lcap cap5 L (N + 1) pm B w5 (by exact szle hb5 hB) (by have := HL.out.up hb5; rw [← HN.out.2] at this; exact this) (by exact HM.out.up hb5) (by exact HR5) (by exact HOk.out.1) (by simp; rw [← HN.out.1]; omega)).mono ?_; rintro e w6 ⟨p6, rfl, h6, hb6⟩; have a5 := K5.out w6 (belowTrans hb5 hb6); have a6 := K6.out w6 (belowTrans hb5 hb6); have a7 := K7.out w6 (belowTrans hb5 hb6))
            | (obtain ⟨hi, hz0, hz1, hz2⟩ := Hi.out; refine step_append_lies _ rfl (.tmp 42) (.tmp 44) 92 rfl (w.heap.size + 1) 93 i0 (.pointer none) 1 8 Try.underlying92 hi hz0 hz1 hz2 rfl (by decide) v1 N (ps.map Value.pointer) rfl (by exact ho2) ⟨w.heap.size, 0, none⟩ 1 1 [.pointer q] rfl rfl (World.news_of_block (cs := #[.pointer q]) (t := 93) (fr := (0, 0)) hq2) (by simp [Value.oneCell']) (by omega) (by unfold maxLen; omega) (by omega) (by have := (Array.getElem?_eq_some_iff.1 hq2).1; omega) w1.heap.size (by have := (Array.getElem?_eq_some_iff.1 hq2).1; omega) ?_; intro g5 cap5 w5 hown5 hgrow hat hlt; clear hi hz0 hz1 hz2 hat hlt; have hb5 := few_below2 hb1 ho2 hown5 hgrow; have a5 := K5.out w5 hb5; have a6 := K6.out w5 hb5; have a7 := K7.out w5 hb5; have HR5 := few_dig hB HN.out.1 Hpl.out Hpt.out HT.out hb5 (ownsRow_lower hown5 (Nat.le_succ _)))
            | (obtain ⟨hi, hz0, hz1, hz2⟩ := Hi.out; refine step_append_lies _ rfl (.tmp 42) (.tmp 44) 92 rfl w.heap.size 93 i0 (.pointer none) 1 8 Try.underlying92 hi hz0 hz1 hz2 rfl (by decide) v1 N (ps.map Value.pointer) rfl (by exact ho1.alloc _) ⟨w1.heap.size, 0, none⟩ 1 1 [.pointer q] rfl rfl (World.news_of_block (cs := #[.pointer q]) (t := 93) (fr := (0, 0)) (heap_alloc_new _ _)) (by simp [Value.oneCell']) (by omega) (by unfold maxLen; omega) (by omega) (by have := hb1.size; simp; omega) (w1.heap.size + 1) (by simp) ?_; intro g5 cap5 w5 hown5 hgrow hat hlt; clear hi hz0 hz1 hz2 hat hlt; have hb5 := few_below hb1 ho1 hown5 hgrow; have a5 := K5.out w5 hb5; have a6 := K6.out w5 hb5; have a7 := K7.out w5 hb5; have HR5 : Dig w5 B (.slice (some ⟨g5, 0, none⟩) (N + 1) cap5) (rs ++ [t]) := by (exact few_dig hB HN.out.1 Hpl.out Hpt.out HT.out hb5 hown5)))
      all_goals
        go_wp2_with fail
        go_ret
        exact ⟨_, rfl, h6, belowTrans hb5 hb6⟩
    · have h4 : rs.length = 4 := by have := HOk.out.2.1; omega
      have IH : Hid (∀ (t : FT) (p q : Option Addr) (B : Nat) (w : World), B ≤ w.heap.size → Lv w B p mid → Th w B q t → Calls Try.prog 75 #[.pointer p, .pointer q] w (RetLv w B (pushR mid t))) := Lib.hid (fun t p q B w h1 h2 h3 => push_any mid t p q B w HOk.out.2.2 h1 h2 h3)
      obtain ⟨x1, x2, x3, x4, rfl⟩ : ∃ x1 x2 x3 x4, rs = [x1, x2, x3, x4] := by
        match rs, h4 with
        | [x1, x2, x3, x4], _ => exact ⟨_, _, _, _, rfl⟩
      obtain rfl : N = 4 := hN
      obtain ⟨q1, q2, q3, q4, rfl⟩ : ∃ q1 q2 q3 q4, ps = [q1, q2, q3, q4] := by
        match ps, hpl with
        | [q1, q2, q3, q4], _ => exact ⟨_, _, _, _, rfl⟩
      have hc0 : cur[0]? = some (Value.pointer q1) := hps 0 (by simp)
      have hc1 : cur[1]? = some (Value.pointer q2) := hps 1 (by simp)
      have hc2 : cur[2]? = some (Value.pointer q3) := hps 2 (by simp)
      have hc3 : cur[3]? = some (Value.pointer q4) := hps 3 (by simp)
      have ht1 : Th w B q1 x1 := hpt 0 x1 rfl
      have ht2 : Th w B q2 x2 := hpt 1 x2 rfl
      have ht3 : Th w B q3 x3 := hpt 2 x3 rfl
      have ht4 : Th w B q4 x4 := hpt 3 x4 rfl
      have k3 : w.cell? ⟨kb, 3, none⟩ = some (.pointer q4) := by rw [cell_of_row w kb 3 cur _ _ hkc]; exact hc3
      have hk3 : ∀ W, Below w.heap.size w W → W.cell? ⟨kb, 3, none⟩ = some (.pointer q4) := fun W h => upc h k3
      have K3 := Lib.hid hk3
      have hcap : 4 ≤ cap := hlc
      have hcap3 : (3 : Int) ≤ (cap : Int) := by omega
      have HG : Hid (∀ W, Below w.heap.size w W → Calls Try.prog 115 #[.slice (some ⟨kb, 0, none⟩) 3 cap] W (RetTh W B (.grp x1 x2 x3))) := Lib.hid (fun W h => group_any B kb cap cur q1 q2 q3 x1 x2 x3 W (szle h hB) hkB (by omega) (upb h hkc) hc0 hc1 hc2 (ht1.up h) (ht2.up h) (ht3.up h))
      have H4 := Lib.hid ht4
      clear hr hm ht hpt hkc hps hL hk5 hk6 hk7 hk3 hok hc hc0 hc1 hc2 hc3 ht1 ht2 ht3 ht4 Hpt hpl Hpl HR Hi hfew h4
      rw [show pushR (.deep ls mid [x1, x2, x3, x4]) t = .deep ls (pushR mid (.grp x1 x2 x3)) [x4, t] from rfl]
      have hb1 := belowDrewN w 1
      have hbl := belowTrans hb1 (belowAlloc (w.drewN 1) (.cells #[.pointer q4, .pointer q] 93))
      have hlq : ((w.drewN 1).alloc (.cells #[.pointer q4, .pointer q] 93)).heap[w.heap.size]? = some (.cells #[.pointer q4, .pointer q] 93 (0, 0)) := heap_alloc_new (w.drewN 1) _
      have HB1 := Lib.hid hb1
      have HBl := Lib.hid hbl
      have Hlq := Lib.hid hlq
      clear hb1 hbl hlq
      go_enter Try.func75, Try.ntmps75
      go_wp2_with fail
      go_region_held3 (fun w' => w'.cell? ⟨b, 5, none⟩ = some (.slice (some ⟨lb, 0, none⟩) L lcap) ∧ w'.cell? ⟨b, 7, none⟩ = some (.pointer pm) ∧ w'.cell? ⟨b, 6, none⟩ = some (.slice (some ⟨kb, 0, none⟩) 4 cap) ∧ w'.cell? ⟨kb, 3, none⟩ = some (.pointer q4)) (go_keep)
        (first
            | (go_at_call 115; refine (HG.out (w.drewN 1) HB1.out).mono ?_; rintro e w1 ⟨pg, rfl, hg1, hb1⟩; replace hb1 := belowTrans HB1.out hb1; have a5 := K5.out w1 hb1; have a6 := K6.out w1 hb1; have a7 := K7.out w1 hb1; have a3 := K3.out w1 hb1)
            | (go_at_call 115; refine (HG.out ((w.drewN 1).alloc (.cells #[.pointer q4, .pointer q] 93)) HBl.out).mono ?_; rintro e w1 ⟨pg, rfl, hg1, hb1⟩; have hq2 := upb hb1 Hlq.out; replace hb1 := belowTrans HBl.out hb1; have a5 := K5.out w1 hb1; have a6 := K6.out w1 hb1; have a7 := K7.out w1 hb1; have a3 := K3.out w1 hb1)
            | (have hqq := hq2; go_at_call 75; refine (IH.out (.grp x1 x2 x3) pm pg B w1 (by exact szle hb1 hB) (by exact HM.out.up hb1) (by exact hg1)).mono ?_; rintro e w2 ⟨pp, rfl, hp2, hb12⟩; have hq3 := upb hb12 hqq; have hb2 := belowTrans hb1 hb12; have a5 := K5.out w2 hb2; have a6 := K6.out w2 hb2; have a7 := K7.out w2 hb2; have a3 := K3.out w2 hb2)
            | (go_at_call 75; refine (IH.out (.grp x1 x2 x3) pm pg B w1 (by exact szle hb1 hB) (by exact HM.out.up hb1) (by exact hg1)).mono ?_; rintro e w2 ⟨pp, rfl, hp2, hb12⟩; have hb2 := belowTrans hb1 hb12; have a5 := K5.out w2 hb2; have a6 := K6.out w2 hb2; have a7 := K7.out w2 hb2; have a3 := K3.out w2 hb2)
            | (go_at_call 75; refine (IH.out (.grp x1 x2 x3) pm pg B (w1.alloc (.cells #[.pointer q4, .pointer q] 93)) (by have := szle hb1 hB; simp; omega) (by exact Lv.up (belowAlloc _ _) (HM.out.up hb1)) (by exact Th.up (belowAlloc _ _) hg1)).mono ?_; rintro e w2 ⟨pp, rfl, hp2, hb12⟩; have hq4 := upb hb12 (heap_alloc_new w1 (.cells #[.pointer q4, .pointer q] 93)); have hb2 := belowTrans (belowTrans hb1 (belowAlloc w1 (.cells #[.pointer q4, .pointer q] 93))) hb12; have a5 := K5.out w2 hb2; have a6 := K6.out w2 hb2; have a7 := K7.out w2 hb2; have a3 := K3.out w2 hb2)
            | (have hqq := hq3; go_at_call 113; refine (deep_any ls [x4, t] (pushR mid (.grp x1 x2 x3)) (some ⟨lb, 0, none⟩) (some ⟨w.heap.size, 0, none⟩) lcap 2 L 2 pp B w2 (by exact szle hb2 hB) (by have := HL.out.up hb2; rw [← HN.out.2] at this; exact this) (by exact hp2) (by exact twoDig (by have := hb1.size; have := hb2.size; omega) hqq (H4.out.up hb2) (HT.out.up hb2) (Nat.le_refl _)) (by exact HOk.out.1) (by simp)).mono ?_; rintro e w6 ⟨p6, rfl, h6, hb6⟩; replace hb6 := hb6; have a5 := K5.out w6 (belowTrans hb2 hb6); have a6 := K6.out w6 (belowTrans hb2 hb6); have a7 := K7.out w6 (belowTrans hb2 hb6); have a3 := K3.out w6 (belowTrans hb2 hb6))
            | (have hqq := hq4; go_at_call 113; refine (deep_any ls [x4, t] (pushR mid (.grp x1 x2 x3)) (some ⟨lb, 0, none⟩) (some ⟨w1.heap.size, 0, none⟩) lcap 2 L 2 pp B w2 (by exact szle hb2 hB) (by have := HL.out.up hb2; rw [← HN.out.2] at this; exact this) (by exact hp2) (by exact twoDig (by have := hb1.size; have := hb2.size; omega) hqq (H4.out.up hb2) (HT.out.up hb2) (Nat.le_refl _)) (by exact HOk.out.1) (by simp)).mono ?_; rintro e w6 ⟨p6, rfl, h6, hb6⟩; replace hb6 := hb6; have a5 := K5.out w6 (belowTrans hb2 hb6); have a6 := K6.out w6 (belowTrans hb2 hb6); have a7 := K7.out w6 (belowTrans hb2 hb6); have a3 := K3.out w6 (belowTrans hb2 hb6))
            | (go_at_call 113; refine (deep_any ls [x4, t] (pushR mid (.grp x1 x2 x3)) (some ⟨lb, 0, none⟩) (some ⟨w2.heap.size, 0, none⟩) lcap 2 L 2 pp B (w2.alloc (.cells #[.pointer q4, .pointer q] 93)) (by exact szle (belowTrans hb2 (belowAlloc w2 (.cells #[.pointer q4, .pointer q] 93))) hB) (by have := HL.out.up (belowTrans hb2 (belowAlloc w2 (.cells #[.pointer q4, .pointer q] 93))); rw [← HN.out.2] at this; exact this) (by exact Lv.up (belowAlloc _ _) hp2) (by exact twoDig (by have := hb1.size; have := hb2.size; omega) (heap_alloc_new w2 _) (H4.out.up (belowTrans hb2 (belowAlloc w2 (.cells #[.pointer q4, .pointer q] 93)))) (HT.out.up (belowTrans hb2 (belowAlloc w2 (.cells #[.pointer q4, .pointer q] 93)))) (Nat.le_refl _)) (by exact HOk.out.1) (by simp)).mono ?_; rintro e w6 ⟨p6, rfl, h6, hb6⟩; replace hb6 := belowTrans (belowAlloc w2 (.cells #[.pointer q4, .pointer q] 93)) hb6; have a5 := K5.out w6 (belowTrans hb2 hb6); have a6 := K6.out w6 (belowTrans hb2 hb6); have a7 := K7.out w6 (belowTrans hb2 hb6); have a3 := K3.out w6 (belowTrans hb2 hb6)))
      all_goals
        go_wp2_with fail
        go_ret
        exact ⟨_, rfl, h6, belowTrans hb2 hb6⟩
end Go.Proofs.Ytnigadnjppeckaa.finger
