/- The law of who writes into the lists of a scan. -/
import Derived.Test.YtnnpeblpdkeffaaScanF
import Derived.Test.YtnnpeblpdkeffaaSame
import Derived.Deep.QuietTactic
import Derived.BigQuiet
namespace Go.Proofs.Ytnnpeblpdkeffaa.scan
open Go.RowKit

theorem quietB {P : Program} {f : FuncId} {args : Array Value} {w : World} {n : Nat} {b : Bool} (h : Calls P f args (w.drewN n) (RetB b (w.drewN n))) :
    Calls P f args (w.drewN n) fun e w'' => e = .returned (.bool b) ∧ ∃ m, w'' = w.drewN m := h.mono fun _ _ ⟨he, k, hk⟩ => ⟨he, n + k, by rw [hk, drewN_add]⟩

theorem quietB2 {P : Program} {f : FuncId} {args : Array Value} {w : World} {a n : Nat} {b : Bool} (h : Calls P f args (w.drewN (a + n)) (RetB b (w.drewN (a + n)))) :
    Calls P f args (w.drewN (a + n)) fun e w'' => e = .returned (.bool b) ∧ ∃ m, w'' = w.drewN (a + m) := h.mono fun _ _ ⟨he, k, hk⟩ => ⟨he, n + k, by rw [hk, drewN_add, Nat.add_assoc]⟩
theorem RowLL.fill {w wr : World} {B B' n : Nat} {Q : Nat → Nat → Prop} {L : List (List Int)} {v u : Value} (h : RowLL w B Q L v) (hf : FillI B' u n w wr) (hu : ∀ b, u.ownBlock = some b → b < B) : RowLL wr B Q L v := by
  obtain ⟨cs, ho, hc⟩ := h
  refine ⟨cs, ⟨ho.1, ?_⟩, fun j hj => ?_⟩
  · rcases ho.2 with h' | ⟨g, cap, cur, rfl, hg, hcg, r⟩
    · exact .inl h'
    · exact .inr ⟨g, cap, cur, rfl, hg, (hf.block g (Array.getElem?_eq_some_iff.1 hcg).1 (fun e => by have := hu g e; omega)).trans hcg, r⟩
  · obtain ⟨a, c, h1, h2, h3⟩ := hc j hj
    exact ⟨a, c, h1, hf.ownI h2 (fun b hb e => by have h4 := hu b hb; have h5 := (h2.block b e).1; omega), h3⟩

set_option maxHeartbeats 1000000 in
theorem Scan_bad (w : World) (n : Int) (v : Value) (h1 : n ≠ 1) (h2 : n ≠ 2) (h3 : n ≠ 3) (h4 : n ≠ 4) :
    Calls Try.prog 6 #[.int .i64 n, v] w fun e w' => e = .returned (.tuple #[.slice none 0 0, .iface 48 (.int .i64 3)]) ∧ Below w.heap.size w w' := by
  have Ho := Lib.hid (fun W => of_none n W h1 h2 h3 h4)
  clear h1 h2 h3 h4
  go_enter Try.func6, Try.ntmps6
  go_wp2_with fail
  refine (Ho.out _).mono ?_
  rintro e w1 ⟨rfl, hb1⟩
  go_wp2_with fail
  go_ret2
  exact ⟨rfl, belowTrans hb1 (belowAlloc _ _)⟩
set_option maxHeartbeats 1000000 in
theorem Levels_bad (w : World) (n : Int) (v : Value) (h1 : n ≠ 1) (h2 : n ≠ 2) (h3 : n ≠ 3) (h4 : n ≠ 4) :
    Calls Try.prog 7 #[.int .i64 n, v] w fun e w' => e = .returned (.tuple #[.slice none 0 0, .iface 48 (.int .i64 3)]) ∧ Below w.heap.size w w' := by
  have Ho := Lib.hid (fun W => of_none n W h1 h2 h3 h4)
  clear h1 h2 h3 h4
  go_enter Try.func7, Try.ntmps7
  go_wp2_with fail
  refine (Ho.out _).mono ?_
  rintro e w1 ⟨rfl, hb1⟩
  go_wp2_with fail
  go_ret2
  exact ⟨rfl, belowTrans hb1 (belowAlloc _ _)⟩
set_option maxHeartbeats 1000000 in
theorem Levels_nil1 (w : World) (a : Option Addr) (c : Nat) :
    Calls Try.prog 7 #[.int .i64 1, .slice a 0 c] w fun e w' => e = .returned (.tuple #[.slice none 0 0, .iface 48 (.int .i64 2)]) ∧ Below w.heap.size w w' := by
  go_enter Try.func7, Try.ntmps7
  go_wp2_with fail
  refine (of1 _).mono ?_
  rintro e w1 ⟨rfl, hb1⟩
  go_wp2_with fail
  go_ret2
  exact ⟨rfl, belowTrans hb1 (belowAlloc _ _)⟩
set_option maxHeartbeats 1000000 in
theorem Levels_nil2 (w : World) (a : Option Addr) (c : Nat) :
    Calls Try.prog 7 #[.int .i64 2, .slice a 0 c] w fun e w' => e = .returned (.tuple #[.slice none 0 0, .iface 48 (.int .i64 2)]) ∧ Below w.heap.size w w' := by
  go_enter Try.func7, Try.ntmps7
  go_wp2_with fail
  refine (of2 _).mono ?_
  rintro e w1 ⟨rfl, hb1⟩
  go_wp2_with fail
  go_ret2
  exact ⟨rfl, belowTrans hb1 (belowAlloc _ _)⟩
set_option maxHeartbeats 1000000 in
theorem Levels_nil3 (w : World) (a : Option Addr) (c : Nat) :
    Calls Try.prog 7 #[.int .i64 3, .slice a 0 c] w fun e w' => e = .returned (.tuple #[.slice none 0 0, .iface 48 (.int .i64 2)]) ∧ Below w.heap.size w w' := by
  go_enter Try.func7, Try.ntmps7
  go_wp2_with fail
  refine (of3 _).mono ?_
  rintro e w1 ⟨rfl, hb1⟩
  go_wp2_with fail
  go_ret2
  exact ⟨rfl, belowTrans hb1 (belowAlloc _ _)⟩
set_option maxHeartbeats 1000000 in
theorem Levels_nil4 (w : World) (a : Option Addr) (c : Nat) :
    Calls Try.prog 7 #[.int .i64 4, .slice a 0 c] w fun e w' => e = .returned (.tuple #[.slice none 0 0, .iface 48 (.int .i64 2)]) ∧ Below w.heap.size w w' := by
  go_enter Try.func7, Try.ntmps7
  go_wp2_with fail
  refine (of4 _).mono ?_
  rintro e w1 ⟨rfl, hb1⟩
  go_wp2_with fail
  go_ret2
  exact ⟨rfl, belowTrans hb1 (belowAlloc _ _)⟩

/-- an op that there is none of, or an empty list: the lists are compared, and that is all -/
theorem fold53' (w : World) : Calls Try.prog 8 #[.int .i64 1, .slice (some ⟨w.heap.size, 0, none⟩) 2 2] (w.alloc (.cells #[.int .i64 5, .int .i64 3] 3)) fun e w' => e = .returned (.tuple #[.int .i64 8, .nilIface]) ∧ Below w.heap.size w w' :=
  (fold53 _ _ (heap_alloc_new _ _)).mono fun _ _ ⟨he, hb⟩ => ⟨he, belowTrans (belowAlloc _ _) hb⟩
set_option maxRecDepth 100000 in
set_option maxHeartbeats 4000000 in
theorem law_bad (n : Int) (a : Option Addr) (c : Nat) (l : List Int) (x : Int) (w : World) (hlen : l.length * 8 ≤ 140737488351232) (hr : Reads w a l) (hna : a = none → c = 0) (h1 : n ≠ 1) (h2 : n ≠ 2) (h3 : n ≠ 3) (h4 : n ≠ 4) :
    Calls Try.prog 3 #[.int .i64 n, .slice a l.length c, .int .i64 x] w fun e w' => e = .returned (.bool true) ∧ Below w.heap.size w w' := by
  have Hcat := Lib.hid (cat_any a c l w hlen hr hna)
  have Hs := Lib.hid (fun W v => Scan_bad W n v h1 h2 h3 h4)
  have Hl := Lib.hid (fun W v => Levels_bad W n v h1 h2 h3 h4)
  have Hr := Lib.hid hr
  have hl8 : l.length ≤ 17592186043904 := by omega
  clear h1 h2 h3 h4 hr hna hlen
  go_enter Try.func3, Try.ntmps3
  go_wp2_with fail
  refine Hcat.out.mono ?_
  rintro e w1 ⟨a1, c1, rfl, ho1, hb1⟩
  have Ho1 := Lib.hid ho1
  clear ho1
  go_wp2_with fail
  refine (Hs.out _ _).mono ?_
  rintro e w2 ⟨rfl, hb2⟩
  go_wp2_with fail
  refine (Hl.out _ _).mono ?_
  rintro e w3 ⟨rfl, hb3⟩
  go_wp2_with fail
  refine (fold53' _).mono ?_
  rintro e w4 ⟨rfl, hb4⟩
  have hb14 := belowTrans (belowTrans hb2 hb3) hb4
  have Hr4 := Lib.hid (Hr.out.up (belowTrans hb1 hb14))
  have Ho4 := Lib.hid (Ho1.out.up hb14)
  have Hb4 := Lib.hid (belowTrans hb1 hb14)
  clear hb1 hb2 hb3 hb4 hb14
  go_wp2_with fail
  refine (sameInts_self a1 a c1 c l.length l w4 rfl Ho4.out.reads Hr4.out (by unfold maxLen; omega)).mono ?_
  rintro e w5 ⟨rfl, q, rfl⟩
  go_wp2_with fail
  go_ret
  exact ⟨rfl, belowTrans Hb4.out (belowDrewN _ _)⟩

theorem rows_at {w6 wr : World} {B M n2 B2 : Nat} {L : List (List Int)} {v u : Value} {a3 : Option Addr} {c3 n : Nat} (hv : v = .slice a3 n c3) (h : RowLL w6 B (At0 M) L v) (hf : FillI B2 u n2 w6 wr) (hu : ∀ b, u.ownBlock = some b → b < M) (hu2 : OwnI 3 w6 B u (L.getD 0 [])) {j : Nat} (hj : 1 ≤ j) (hjl : j < L.length) :
    ∃ g aj cj, a3 = some ⟨g, 0, none⟩ ∧ wr.cell? ⟨g, j, none⟩ = some (.slice aj (L.getD j []).length cj) ∧ Reads wr aj (L.getD j []) := by
  subst hv
  obtain ⟨g, cur, rfl, hB, hg, aj, cj, hc, ho, hq⟩ := h.at hjl
  have hgu : some g ≠ u.ownBlock := row_ne (n := (L.getD 0 []).length) hu2 hg (by decide)
  have hgb := hf.block g (Array.getElem?_eq_some_iff.1 hg).1 (fun e => hgu e.symm)
  refine ⟨g, aj, cj, rfl, by rw [← hc]; simp only [World.cell?, hgb], (hf.ownI ho (fun b hb e => ?_)).reads⟩
  have h1 := hu b hb
  have h2 := hq b e
  unfold At0 at h2
  rw [if_neg (by omega)] at h2
  omega
theorem own_some {w : World} {B n c : Nat} {a : Option Addr} {xs : List Int} (h : OwnI 3 w B (.slice a n c) xs) (h0 : 0 < xs.length) : ∃ g, a = some ⟨g, 0, none⟩ := by
  rcases h.2 with ⟨_, h'⟩ | ⟨g, cap, cur, e, _⟩
  · omega
  · simp only [Value.slice.injEq] at e
    exact ⟨g, e.1⟩
theorem lvF_le (k n : Nat) : ∀ zs r, r ∈ lvF k n zs → r.length ≤ zs.length := by
  induction n with
  | zero => intro zs r h; cases h
  | succ n ih =>
    intro zs r h
    rw [lvF] at h
    split at h
    · cases h
    · rename_i hz
      have hp := pairsP_length k zs
      rcases List.mem_cons.1 h with rfl | h
      · omega
      · have := ih _ _ h
        omega
theorem lvF_len (k n : Nat) : ∀ zs, (lvF k n zs).length ≤ n := by
  induction n with
  | zero => intro zs; exact Nat.le_refl _
  | succ n ih =>
    intro zs
    rw [lvF]
    split
    · exact Nat.zero_le _
    · have := ih (pairsP k zs)
      simp only [List.length_cons]
      omega
theorem levels_le (k : Nat) (l : List Int) (j : Nat) : ((levels k l).getD j []).length ≤ l.length := by
  by_cases h : j < (levels k l).length
  · rw [List.getD_eq_getElem?_getD, List.getElem?_eq_getElem h, Option.getD_some]
    have hm := List.getElem_mem h
    unfold levels at hm
    rcases List.mem_cons.1 hm with h2 | h2
    · unfold levels
      rw [h2]
      exact Nat.le_refl _
    · exact lvF_le k _ _ _ h2
  · rw [List.getD_eq_getElem?_getD, List.getElem?_eq_none (by omega)]
    exact Nat.zero_le _
theorem rows_len {W : World} {B : Nat} {Q : Nat → Nat → Prop} {L : List (List Int)} {v : Value} (h : RowLL W B Q L v) : ∃ a c, v = .slice a L.length c := h.form

set_option maxRecDepth 100000 in
set_option maxHeartbeats 4000000 in
theorem law_nil1 (a : Option Addr) (c : Nat) (x : Int) (w : World) (hna : a = none → c = 0) :
    Calls Try.prog 3 #[.int .i64 1, .slice a 0 c, .int .i64 x] w fun e w' => e = .returned (.bool true) ∧ Below w.heap.size w w' := by
  have Hcat := Lib.hid (cat_any a c [] w (by simp) (.inl rfl) hna)
  clear hna
  go_enter Try.func3, Try.ntmps3
  go_wp2_with fail
  refine Hcat.out.mono ?_
  rintro e w1 ⟨a1, c1, rfl, ho1, hb1⟩
  have Ho1 := Lib.hid ho1
  clear ho1
  go_wp2_with fail
  refine (Scan1 w1 a1 c1 [] (by simp) ⟨Nat.zero_le _, .inl rfl⟩).mono ?_
  rintro e w2 ⟨a2, c2, o2, rfl, _, _, hb2⟩
  go_wp2_with fail
  refine (Levels_nil1 _ _ _).mono ?_
  rintro e w3 ⟨rfl, hb3⟩
  go_wp2_with fail
  refine (fold53' _).mono ?_
  rintro e w4 ⟨rfl, hb4⟩
  have hb14 := belowTrans (belowTrans hb2 hb3) hb4
  have Hb4 := Lib.hid (belowTrans hb1 hb14)
  clear hb1 hb2 hb3 hb4 hb14
  go_wp2_with fail
  refine (sameInts_self a1 a c1 c 0 [] w4 rfl (.inl rfl) (.inl rfl) (by unfold maxLen; omega)).mono ?_
  rintro e w5 ⟨rfl, q, rfl⟩
  go_wp2_with fail
  go_ret
  exact ⟨rfl, belowTrans Hb4.out (belowDrewN _ _)⟩

set_option maxRecDepth 100000 in
set_option maxHeartbeats 8000000 in
theorem law1 (a : Option Addr) (c : Nat) (l : List Int) (x : Int) (w : World) (hlen : l.length * 8 ≤ 140737488351232) (hr : Reads w a l) (hna : a = none → c = 0) (hlc : l.length ≤ c) (h0 : 0 < l.length) :
    Calls Try.prog 3 #[.int .i64 1, .slice a l.length c, .int .i64 x] w fun e w' => e = .returned (.bool true) ∧ Below w.heap.size w w' := by
  have hcat := cat_any a c l w hlen hr hna
  obtain ⟨n, hnl⟩ : ∃ n, n = l.length := ⟨_, rfl⟩
  have hn8 : n ≤ 17592186043904 := by omega
  have hn0 : 0 < n := by omega
  have Hr := Lib.hid hr
  have Hlc := Lib.hid hlc
  have Hsc := Lib.hid (fun W a1 c1 (hs : Slc W a1 c1 l) => Scan1 W a1 c1 l (by omega) hs)
  have Hlv := Lib.hid (fun W a1 c1 (hs : Slc W a1 c1 l) => Levels1 W a1 c1 l h0 (by omega) hs)
  rw [← hnl] at hcat Hsc Hlv ⊢
  have Hn := Lib.hid hnl
  clear hr hna hlen hnl hlc h0
  go_enter Try.func3, Try.ntmps3
  go_wp2_with fail
  refine hcat.mono ?_
  rintro e w1 ⟨a1, c1, rfl, ho1, hb1⟩
  have hs1 := (OwnI.slc ho1).1
  rw [← Hn.out] at ho1 ⊢
  have Ho1 := Lib.hid ho1
  have Hs1 := Lib.hid hs1
  clear ho1 hs1 hcat
  go_wp2_with fail
  refine (Hsc.out w1 a1 c1 Hs1.out).mono ?_
  rintro e w2 ⟨a2, c2, o2, rfl, ho2, hl2, hb2⟩
  have Hblk2 : Hid (∀ b, (Value.slice a2 n c2).ownBlock = some b → w1.heap.size ≤ b ∧ b < w2.heap.size) := Lib.hid ho2.block
  have Hblk1 : Hid (∀ b, (Value.slice a1 n c1).ownBlock = some b → b < w1.heap.size) := Lib.hid (fun b hb => (Ho1.out.block b hb).2)
  have Ho2 := Lib.hid ho2
  have Hl2 := Lib.hid hl2
  clear ho2 hl2
  go_wp2_with fail
  refine (Hlv.out w2 a1 c1 (Hs1.out.up hb2)).mono ?_
  rintro e w3 ⟨M, v3, rfl, hrow, hb3⟩
  obtain ⟨a3, c3, hv3⟩ := hrow.form
  obtain ⟨NL, hNL⟩ : ∃ NL, NL = (levels 1 l).length := ⟨_, rfl⟩
  rw [← hNL] at hv3
  have hNL0 : 0 < NL := by rw [hNL]; simp [levels]
  have hNLb : NL ≤ 17592186043905 := by have h := lvF_len 1 l.length l; have h2 := Hn.out; rw [hNL, levels, List.length_cons]; omega
  subst hv3
  have Hrow := Lib.hid hrow
  have HNL := Lib.hid hNL
  clear hrow hNL
  go_wp2_with fail
  refine (fold53' _).mono ?_
  rintro e w4 ⟨rfl, hb4⟩
  have hb24 := belowTrans hb3 hb4
  have Ho14 := Lib.hid (Ho1.out.up (belowTrans hb2 hb24))
  have Ho24 := Lib.hid (Ho2.out.up hb24)
  have Hrow4 := Lib.hid (Hrow.out.up hb4)
  have Hb4 := Lib.hid (belowTrans (belowTrans hb1 hb2) hb24)
  have Hr4 := Lib.hid (Hr.out.up Hb4.out)
  have hz4 : w.heap.size ≤ w1.heap.size ∧ w1.heap.size ≤ w2.heap.size ∧ w2.heap.size ≤ w4.heap.size := ⟨hb1.size, hb2.size, hb24.size⟩
  have HZ := Lib.hid hz4
  clear hb1 hb2 hb3 hb4 hb24 hz4 Hsc Ho2 Hrow Hs1
  go_wp2_with fail
  refine (sameInts_self a1 a c1 c n l w4 Hn.out.symm Ho14.out.reads Hr4.out (by unfold maxLen; omega)).mono ?_
  rintro e w5 ⟨rfl, q, rfl⟩
  have hq4 := belowDrewN w4 q
  have Ho15 := Lib.hid (Ho14.out.up hq4)
  have Ho25 := Lib.hid (Ho24.out.up hq4)
  have Hrow5 := Lib.hid (Hrow4.out.up hq4)
  have Hb5 := Lib.hid (belowTrans Hb4.out hq4)
  obtain ⟨w5, hw5⟩ : ∃ w5, w5 = w4.drewN q := ⟨_, rfl⟩
  have hz5 : w4.heap.size ≤ w5.heap.size := by rw [hw5]; exact hq4.size
  rw [← hw5] at Ho15 Ho25 Hrow5 Hb5
  clear hq4 Ho14 Ho24 Hrow4 Hb4 Hr4
  have Hw5 := Lib.hid hw5
  clear hw5
  go_wp2_with fail
  rw [← Hw5.out]
  obtain ⟨g2, hg2⟩ : ∃ g, a2 = some ⟨g, 0, none⟩ := own_some Ho25.out (by rw [Hl2.out]; exact hn0)
  subst hg2
  go_loopw [15] (fun i wr => ∃ k : Nat, k ≤ n ∧ i = .int .i64 k ∧ Hid (FillI w1.heap.size (.slice (some ⟨g2, 0, none⟩) n c2) n w5 wr)) (fun i _ => n - (intOf i).toNat)
  case atStart => exact ⟨0, Nat.zero_le _, rfl, Lib.hid (FillI.start Hl2.out Ho25.out)⟩
  case round =>
    obtain ⟨k, hk, rfl, HF⟩ := hrel
    by_cases hlt : k < n
    · obtain ⟨u, hc, hf⟩ := HF.out.cell k hlt
      have HF' := Lib.hid (HF.out.step k x)
      have h0 : (0 : Int) ≤ (k : Int) := by omega
      have h1 : (k : Int) < (n : Int) := by omega
      go_wp2_with fail
      exact ⟨⟨k + 1, by omega, by go_num, HF'⟩, by simp [intOf]; omega⟩
    · have hz := HZ.out
      have Ho16 := Lib.hid (HF.out.ownI Ho15.out (fun b hb e => by have h1 := Hblk1.out b e; have h2 := (Hblk2.out b hb).1; omega))
      have hrow6 := RowLL.fill Hrow5.out HF.out (fun b hb => (Hblk2.out b hb).2)
      have Hb6 := Lib.hid (HF.out.below (D := w.heap.size) (by omega) Hb5.out (fun b hb => by have h := (Hblk2.out b hb).1; omega))
      obtain ⟨g3, cur3, ha3, hg3B, hg3, aB, cB, hcB, hoB, hqB⟩ := hrow6.at (k := 0) (by rw [← HNL.out]; exact hNL0)
      subst ha3
      have e0 : (levels 1 l).getD 0 [] = l := rfl
      rw [e0, ← Hn.out] at hcB hoB hqB
      obtain ⟨g0, hg0⟩ : ∃ g, aB = some ⟨g, 0, none⟩ := own_some hoB (by rw [← Hn.out]; exact hn0)
      subst hg0
      have Hrow6 := Lib.hid hrow6
      have HoB := Lib.hid hoB
      have HcB := Lib.hid hcB
      have Hg3 := Lib.hid (And.intro hg3B hg3)
      have hg0M : g0 < M := hqB g0 rfl
      have hg0B := (hoB.block g0 rfl).1
      obtain ⟨w6, hw6⟩ : ∃ w6 : World, w6 = wr := ⟨_, rfl⟩
      rw [← hw6] at Ho16 Hrow6 Hb6 HoB HcB Hg3
      have Hw6 := Lib.hid hw6
      clear hrow6 hoB hcB hqB hg3B hg3 hw6 HF e0 Hrow5 Ho15 Ho25 Hb5
      go_wp2_with fail
      rw [← Hw6.out]
      clear Hw6
      go_loopw [16] (fun i wr => ∃ k : Nat, k ≤ n ∧ i = .int .i64 k ∧ Hid (FillI w2.heap.size (.slice (some ⟨g0, 0, none⟩) n cB) n w6 wr)) (fun i _ => n - (intOf i).toNat)
      case atStart => exact ⟨0, Nat.zero_le _, rfl, Lib.hid (FillI.start Hn.out.symm HoB.out)⟩
      case round =>
        obtain ⟨k, hk, rfl, HF⟩ := hrel
        have hkB : wr.cell? ⟨g3, 0, none⟩ = some (.slice (some ⟨g0, 0, none⟩) n cB) := by
          have h := HF.out.block g3 (Array.getElem?_eq_some_iff.1 Hg3.out.2).1 (fun e => row_ne (n := l.length) HoB.out Hg3.out.2 (by decide) e.symm)
          rw [← HcB.out]
          simp only [World.cell?, h]
        have hNLi : (0 : Int) < (NL : Int) := by omega
        by_cases hlt : k < n
        · obtain ⟨u, hc, hf⟩ := HF.out.cell k hlt
          have HF' := Lib.hid (HF.out.step k x)
          have h0 : (0 : Int) ≤ (k : Int) := by omega
          have h1 : (k : Int) < (n : Int) := by omega
          go_wp2_with fail
          exact ⟨⟨k + 1, by omega, by go_num, HF'⟩, by simp [intOf]; omega⟩
        · have hz := HZ.out
          have Ho17 := Lib.hid (HF.out.ownI Ho16.out (fun b hb e => by have h1 := Hblk1.out b e; have h2 : g0 = b := (by simpa [Value.ownBlock] using hb); omega))
          have hb7 := HF.out.below (D := w.heap.size) (by have := Hb6.out.size; omega) Hb6.out (fun b hb => by have h2 : g0 = b := (by simpa [Value.ownBlock] using hb); omega)
          have Hr7 := Lib.hid (Hr.out.up hb7)
          have Hb7 := Lib.hid hb7
          obtain ⟨w7, hw7⟩ : ∃ w7 : World, w7 = wr := ⟨_, rfl⟩
          have HF7 := HF
          rw [← hw7] at Ho17 Hr7 Hb7 HF7
          have Hw7 := Lib.hid hw7
          clear hb7 hw7 HF
          go_wp2_with fail
          rw [← Hw7.out]
          refine (sameInts_self a1 a c1 c n l w7 Hn.out.symm Ho17.out.reads Hr7.out (by unfold maxLen; omega)).mono ?_
          rintro e w8 ⟨rfl, q8, rfl⟩
          have hb78 := belowDrewN w7 q8
          have hs8 : Slc (w7.drewN q8) a c l := ⟨Hlc.out, Hr7.out.up hb78⟩
          have Hs8 := Lib.hid hs8
          have Hb78 := Lib.hid hb78
          clear hs8 hb78 hkB
          go_wp2_with fail
          refine (Hlv.out _ a c Hs8.out).mono ?_
          rintro e w9 ⟨M9, v9, rfl, hrow9, hb9⟩
          obtain ⟨a9, c9, hv9⟩ := hrow9.form
          rw [← HNL.out] at hv9
          subst hv9
          have Hrow9 := Lib.hid hrow9
          have Hb79 := Lib.hid (belowTrans Hb78.out hb9)
          clear hrow9 hb9 Hs8
          go_wp2_with fail
          go_loopw [20, 21] (fun t i wr => ∃ k q : Nat, 1 ≤ k ∧ t = .bool true ∧ i = .int .i64 k ∧ wr = w9.drewN q) (fun _ i _ => NL - (intOf i).toNat)
          case atStart => exact ⟨1, 0, Nat.le_refl _, by simp, rfl, rfl⟩
          case round =>
            obtain ⟨k, q9, hk1, rfl, rfl, rfl⟩ := hrel
            by_cases hlt : k < NL
            · obtain ⟨g5, aj, cj, e5, hcj, hrj⟩ := rows_at rfl Hrow6.out HF7.out (fun b hb => by have h2 : g0 = b := (by simpa [Value.ownBlock] using hb); omega) HoB.out hk1 (by rw [← HNL.out]; exact hlt)
              obtain ⟨g9, cur9, ha9, _, _, ak, ck, hck, hok, _⟩ := Hrow9.out.at (k := k) (by rw [← HNL.out]; exact hlt)
              subst ha9
              cases e5
              have kj := upc Hb79.out hcj
              have kk := hck
              have Hrj := Lib.hid (hrj.up Hb79.out)
              have Hrk := Lib.hid hok.reads
              have hml : ((levels 1 l).getD k []).length ≤ maxLen := by have h := levels_le 1 l k; rw [← Hn.out] at h; unfold maxLen; omega
              obtain ⟨m, hm⟩ : ∃ m, m = ((levels 1 l).getD k []).length := ⟨_, rfl⟩
              rw [← hm] at kj kk hml
              have HQ := Lib.hid (fun W (hW : Below w9.heap.size w9 W) => sameInts_self aj ak cj ck m ((levels 1 l).getD k []) W hm.symm (Hrj.out.up hW) (Hrk.out.up hW) hml)
              have d0 : (0 : Int) ≤ (k : Int) := by omega
              have d1 : (k : Int) < (NL : Int) := by omega
              clear hcj hrj hck hok hm hml
              go_wp2_with fail
              go_quiet ((go_at_call 9; exact quietB2 (HQ.out _ (belowDrewN _ _))))
              go_wp2_with fail
              go_roundw
              case rel => exact ⟨k + 1, q9 + nq, by omega, rfl, by go_num, rfl⟩
              case measure => simp [intOf]; omega
            · go_wp2_with fail
              go_ret
              exact ⟨rfl, (belowTrans Hb7.out (belowTrans Hb79.out (belowDrewN _ _)))⟩
set_option maxRecDepth 100000 in
set_option maxHeartbeats 4000000 in
theorem law_nil2 (a : Option Addr) (c : Nat) (x : Int) (w : World) (hna : a = none → c = 0) :
    Calls Try.prog 3 #[.int .i64 2, .slice a 0 c, .int .i64 x] w fun e w' => e = .returned (.bool true) ∧ Below w.heap.size w w' := by
  have Hcat := Lib.hid (cat_any a c [] w (by simp) (.inl rfl) hna)
  clear hna
  go_enter Try.func3, Try.ntmps3
  go_wp2_with fail
  refine Hcat.out.mono ?_
  rintro e w1 ⟨a1, c1, rfl, ho1, hb1⟩
  have Ho1 := Lib.hid ho1
  clear ho1
  go_wp2_with fail
  refine (Scan2 w1 a1 c1 [] (by simp) ⟨Nat.zero_le _, .inl rfl⟩).mono ?_
  rintro e w2 ⟨a2, c2, o2, rfl, _, _, hb2⟩
  go_wp2_with fail
  refine (Levels_nil2 _ _ _).mono ?_
  rintro e w3 ⟨rfl, hb3⟩
  go_wp2_with fail
  refine (fold53' _).mono ?_
  rintro e w4 ⟨rfl, hb4⟩
  have hb14 := belowTrans (belowTrans hb2 hb3) hb4
  have Hb4 := Lib.hid (belowTrans hb1 hb14)
  clear hb1 hb2 hb3 hb4 hb14
  go_wp2_with fail
  refine (sameInts_self a1 a c1 c 0 [] w4 rfl (.inl rfl) (.inl rfl) (by unfold maxLen; omega)).mono ?_
  rintro e w5 ⟨rfl, q, rfl⟩
  go_wp2_with fail
  go_ret
  exact ⟨rfl, belowTrans Hb4.out (belowDrewN _ _)⟩

set_option maxRecDepth 100000 in
set_option maxHeartbeats 8000000 in
theorem law2 (a : Option Addr) (c : Nat) (l : List Int) (x : Int) (w : World) (hlen : l.length * 8 ≤ 140737488351232) (hr : Reads w a l) (hna : a = none → c = 0) (hlc : l.length ≤ c) (h0 : 0 < l.length) :
    Calls Try.prog 3 #[.int .i64 2, .slice a l.length c, .int .i64 x] w fun e w' => e = .returned (.bool true) ∧ Below w.heap.size w w' := by
  have hcat := cat_any a c l w hlen hr hna
  obtain ⟨n, hnl⟩ : ∃ n, n = l.length := ⟨_, rfl⟩
  have hn8 : n ≤ 17592186043904 := by omega
  have hn0 : 0 < n := by omega
  have Hr := Lib.hid hr
  have Hlc := Lib.hid hlc
  have Hsc := Lib.hid (fun W a1 c1 (hs : Slc W a1 c1 l) => Scan2 W a1 c1 l (by omega) hs)
  have Hlv := Lib.hid (fun W a1 c1 (hs : Slc W a1 c1 l) => Levels2 W a1 c1 l h0 (by omega) hs)
  rw [← hnl] at hcat Hsc Hlv ⊢
  have Hn := Lib.hid hnl
  clear hr hna hlen hnl hlc h0
  go_enter Try.func3, Try.ntmps3
  go_wp2_with fail
  refine hcat.mono ?_
  rintro e w1 ⟨a1, c1, rfl, ho1, hb1⟩
  have hs1 := (OwnI.slc ho1).1
  rw [← Hn.out] at ho1 ⊢
  have Ho1 := Lib.hid ho1
  have Hs1 := Lib.hid hs1
  clear ho1 hs1 hcat
  go_wp2_with fail
  refine (Hsc.out w1 a1 c1 Hs1.out).mono ?_
  rintro e w2 ⟨a2, c2, o2, rfl, ho2, hl2, hb2⟩
  have Hblk2 : Hid (∀ b, (Value.slice a2 n c2).ownBlock = some b → w1.heap.size ≤ b ∧ b < w2.heap.size) := Lib.hid ho2.block
  have Hblk1 : Hid (∀ b, (Value.slice a1 n c1).ownBlock = some b → b < w1.heap.size) := Lib.hid (fun b hb => (Ho1.out.block b hb).2)
  have Ho2 := Lib.hid ho2
  have Hl2 := Lib.hid hl2
  clear ho2 hl2
  go_wp2_with fail
  refine (Hlv.out w2 a1 c1 (Hs1.out.up hb2)).mono ?_
  rintro e w3 ⟨M, v3, rfl, hrow, hb3⟩
  obtain ⟨a3, c3, hv3⟩ := hrow.form
  obtain ⟨NL, hNL⟩ : ∃ NL, NL = (levels 2 l).length := ⟨_, rfl⟩
  rw [← hNL] at hv3
  have hNL0 : 0 < NL := by rw [hNL]; simp [levels]
  have hNLb : NL ≤ 17592186043905 := by have h := lvF_len 2 l.length l; have h2 := Hn.out; rw [hNL, levels, List.length_cons]; omega
  subst hv3
  have Hrow := Lib.hid hrow
  have HNL := Lib.hid hNL
  clear hrow hNL
  go_wp2_with fail
  refine (fold53' _).mono ?_
  rintro e w4 ⟨rfl, hb4⟩
  have hb24 := belowTrans hb3 hb4
  have Ho14 := Lib.hid (Ho1.out.up (belowTrans hb2 hb24))
  have Ho24 := Lib.hid (Ho2.out.up hb24)
  have Hrow4 := Lib.hid (Hrow.out.up hb4)
  have Hb4 := Lib.hid (belowTrans (belowTrans hb1 hb2) hb24)
  have Hr4 := Lib.hid (Hr.out.up Hb4.out)
  have hz4 : w.heap.size ≤ w1.heap.size ∧ w1.heap.size ≤ w2.heap.size ∧ w2.heap.size ≤ w4.heap.size := ⟨hb1.size, hb2.size, hb24.size⟩
  have HZ := Lib.hid hz4
  clear hb1 hb2 hb3 hb4 hb24 hz4 Hsc Ho2 Hrow Hs1
  go_wp2_with fail
  refine (sameInts_self a1 a c1 c n l w4 Hn.out.symm Ho14.out.reads Hr4.out (by unfold maxLen; omega)).mono ?_
  rintro e w5 ⟨rfl, q, rfl⟩
  have hq4 := belowDrewN w4 q
  have Ho15 := Lib.hid (Ho14.out.up hq4)
  have Ho25 := Lib.hid (Ho24.out.up hq4)
  have Hrow5 := Lib.hid (Hrow4.out.up hq4)
  have Hb5 := Lib.hid (belowTrans Hb4.out hq4)
  obtain ⟨w5, hw5⟩ : ∃ w5, w5 = w4.drewN q := ⟨_, rfl⟩
  have hz5 : w4.heap.size ≤ w5.heap.size := by rw [hw5]; exact hq4.size
  rw [← hw5] at Ho15 Ho25 Hrow5 Hb5
  clear hq4 Ho14 Ho24 Hrow4 Hb4 Hr4
  have Hw5 := Lib.hid hw5
  clear hw5
  go_wp2_with fail
  rw [← Hw5.out]
  obtain ⟨g2, hg2⟩ : ∃ g, a2 = some ⟨g, 0, none⟩ := own_some Ho25.out (by rw [Hl2.out]; exact hn0)
  subst hg2
  go_loopw [15] (fun i wr => ∃ k : Nat, k ≤ n ∧ i = .int .i64 k ∧ Hid (FillI w1.heap.size (.slice (some ⟨g2, 0, none⟩) n c2) n w5 wr)) (fun i _ => n - (intOf i).toNat)
  case atStart => exact ⟨0, Nat.zero_le _, rfl, Lib.hid (FillI.start Hl2.out Ho25.out)⟩
  case round =>
    obtain ⟨k, hk, rfl, HF⟩ := hrel
    by_cases hlt : k < n
    · obtain ⟨u, hc, hf⟩ := HF.out.cell k hlt
      have HF' := Lib.hid (HF.out.step k x)
      have h0 : (0 : Int) ≤ (k : Int) := by omega
      have h1 : (k : Int) < (n : Int) := by omega
      go_wp2_with fail
      exact ⟨⟨k + 1, by omega, by go_num, HF'⟩, by simp [intOf]; omega⟩
    · have hz := HZ.out
      have Ho16 := Lib.hid (HF.out.ownI Ho15.out (fun b hb e => by have h1 := Hblk1.out b e; have h2 := (Hblk2.out b hb).1; omega))
      have hrow6 := RowLL.fill Hrow5.out HF.out (fun b hb => (Hblk2.out b hb).2)
      have Hb6 := Lib.hid (HF.out.below (D := w.heap.size) (by omega) Hb5.out (fun b hb => by have h := (Hblk2.out b hb).1; omega))
      obtain ⟨g3, cur3, ha3, hg3B, hg3, aB, cB, hcB, hoB, hqB⟩ := hrow6.at (k := 0) (by rw [← HNL.out]; exact hNL0)
      subst ha3
      have e0 : (levels 2 l).getD 0 [] = l := rfl
      rw [e0, ← Hn.out] at hcB hoB hqB
      obtain ⟨g0, hg0⟩ : ∃ g, aB = some ⟨g, 0, none⟩ := own_some hoB (by rw [← Hn.out]; exact hn0)
      subst hg0
      have Hrow6 := Lib.hid hrow6
      have HoB := Lib.hid hoB
      have HcB := Lib.hid hcB
      have Hg3 := Lib.hid (And.intro hg3B hg3)
      have hg0M : g0 < M := hqB g0 rfl
      have hg0B := (hoB.block g0 rfl).1
      obtain ⟨w6, hw6⟩ : ∃ w6 : World, w6 = wr := ⟨_, rfl⟩
      rw [← hw6] at Ho16 Hrow6 Hb6 HoB HcB Hg3
      have Hw6 := Lib.hid hw6
      clear hrow6 hoB hcB hqB hg3B hg3 hw6 HF e0 Hrow5 Ho15 Ho25 Hb5
      go_wp2_with fail
      rw [← Hw6.out]
      clear Hw6
      go_loopw [16] (fun i wr => ∃ k : Nat, k ≤ n ∧ i = .int .i64 k ∧ Hid (FillI w2.heap.size (.slice (some ⟨g0, 0, none⟩) n cB) n w6 wr)) (fun i _ => n - (intOf i).toNat)
      case atStart => exact ⟨0, Nat.zero_le _, rfl, Lib.hid (FillI.start Hn.out.symm HoB.out)⟩
      case round =>
        obtain ⟨k, hk, rfl, HF⟩ := hrel
        have hkB : wr.cell? ⟨g3, 0, none⟩ = some (.slice (some ⟨g0, 0, none⟩) n cB) := by
          have h := HF.out.block g3 (Array.getElem?_eq_some_iff.1 Hg3.out.2).1 (fun e => row_ne (n := l.length) HoB.out Hg3.out.2 (by decide) e.symm)
          rw [← HcB.out]
          simp only [World.cell?, h]
        have hNLi : (0 : Int) < (NL : Int) := by omega
        by_cases hlt : k < n
        · obtain ⟨u, hc, hf⟩ := HF.out.cell k hlt
          have HF' := Lib.hid (HF.out.step k x)
          have h0 : (0 : Int) ≤ (k : Int) := by omega
          have h1 : (k : Int) < (n : Int) := by omega
          go_wp2_with fail
          exact ⟨⟨k + 1, by omega, by go_num, HF'⟩, by simp [intOf]; omega⟩
        · have hz := HZ.out
          have Ho17 := Lib.hid (HF.out.ownI Ho16.out (fun b hb e => by have h1 := Hblk1.out b e; have h2 : g0 = b := (by simpa [Value.ownBlock] using hb); omega))
          have hb7 := HF.out.below (D := w.heap.size) (by have := Hb6.out.size; omega) Hb6.out (fun b hb => by have h2 : g0 = b := (by simpa [Value.ownBlock] using hb); omega)
          have Hr7 := Lib.hid (Hr.out.up hb7)
          have Hb7 := Lib.hid hb7
          obtain ⟨w7, hw7⟩ : ∃ w7 : World, w7 = wr := ⟨_, rfl⟩
          have HF7 := HF
          rw [← hw7] at Ho17 Hr7 Hb7 HF7
          have Hw7 := Lib.hid hw7
          clear hb7 hw7 HF
          go_wp2_with fail
          rw [← Hw7.out]
          refine (sameInts_self a1 a c1 c n l w7 Hn.out.symm Ho17.out.reads Hr7.out (by unfold maxLen; omega)).mono ?_
          rintro e w8 ⟨rfl, q8, rfl⟩
          have hb78 := belowDrewN w7 q8
          have hs8 : Slc (w7.drewN q8) a c l := ⟨Hlc.out, Hr7.out.up hb78⟩
          have Hs8 := Lib.hid hs8
          have Hb78 := Lib.hid hb78
          clear hs8 hb78 hkB
          go_wp2_with fail
          refine (Hlv.out _ a c Hs8.out).mono ?_
          rintro e w9 ⟨M9, v9, rfl, hrow9, hb9⟩
          obtain ⟨a9, c9, hv9⟩ := hrow9.form
          rw [← HNL.out] at hv9
          subst hv9
          have Hrow9 := Lib.hid hrow9
          have Hb79 := Lib.hid (belowTrans Hb78.out hb9)
          clear hrow9 hb9 Hs8
          go_wp2_with fail
          go_loopw [20, 21] (fun t i wr => ∃ k q : Nat, 1 ≤ k ∧ t = .bool true ∧ i = .int .i64 k ∧ wr = w9.drewN q) (fun _ i _ => NL - (intOf i).toNat)
          case atStart => exact ⟨1, 0, Nat.le_refl _, by simp, rfl, rfl⟩
          case round =>
            obtain ⟨k, q9, hk1, rfl, rfl, rfl⟩ := hrel
            by_cases hlt : k < NL
            · obtain ⟨g5, aj, cj, e5, hcj, hrj⟩ := rows_at rfl Hrow6.out HF7.out (fun b hb => by have h2 : g0 = b := (by simpa [Value.ownBlock] using hb); omega) HoB.out hk1 (by rw [← HNL.out]; exact hlt)
              obtain ⟨g9, cur9, ha9, _, _, ak, ck, hck, hok, _⟩ := Hrow9.out.at (k := k) (by rw [← HNL.out]; exact hlt)
              subst ha9
              cases e5
              have kj := upc Hb79.out hcj
              have kk := hck
              have Hrj := Lib.hid (hrj.up Hb79.out)
              have Hrk := Lib.hid hok.reads
              have hml : ((levels 2 l).getD k []).length ≤ maxLen := by have h := levels_le 2 l k; rw [← Hn.out] at h; unfold maxLen; omega
              obtain ⟨m, hm⟩ : ∃ m, m = ((levels 2 l).getD k []).length := ⟨_, rfl⟩
              rw [← hm] at kj kk hml
              have HQ := Lib.hid (fun W (hW : Below w9.heap.size w9 W) => sameInts_self aj ak cj ck m ((levels 2 l).getD k []) W hm.symm (Hrj.out.up hW) (Hrk.out.up hW) hml)
              have d0 : (0 : Int) ≤ (k : Int) := by omega
              have d1 : (k : Int) < (NL : Int) := by omega
              clear hcj hrj hck hok hm hml
              go_wp2_with fail
              go_quiet ((go_at_call 9; exact quietB2 (HQ.out _ (belowDrewN _ _))))
              go_wp2_with fail
              go_roundw
              case rel => exact ⟨k + 1, q9 + nq, by omega, rfl, by go_num, rfl⟩
              case measure => simp [intOf]; omega
            · go_wp2_with fail
              go_ret
              exact ⟨rfl, (belowTrans Hb7.out (belowTrans Hb79.out (belowDrewN _ _)))⟩
set_option maxRecDepth 100000 in
set_option maxHeartbeats 4000000 in
theorem law_nil3 (a : Option Addr) (c : Nat) (x : Int) (w : World) (hna : a = none → c = 0) :
    Calls Try.prog 3 #[.int .i64 3, .slice a 0 c, .int .i64 x] w fun e w' => e = .returned (.bool true) ∧ Below w.heap.size w w' := by
  have Hcat := Lib.hid (cat_any a c [] w (by simp) (.inl rfl) hna)
  clear hna
  go_enter Try.func3, Try.ntmps3
  go_wp2_with fail
  refine Hcat.out.mono ?_
  rintro e w1 ⟨a1, c1, rfl, ho1, hb1⟩
  have Ho1 := Lib.hid ho1
  clear ho1
  go_wp2_with fail
  refine (Scan3 w1 a1 c1 [] (by simp) ⟨Nat.zero_le _, .inl rfl⟩).mono ?_
  rintro e w2 ⟨a2, c2, o2, rfl, _, _, hb2⟩
  go_wp2_with fail
  refine (Levels_nil3 _ _ _).mono ?_
  rintro e w3 ⟨rfl, hb3⟩
  go_wp2_with fail
  refine (fold53' _).mono ?_
  rintro e w4 ⟨rfl, hb4⟩
  have hb14 := belowTrans (belowTrans hb2 hb3) hb4
  have Hb4 := Lib.hid (belowTrans hb1 hb14)
  clear hb1 hb2 hb3 hb4 hb14
  go_wp2_with fail
  refine (sameInts_self a1 a c1 c 0 [] w4 rfl (.inl rfl) (.inl rfl) (by unfold maxLen; omega)).mono ?_
  rintro e w5 ⟨rfl, q, rfl⟩
  go_wp2_with fail
  go_ret
  exact ⟨rfl, belowTrans Hb4.out (belowDrewN _ _)⟩

set_option maxRecDepth 100000 in
set_option maxHeartbeats 8000000 in
theorem law3 (a : Option Addr) (c : Nat) (l : List Int) (x : Int) (w : World) (hlen : l.length * 8 ≤ 140737488351232) (hr : Reads w a l) (hna : a = none → c = 0) (hlc : l.length ≤ c) (h0 : 0 < l.length) :
    Calls Try.prog 3 #[.int .i64 3, .slice a l.length c, .int .i64 x] w fun e w' => e = .returned (.bool true) ∧ Below w.heap.size w w' := by
  have hcat := cat_any a c l w hlen hr hna
  obtain ⟨n, hnl⟩ : ∃ n, n = l.length := ⟨_, rfl⟩
  have hn8 : n ≤ 17592186043904 := by omega
  have hn0 : 0 < n := by omega
  have Hr := Lib.hid hr
  have Hlc := Lib.hid hlc
  have Hsc := Lib.hid (fun W a1 c1 (hs : Slc W a1 c1 l) => Scan3 W a1 c1 l (by omega) hs)
  have Hlv := Lib.hid (fun W a1 c1 (hs : Slc W a1 c1 l) => Levels3 W a1 c1 l h0 (by omega) hs)
  rw [← hnl] at hcat Hsc Hlv ⊢
  have Hn := Lib.hid hnl
  clear hr hna hlen hnl hlc h0
  go_enter Try.func3, Try.ntmps3
  go_wp2_with fail
  refine hcat.mono ?_
  rintro e w1 ⟨a1, c1, rfl, ho1, hb1⟩
  have hs1 := (OwnI.slc ho1).1
  rw [← Hn.out] at ho1 ⊢
  have Ho1 := Lib.hid ho1
  have Hs1 := Lib.hid hs1
  clear ho1 hs1 hcat
  go_wp2_with fail
  refine (Hsc.out w1 a1 c1 Hs1.out).mono ?_
  rintro e w2 ⟨a2, c2, o2, rfl, ho2, hl2, hb2⟩
  have Hblk2 : Hid (∀ b, (Value.slice a2 n c2).ownBlock = some b → w1.heap.size ≤ b ∧ b < w2.heap.size) := Lib.hid ho2.block
  have Hblk1 : Hid (∀ b, (Value.slice a1 n c1).ownBlock = some b → b < w1.heap.size) := Lib.hid (fun b hb => (Ho1.out.block b hb).2)
  have Ho2 := Lib.hid ho2
  have Hl2 := Lib.hid hl2
  clear ho2 hl2
  go_wp2_with fail
  refine (Hlv.out w2 a1 c1 (Hs1.out.up hb2)).mono ?_
  rintro e w3 ⟨M, v3, rfl, hrow, hb3⟩
  obtain ⟨a3, c3, hv3⟩ := hrow.form
  obtain ⟨NL, hNL⟩ : ∃ NL, NL = (levels 3 l).length := ⟨_, rfl⟩
  rw [← hNL] at hv3
  have hNL0 : 0 < NL := by rw [hNL]; simp [levels]
  have hNLb : NL ≤ 17592186043905 := by have h := lvF_len 3 l.length l; have h2 := Hn.out; rw [hNL, levels, List.length_cons]; omega
  subst hv3
  have Hrow := Lib.hid hrow
  have HNL := Lib.hid hNL
  clear hrow hNL
  go_wp2_with fail
  refine (fold53' _).mono ?_
  rintro e w4 ⟨rfl, hb4⟩
  have hb24 := belowTrans hb3 hb4
  have Ho14 := Lib.hid (Ho1.out.up (belowTrans hb2 hb24))
  have Ho24 := Lib.hid (Ho2.out.up hb24)
  have Hrow4 := Lib.hid (Hrow.out.up hb4)
  have Hb4 := Lib.hid (belowTrans (belowTrans hb1 hb2) hb24)
  have Hr4 := Lib.hid (Hr.out.up Hb4.out)
  have hz4 : w.heap.size ≤ w1.heap.size ∧ w1.heap.size ≤ w2.heap.size ∧ w2.heap.size ≤ w4.heap.size := ⟨hb1.size, hb2.size, hb24.size⟩
  have HZ := Lib.hid hz4
  clear hb1 hb2 hb3 hb4 hb24 hz4 Hsc Ho2 Hrow Hs1
  go_wp2_with fail
  refine (sameInts_self a1 a c1 c n l w4 Hn.out.symm Ho14.out.reads Hr4.out (by unfold maxLen; omega)).mono ?_
  rintro e w5 ⟨rfl, q, rfl⟩
  have hq4 := belowDrewN w4 q
  have Ho15 := Lib.hid (Ho14.out.up hq4)
  have Ho25 := Lib.hid (Ho24.out.up hq4)
  have Hrow5 := Lib.hid (Hrow4.out.up hq4)
  have Hb5 := Lib.hid (belowTrans Hb4.out hq4)
  obtain ⟨w5, hw5⟩ : ∃ w5, w5 = w4.drewN q := ⟨_, rfl⟩
  have hz5 : w4.heap.size ≤ w5.heap.size := by rw [hw5]; exact hq4.size
  rw [← hw5] at Ho15 Ho25 Hrow5 Hb5
  clear hq4 Ho14 Ho24 Hrow4 Hb4 Hr4
  have Hw5 := Lib.hid hw5
  clear hw5
  go_wp2_with fail
  rw [← Hw5.out]
  obtain ⟨g2, hg2⟩ : ∃ g, a2 = some ⟨g, 0, none⟩ := own_some Ho25.out (by rw [Hl2.out]; exact hn0)
  subst hg2
  go_loopw [15] (fun i wr => ∃ k : Nat, k ≤ n ∧ i = .int .i64 k ∧ Hid (FillI w1.heap.size (.slice (some ⟨g2, 0, none⟩) n c2) n w5 wr)) (fun i _ => n - (intOf i).toNat)
  case atStart => exact ⟨0, Nat.zero_le _, rfl, Lib.hid (FillI.start Hl2.out Ho25.out)⟩
  case round =>
    obtain ⟨k, hk, rfl, HF⟩ := hrel
    by_cases hlt : k < n
    · obtain ⟨u, hc, hf⟩ := HF.out.cell k hlt
      have HF' := Lib.hid (HF.out.step k x)
      have h0 : (0 : Int) ≤ (k : Int) := by omega
      have h1 : (k : Int) < (n : Int) := by omega
      go_wp2_with fail
      exact ⟨⟨k + 1, by omega, by go_num, HF'⟩, by simp [intOf]; omega⟩
    · have hz := HZ.out
      have Ho16 := Lib.hid (HF.out.ownI Ho15.out (fun b hb e => by have h1 := Hblk1.out b e; have h2 := (Hblk2.out b hb).1; omega))
      have hrow6 := RowLL.fill Hrow5.out HF.out (fun b hb => (Hblk2.out b hb).2)
      have Hb6 := Lib.hid (HF.out.below (D := w.heap.size) (by omega) Hb5.out (fun b hb => by have h := (Hblk2.out b hb).1; omega))
      obtain ⟨g3, cur3, ha3, hg3B, hg3, aB, cB, hcB, hoB, hqB⟩ := hrow6.at (k := 0) (by rw [← HNL.out]; exact hNL0)
      subst ha3
      have e0 : (levels 3 l).getD 0 [] = l := rfl
      rw [e0, ← Hn.out] at hcB hoB hqB
      obtain ⟨g0, hg0⟩ : ∃ g, aB = some ⟨g, 0, none⟩ := own_some hoB (by rw [← Hn.out]; exact hn0)
      subst hg0
      have Hrow6 := Lib.hid hrow6
      have HoB := Lib.hid hoB
      have HcB := Lib.hid hcB
      have Hg3 := Lib.hid (And.intro hg3B hg3)
      have hg0M : g0 < M := hqB g0 rfl
      have hg0B := (hoB.block g0 rfl).1
      obtain ⟨w6, hw6⟩ : ∃ w6 : World, w6 = wr := ⟨_, rfl⟩
      rw [← hw6] at Ho16 Hrow6 Hb6 HoB HcB Hg3
      have Hw6 := Lib.hid hw6
      clear hrow6 hoB hcB hqB hg3B hg3 hw6 HF e0 Hrow5 Ho15 Ho25 Hb5
      go_wp2_with fail
      rw [← Hw6.out]
      clear Hw6
      go_loopw [16] (fun i wr => ∃ k : Nat, k ≤ n ∧ i = .int .i64 k ∧ Hid (FillI w2.heap.size (.slice (some ⟨g0, 0, none⟩) n cB) n w6 wr)) (fun i _ => n - (intOf i).toNat)
      case atStart => exact ⟨0, Nat.zero_le _, rfl, Lib.hid (FillI.start Hn.out.symm HoB.out)⟩
      case round =>
        obtain ⟨k, hk, rfl, HF⟩ := hrel
        have hkB : wr.cell? ⟨g3, 0, none⟩ = some (.slice (some ⟨g0, 0, none⟩) n cB) := by
          have h := HF.out.block g3 (Array.getElem?_eq_some_iff.1 Hg3.out.2).1 (fun e => row_ne (n := l.length) HoB.out Hg3.out.2 (by decide) e.symm)
          rw [← HcB.out]
          simp only [World.cell?, h]
        have hNLi : (0 : Int) < (NL : Int) := by omega
        by_cases hlt : k < n
        · obtain ⟨u, hc, hf⟩ := HF.out.cell k hlt
          have HF' := Lib.hid (HF.out.step k x)
          have h0 : (0 : Int) ≤ (k : Int) := by omega
          have h1 : (k : Int) < (n : Int) := by omega
          go_wp2_with fail
          exact ⟨⟨k + 1, by omega, by go_num, HF'⟩, by simp [intOf]; omega⟩
        · have hz := HZ.out
          have Ho17 := Lib.hid (HF.out.ownI Ho16.out (fun b hb e => by have h1 := Hblk1.out b e; have h2 : g0 = b := (by simpa [Value.ownBlock] using hb); omega))
          have hb7 := HF.out.below (D := w.heap.size) (by have := Hb6.out.size; omega) Hb6.out (fun b hb => by have h2 : g0 = b := (by simpa [Value.ownBlock] using hb); omega)
          have Hr7 := Lib.hid (Hr.out.up hb7)
          have Hb7 := Lib.hid hb7
          obtain ⟨w7, hw7⟩ : ∃ w7 : World, w7 = wr := ⟨_, rfl⟩
          have HF7 := HF
          rw [← hw7] at Ho17 Hr7 Hb7 HF7
          have Hw7 := Lib.hid hw7
          clear hb7 hw7 HF
          go_wp2_with fail
          rw [← Hw7.out]
          refine (sameInts_self a1 a c1 c n l w7 Hn.out.symm Ho17.out.reads Hr7.out (by unfold maxLen; omega)).mono ?_
          rintro e w8 ⟨rfl, q8, rfl⟩
          have hb78 := belowDrewN w7 q8
          have hs8 : Slc (w7.drewN q8) a c l := ⟨Hlc.out, Hr7.out.up hb78⟩
          have Hs8 := Lib.hid hs8
          have Hb78 := Lib.hid hb78
          clear hs8 hb78 hkB
          go_wp2_with fail
          refine (Hlv.out _ a c Hs8.out).mono ?_
          rintro e w9 ⟨M9, v9, rfl, hrow9, hb9⟩
          obtain ⟨a9, c9, hv9⟩ := hrow9.form
          rw [← HNL.out] at hv9
          subst hv9
          have Hrow9 := Lib.hid hrow9
          have Hb79 := Lib.hid (belowTrans Hb78.out hb9)
          clear hrow9 hb9 Hs8
          go_wp2_with fail
          go_loopw [20, 21] (fun t i wr => ∃ k q : Nat, 1 ≤ k ∧ t = .bool true ∧ i = .int .i64 k ∧ wr = w9.drewN q) (fun _ i _ => NL - (intOf i).toNat)
          case atStart => exact ⟨1, 0, Nat.le_refl _, by simp, rfl, rfl⟩
          case round =>
            obtain ⟨k, q9, hk1, rfl, rfl, rfl⟩ := hrel
            by_cases hlt : k < NL
            · obtain ⟨g5, aj, cj, e5, hcj, hrj⟩ := rows_at rfl Hrow6.out HF7.out (fun b hb => by have h2 : g0 = b := (by simpa [Value.ownBlock] using hb); omega) HoB.out hk1 (by rw [← HNL.out]; exact hlt)
              obtain ⟨g9, cur9, ha9, _, _, ak, ck, hck, hok, _⟩ := Hrow9.out.at (k := k) (by rw [← HNL.out]; exact hlt)
              subst ha9
              cases e5
              have kj := upc Hb79.out hcj
              have kk := hck
              have Hrj := Lib.hid (hrj.up Hb79.out)
              have Hrk := Lib.hid hok.reads
              have hml : ((levels 3 l).getD k []).length ≤ maxLen := by have h := levels_le 3 l k; rw [← Hn.out] at h; unfold maxLen; omega
              obtain ⟨m, hm⟩ : ∃ m, m = ((levels 3 l).getD k []).length := ⟨_, rfl⟩
              rw [← hm] at kj kk hml
              have HQ := Lib.hid (fun W (hW : Below w9.heap.size w9 W) => sameInts_self aj ak cj ck m ((levels 3 l).getD k []) W hm.symm (Hrj.out.up hW) (Hrk.out.up hW) hml)
              have d0 : (0 : Int) ≤ (k : Int) := by omega
              have d1 : (k : Int) < (NL : Int) := by omega
              clear hcj hrj hck hok hm hml
              go_wp2_with fail
              go_quiet ((go_at_call 9; exact quietB2 (HQ.out _ (belowDrewN _ _))))
              go_wp2_with fail
              go_roundw
              case rel => exact ⟨k + 1, q9 + nq, by omega, rfl, by go_num, rfl⟩
              case measure => simp [intOf]; omega
            · go_wp2_with fail
              go_ret
              exact ⟨rfl, (belowTrans Hb7.out (belowTrans Hb79.out (belowDrewN _ _)))⟩
set_option maxRecDepth 100000 in
set_option maxHeartbeats 4000000 in
theorem law_nil4 (a : Option Addr) (c : Nat) (x : Int) (w : World) (hna : a = none → c = 0) :
    Calls Try.prog 3 #[.int .i64 4, .slice a 0 c, .int .i64 x] w fun e w' => e = .returned (.bool true) ∧ Below w.heap.size w w' := by
  have Hcat := Lib.hid (cat_any a c [] w (by simp) (.inl rfl) hna)
  clear hna
  go_enter Try.func3, Try.ntmps3
  go_wp2_with fail
  refine Hcat.out.mono ?_
  rintro e w1 ⟨a1, c1, rfl, ho1, hb1⟩
  have Ho1 := Lib.hid ho1
  clear ho1
  go_wp2_with fail
  refine (Scan4 w1 a1 c1 [] (by simp) ⟨Nat.zero_le _, .inl rfl⟩).mono ?_
  rintro e w2 ⟨a2, c2, o2, rfl, _, _, hb2⟩
  go_wp2_with fail
  refine (Levels_nil4 _ _ _).mono ?_
  rintro e w3 ⟨rfl, hb3⟩
  go_wp2_with fail
  refine (fold53' _).mono ?_
  rintro e w4 ⟨rfl, hb4⟩
  have hb14 := belowTrans (belowTrans hb2 hb3) hb4
  have Hb4 := Lib.hid (belowTrans hb1 hb14)
  clear hb1 hb2 hb3 hb4 hb14
  go_wp2_with fail
  refine (sameInts_self a1 a c1 c 0 [] w4 rfl (.inl rfl) (.inl rfl) (by unfold maxLen; omega)).mono ?_
  rintro e w5 ⟨rfl, q, rfl⟩
  go_wp2_with fail
  go_ret
  exact ⟨rfl, belowTrans Hb4.out (belowDrewN _ _)⟩

set_option maxRecDepth 100000 in
set_option maxHeartbeats 8000000 in
theorem law4 (a : Option Addr) (c : Nat) (l : List Int) (x : Int) (w : World) (hlen : l.length * 8 ≤ 140737488351232) (hr : Reads w a l) (hna : a = none → c = 0) (hlc : l.length ≤ c) (h0 : 0 < l.length) :
    Calls Try.prog 3 #[.int .i64 4, .slice a l.length c, .int .i64 x] w fun e w' => e = .returned (.bool true) ∧ Below w.heap.size w w' := by
  have hcat := cat_any a c l w hlen hr hna
  obtain ⟨n, hnl⟩ : ∃ n, n = l.length := ⟨_, rfl⟩
  have hn8 : n ≤ 17592186043904 := by omega
  have hn0 : 0 < n := by omega
  have Hr := Lib.hid hr
  have Hlc := Lib.hid hlc
  have Hsc := Lib.hid (fun W a1 c1 (hs : Slc W a1 c1 l) => Scan4 W a1 c1 l (by omega) hs)
  have Hlv := Lib.hid (fun W a1 c1 (hs : Slc W a1 c1 l) => Levels4 W a1 c1 l h0 (by omega) hs)
  rw [← hnl] at hcat Hsc Hlv ⊢
  have Hn := Lib.hid hnl
  clear hr hna hlen hnl hlc h0
  go_enter Try.func3, Try.ntmps3
  go_wp2_with fail
  refine hcat.mono ?_
  rintro e w1 ⟨a1, c1, rfl, ho1, hb1⟩
  have hs1 := (OwnI.slc ho1).1
  rw [← Hn.out] at ho1 ⊢
  have Ho1 := Lib.hid ho1
  have Hs1 := Lib.hid hs1
  clear ho1 hs1 hcat
  go_wp2_with fail
  refine (Hsc.out w1 a1 c1 Hs1.out).mono ?_
  rintro e w2 ⟨a2, c2, o2, rfl, ho2, hl2, hb2⟩
  have Hblk2 : Hid (∀ b, (Value.slice a2 n c2).ownBlock = some b → w1.heap.size ≤ b ∧ b < w2.heap.size) := Lib.hid ho2.block
  have Hblk1 : Hid (∀ b, (Value.slice a1 n c1).ownBlock = some b → b < w1.heap.size) := Lib.hid (fun b hb => (Ho1.out.block b hb).2)
  have Ho2 := Lib.hid ho2
  have Hl2 := Lib.hid hl2
  clear ho2 hl2
  go_wp2_with fail
  refine (Hlv.out w2 a1 c1 (Hs1.out.up hb2)).mono ?_
  rintro e w3 ⟨M, v3, rfl, hrow, hb3⟩
  obtain ⟨a3, c3, hv3⟩ := hrow.form
  obtain ⟨NL, hNL⟩ : ∃ NL, NL = (levels 4 l).length := ⟨_, rfl⟩
  rw [← hNL] at hv3
  have hNL0 : 0 < NL := by rw [hNL]; simp [levels]
  have hNLb : NL ≤ 17592186043905 := by have h := lvF_len 4 l.length l; have h2 := Hn.out; rw [hNL, levels, List.length_cons]; omega
  subst hv3
  have Hrow := Lib.hid hrow
  have HNL := Lib.hid hNL
  clear hrow hNL
  go_wp2_with fail
  refine (fold53' _).mono ?_
  rintro e w4 ⟨rfl, hb4⟩
  have hb24 := belowTrans hb3 hb4
  have Ho14 := Lib.hid (Ho1.out.up (belowTrans hb2 hb24))
  have Ho24 := Lib.hid (Ho2.out.up hb24)
  have Hrow4 := Lib.hid (Hrow.out.up hb4)
  have Hb4 := Lib.hid (belowTrans (belowTrans hb1 hb2) hb24)
  have Hr4 := Lib.hid (Hr.out.up Hb4.out)
  have hz4 : w.heap.size ≤ w1.heap.size ∧ w1.heap.size ≤ w2.heap.size ∧ w2.heap.size ≤ w4.heap.size := ⟨hb1.size, hb2.size, hb24.size⟩
  have HZ := Lib.hid hz4
  clear hb1 hb2 hb3 hb4 hb24 hz4 Hsc Ho2 Hrow Hs1
  go_wp2_with fail
  refine (sameInts_self a1 a c1 c n l w4 Hn.out.symm Ho14.out.reads Hr4.out (by unfold maxLen; omega)).mono ?_
  rintro e w5 ⟨rfl, q, rfl⟩
  have hq4 := belowDrewN w4 q
  have Ho15 := Lib.hid (Ho14.out.up hq4)
  have Ho25 := Lib.hid (Ho24.out.up hq4)
  have Hrow5 := Lib.hid (Hrow4.out.up hq4)
  have Hb5 := Lib.hid (belowTrans Hb4.out hq4)
  obtain ⟨w5, hw5⟩ : ∃ w5, w5 = w4.drewN q := ⟨_, rfl⟩
  have hz5 : w4.heap.size ≤ w5.heap.size := by rw [hw5]; exact hq4.size
  rw [← hw5] at Ho15 Ho25 Hrow5 Hb5
  clear hq4 Ho14 Ho24 Hrow4 Hb4 Hr4
  have Hw5 := Lib.hid hw5
  clear hw5
  go_wp2_with fail
  rw [← Hw5.out]
  obtain ⟨g2, hg2⟩ : ∃ g, a2 = some ⟨g, 0, none⟩ := own_some Ho25.out (by rw [Hl2.out]; exact hn0)
  subst hg2
  go_loopw [15] (fun i wr => ∃ k : Nat, k ≤ n ∧ i = .int .i64 k ∧ Hid (FillI w1.heap.size (.slice (some ⟨g2, 0, none⟩) n c2) n w5 wr)) (fun i _ => n - (intOf i).toNat)
  case atStart => exact ⟨0, Nat.zero_le _, rfl, Lib.hid (FillI.start Hl2.out Ho25.out)⟩
  case round =>
    obtain ⟨k, hk, rfl, HF⟩ := hrel
    by_cases hlt : k < n
    · obtain ⟨u, hc, hf⟩ := HF.out.cell k hlt
      have HF' := Lib.hid (HF.out.step k x)
      have h0 : (0 : Int) ≤ (k : Int) := by omega
      have h1 : (k : Int) < (n : Int) := by omega
      go_wp2_with fail
      exact ⟨⟨k + 1, by omega, by go_num, HF'⟩, by simp [intOf]; omega⟩
    · have hz := HZ.out
      have Ho16 := Lib.hid (HF.out.ownI Ho15.out (fun b hb e => by have h1 := Hblk1.out b e; have h2 := (Hblk2.out b hb).1; omega))
      have hrow6 := RowLL.fill Hrow5.out HF.out (fun b hb => (Hblk2.out b hb).2)
      have Hb6 := Lib.hid (HF.out.below (D := w.heap.size) (by omega) Hb5.out (fun b hb => by have h := (Hblk2.out b hb).1; omega))
      obtain ⟨g3, cur3, ha3, hg3B, hg3, aB, cB, hcB, hoB, hqB⟩ := hrow6.at (k := 0) (by rw [← HNL.out]; exact hNL0)
      subst ha3
      have e0 : (levels 4 l).getD 0 [] = l := rfl
      rw [e0, ← Hn.out] at hcB hoB hqB
      obtain ⟨g0, hg0⟩ : ∃ g, aB = some ⟨g, 0, none⟩ := own_some hoB (by rw [← Hn.out]; exact hn0)
      subst hg0
      have Hrow6 := Lib.hid hrow6
      have HoB := Lib.hid hoB
      have HcB := Lib.hid hcB
      have Hg3 := Lib.hid (And.intro hg3B hg3)
      have hg0M : g0 < M := hqB g0 rfl
      have hg0B := (hoB.block g0 rfl).1
      obtain ⟨w6, hw6⟩ : ∃ w6 : World, w6 = wr := ⟨_, rfl⟩
      rw [← hw6] at Ho16 Hrow6 Hb6 HoB HcB Hg3
      have Hw6 := Lib.hid hw6
      clear hrow6 hoB hcB hqB hg3B hg3 hw6 HF e0 Hrow5 Ho15 Ho25 Hb5
      go_wp2_with fail
      rw [← Hw6.out]
      clear Hw6
      go_loopw [16] (fun i wr => ∃ k : Nat, k ≤ n ∧ i = .int .i64 k ∧ Hid (FillI w2.heap.size (.slice (some ⟨g0, 0, none⟩) n cB) n w6 wr)) (fun i _ => n - (intOf i).toNat)
      case atStart => exact ⟨0, Nat.zero_le _, rfl, Lib.hid (FillI.start Hn.out.symm HoB.out)⟩
      case round =>
        obtain ⟨k, hk, rfl, HF⟩ := hrel
        have hkB : wr.cell? ⟨g3, 0, none⟩ = some (.slice (some ⟨g0, 0, none⟩) n cB) := by
          have h := HF.out.block g3 (Array.getElem?_eq_some_iff.1 Hg3.out.2).1 (fun e => row_ne (n := l.length) HoB.out Hg3.out.2 (by decide) e.symm)
          rw [← HcB.out]
          simp only [World.cell?, h]
        have hNLi : (0 : Int) < (NL : Int) := by omega
        by_cases hlt : k < n
        · obtain ⟨u, hc, hf⟩ := HF.out.cell k hlt
          have HF' := Lib.hid (HF.out.step k x)
          have h0 : (0 : Int) ≤ (k : Int) := by omega
          have h1 : (k : Int) < (n : Int) := by omega
          go_wp2_with fail
          exact ⟨⟨k + 1, by omega, by go_num, HF'⟩, by simp [intOf]; omega⟩
        · have hz := HZ.out
          have Ho17 := Lib.hid (HF.out.ownI Ho16.out (fun b hb e => by have h1 := Hblk1.out b e; have h2 : g0 = b := (by simpa [Value.ownBlock] using hb); omega))
          have hb7 := HF.out.below (D := w.heap.size) (by have := Hb6.out.size; omega) Hb6.out (fun b hb => by have h2 : g0 = b := (by simpa [Value.ownBlock] using hb); omega)
          have Hr7 := Lib.hid (Hr.out.up hb7)
          have Hb7 := Lib.hid hb7
          obtain ⟨w7, hw7⟩ : ∃ w7 : World, w7 = wr := ⟨_, rfl⟩
          have HF7 := HF
          rw [← hw7] at Ho17 Hr7 Hb7 HF7
          have Hw7 := Lib.hid hw7
          clear hb7 hw7 HF
          go_wp2_with fail
          rw [← Hw7.out]
          refine (sameInts_self a1 a c1 c n l w7 Hn.out.symm Ho17.out.reads Hr7.out (by unfold maxLen; omega)).mono ?_
          rintro e w8 ⟨rfl, q8, rfl⟩
          have hb78 := belowDrewN w7 q8
          have hs8 : Slc (w7.drewN q8) a c l := ⟨Hlc.out, Hr7.out.up hb78⟩
          have Hs8 := Lib.hid hs8
          have Hb78 := Lib.hid hb78
          clear hs8 hb78 hkB
          go_wp2_with fail
          refine (Hlv.out _ a c Hs8.out).mono ?_
          rintro e w9 ⟨M9, v9, rfl, hrow9, hb9⟩
          obtain ⟨a9, c9, hv9⟩ := hrow9.form
          rw [← HNL.out] at hv9
          subst hv9
          have Hrow9 := Lib.hid hrow9
          have Hb79 := Lib.hid (belowTrans Hb78.out hb9)
          clear hrow9 hb9 Hs8
          go_wp2_with fail
          go_loopw [20, 21] (fun t i wr => ∃ k q : Nat, 1 ≤ k ∧ t = .bool true ∧ i = .int .i64 k ∧ wr = w9.drewN q) (fun _ i _ => NL - (intOf i).toNat)
          case atStart => exact ⟨1, 0, Nat.le_refl _, by simp, rfl, rfl⟩
          case round =>
            obtain ⟨k, q9, hk1, rfl, rfl, rfl⟩ := hrel
            by_cases hlt : k < NL
            · obtain ⟨g5, aj, cj, e5, hcj, hrj⟩ := rows_at rfl Hrow6.out HF7.out (fun b hb => by have h2 : g0 = b := (by simpa [Value.ownBlock] using hb); omega) HoB.out hk1 (by rw [← HNL.out]; exact hlt)
              obtain ⟨g9, cur9, ha9, _, _, ak, ck, hck, hok, _⟩ := Hrow9.out.at (k := k) (by rw [← HNL.out]; exact hlt)
              subst ha9
              cases e5
              have kj := upc Hb79.out hcj
              have kk := hck
              have Hrj := Lib.hid (hrj.up Hb79.out)
              have Hrk := Lib.hid hok.reads
              have hml : ((levels 4 l).getD k []).length ≤ maxLen := by have h := levels_le 4 l k; rw [← Hn.out] at h; unfold maxLen; omega
              obtain ⟨m, hm⟩ : ∃ m, m = ((levels 4 l).getD k []).length := ⟨_, rfl⟩
              rw [← hm] at kj kk hml
              have HQ := Lib.hid (fun W (hW : Below w9.heap.size w9 W) => sameInts_self aj ak cj ck m ((levels 4 l).getD k []) W hm.symm (Hrj.out.up hW) (Hrk.out.up hW) hml)
              have d0 : (0 : Int) ≤ (k : Int) := by omega
              have d1 : (k : Int) < (NL : Int) := by omega
              clear hcj hrj hck hok hm hml
              go_wp2_with fail
              go_quiet ((go_at_call 9; exact quietB2 (HQ.out _ (belowDrewN _ _))))
              go_wp2_with fail
              go_roundw
              case rel => exact ⟨k + 1, q9 + nq, by omega, rfl, by go_num, rfl⟩
              case measure => simp [intOf]; omega
            · go_wp2_with fail
              go_ret
              exact ⟨rfl, (belowTrans Hb7.out (belowTrans Hb79.out (belowDrewN _ _)))⟩

theorem law (n : Int) (a : Option Addr) (c : Nat) (l : List Int) (x : Int) (w : World) (hlen : l.length * 8 ≤ 140737488351232) (hr : Reads w a l) (hna : a = none → c = 0) (hlc : l.length ≤ c) :
    Calls Try.prog 3 #[.int .i64 n, .slice a l.length c, .int .i64 x] w fun e w' => e = .returned (.bool true) ∧ Below w.heap.size w w' := by
  by_cases h0 : l = []
  · subst h0
    by_cases h1 : n = 1
    · subst h1; exact law_nil1 a c x w hna
    by_cases h2 : n = 2
    · subst h2; exact law_nil2 a c x w hna
    by_cases h3 : n = 3
    · subst h3; exact law_nil3 a c x w hna
    by_cases h4 : n = 4
    · subst h4; exact law_nil4 a c x w hna
    exact law_bad n a c [] x w hlen hr hna h1 h2 h3 h4
  · have hp : 0 < l.length := List.length_pos_iff.2 h0
    by_cases h1 : n = 1
    · subst h1; exact law1 a c l x w hlen hr hna hlc hp
    by_cases h2 : n = 2
    · subst h2; exact law2 a c l x w hlen hr hna hlc hp
    by_cases h3 : n = 3
    · subst h3; exact law3 a c l x w hlen hr hna hlc hp
    by_cases h4 : n = 4
    · subst h4; exact law4 a c l x w hlen hr hna hlc hp
    exact law_bad n a c l x w hlen hr hna h1 h2 h3 h4
end Go.Proofs.Ytnnpeblpdkeffaa.scan
