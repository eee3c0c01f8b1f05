/- Package table: New. (Printed by nw.py.) -/
import Derived.Test.YtnnpeblpdkeffaaDoorTabV
namespace Go.Proofs.YtnnpeblpdkeffaaDoor.table
open Go.RowKit Go

/-- the row 0, 1, .. grown so far -/
structure RV (w : World) (k : Nat) (ov : Value) (W : World) : Prop where
  own : W.ownsRow w.heap.size 3 1 ov k (intsV (List.range k))
  bel : Below w.heap.size w W
theorem KR.refl (n0 tb : Nat) (W : World) : KR n0 tb W W := ⟨Below.refl _ _, KeepT.refl _ _, fun _ y z e => ⟨y, z, e⟩⟩
theorem Ch.refl (W : World) : Ch none W W := ⟨Nat.le_refl _, fun _ _ _ => rfl⟩
theorem c1_of {tb : Nat} {v : Value} {W : World} (h : F1 tb v W) : W.cell? ⟨tb, 1, none⟩ = some v := by
  obtain ⟨x, z, e⟩ := h
  simp [World.cell?, e]
theorem c2_of {tb : Nat} {v : Value} {W : World} (h : F2 tb v W) : W.cell? ⟨tb, 2, none⟩ = some v := by
  obtain ⟨x, z, e⟩ := h
  simp [World.cell?, e]
theorem IN.start {n0 tb n : Nat} {L : List Int} {w : World} {k : Nat} {la : Option Addr} {lc : Nat} {vL vM : Value} {xL xM : List Value} {rows : List (List Nat)} {W : World} (h : BX n0 tb n L w k la lc vL vM xL xM rows W) (r : Nat) : IN n0 tb k vL vM xL xM r W.drew := by
  match r with
  | 0 => exact h.oL
  | 1 => exact h.oM
  | 2 => exact ⟨_, _, h.box⟩
  | 3 => exact ⟨_, _, h.box⟩
  | r + 4 => exact trivial
theorem hlo_of (ops : Array Oper) (hsz : ops.size = 22) (h18 : (ops[18]?).map (fun o => grow.depB o 8) = some true) (h21 : (ops[21]?).map (fun o => grow.depB o 15) = some true) : ∀ i j o, ops[i]? = some o → ldN i = j → j < ops.size → grow.depB o j = true := by
  intro i j o ho hj hlt
  subst hj
  rw [hsz] at hlt
  rcases ldN_of hlt with rfl | rfl
  · rw [ho] at h18
    exact Option.some.inj h18
  · rw [ho] at h21
    exact Option.some.inj h21
theorem hldst_of (ops : Array Oper) (hsz : ops.size = 22) (h18 : (ops[8]?).bind (·.dst) = some 44) (h21 : (ops[15]?).bind (·.dst) = some 51) : ∀ i, ldN i < ops.size → ∃ d, (ops[ldN i]?).bind (·.dst) = some d := by
  intro i hlt
  rw [hsz] at hlt
  rcases ldN_of hlt with rfl | rfl
  · exact ⟨_, h18⟩
  · exact ⟨_, h21⟩
set_option maxRecDepth 100000 in
set_option maxHeartbeats 1000000 in
theorem New_big (w : World) (a : Option Addr) (c n : Nat) (hbig : 5000 < n) :
    Calls Tryd.prog 5 #[.slice a n c] w fun e w' => e = .returned (.tuple #[.pointer none, er.errV 4]) ∧ Below w.heap.size w w' := by
  have h0 : (5000 : Int) < (n : Int) := by omega
  go_enter Tryd.func5, Tryd.ntmps5
  go_wp2_with fail
  exact bodyPost_ret (v := .tuple #[.pointer none, .iface 34 (.int .i64 4)]) (by simp [results, Tryd.results5, go_sem]) rfl ⟨rfl, Below.refl _ _⟩
set_option maxRecDepth 100000 in
set_option maxHeartbeats 8000000 in
theorem New_any (w : World) (a : Option Addr) (c n : Nat) (L : List Int) (hn : n = L.length) (hsm : n ≤ 5000) (hr : Reads w a L) (hnone : a = none → c = 0) :
    Calls Tryd.prog 5 #[.slice a n c] w (RetT w n L) := by
  have hcl := cloneI.clone_any w a c L hr hnone (by omega)
  rw [← hn] at hcl
  have Hc := Lib.hid hcl
  have HL := Lib.hid hn
  have h0 : ¬ ((5000 : Int) < (n : Int)) := by omega
  obtain ⟨i0, hi, hz0, hz1, hz2⟩ := info_parts infoInt
  have Hi := Lib.hid (And.intro hi (And.intro hz0 (And.intro hz1 hz2)))
  clear hi hz0 hz1 hz2
  obtain ⟨i1, hi, hz0, hz1, hz2⟩ := info_parts infoRow
  have Hj := Lib.hid (And.intro hi (And.intro hz0 (And.intro hz1 hz2)))
  clear hcl hr hnone hn hi hz0 hz1 hz2
  go_enter Tryd.func5, Tryd.ntmps5
  go_wp2_with fail
  refine Hc.out.mono ?_
  rintro e w1 ⟨la, lc, rfl, hol, hb1⟩
  rw [← HL.out]
  have H1 := Lib.hid (And.intro hol hb1)
  obtain ⟨wB, hwB⟩ : ∃ V, V = w1.alloc (.cells #[.slice la n lc, .slice none 0 0, .slice none 0 0] 38) := ⟨_, rfl⟩
  have HB : Hid (Below w1.heap.size w1 wB ∧ wB.heap[w1.heap.size]? = some (.cells #[.slice la n lc, .slice none 0 0, .slice none 0 0] 38 (0, 0))) := Lib.hid ⟨by rw [hwB]; exact belowAlloc _ _, by rw [hwB]; exact heap_alloc_new _ _⟩
  have HwB := Lib.hid hwB
  clear hol hb1 Hc hwB
  go_wp2_with fail
  rw [← HwB.out]
  have HV0 : Hid (RV wB 0 (.slice none 0 0) wB) := Lib.hid ⟨World.ownsRow_nil _ _ _ _, Below.refl _ _⟩
  go_loopw [5, 6, 20] (fun ov _ iv wr => ∃ (k : Nat) (ow : Value), k ≤ n ∧ iv = .int .i64 k ∧ ow = ov ∧ Hid (RV wB k ow wr)) (fun _ _ iv _ => n - (intOf iv).toNat)
  case atStart => exact ⟨0, _, Nat.zero_le _, rfl, rfl, HV0⟩
  case round =>
    obtain ⟨k, ow, hk, rfl, rfl, HQ⟩ := hrel
    obtain ⟨oa, oc, rfl⟩ := row_form HQ.out.own
    have Ho := Lib.hid HQ.out.own
    have hsq := HQ.out.bel.size
    clear HV0
    by_cases hlt : k < n
    · have k0 : (0 : Int) ≤ (k : Int) := by omega
      have k1 : (k : Int) < (n : Int) := by omega
      go_wp2_with (at_builtin; obtain ⟨hi, hz0, hz1, hz2⟩ := Hi.out; refine wpList_append_own _ rfl (.tmp 23) (.tmp 25) 22 rfl wB.heap.size 3 i0 (.int .i64 0) 1 8 Tryd.underlying22 hi hz0 hz1 hz2 rfl (by decide) (.slice oa k oc) _ _ rfl (Ho.out.alloc _) ⟨wr.heap.size, 0, none⟩ 1 1 [.int .i64 (k : Int)] rfl rfl ?c1 ?c2 ?c3 ?c4 ?c5 ?_)
      case c1 => exact World.news_of_block (cs := #[.int .i64 (k : Int)]) (t := 3) (fr := (0, 0)) (heap_alloc_new _ _)
      case c2 => simp [Value.oneCell']
      case c3 => unfold maxLen; omega
      case c4 => omega
      case c5 => simp; omega
      intro v' w9 hown9 hgrow9 _
      obtain ⟨g3, cap3, rfl⟩ := ownsRow_succ hown9
      have HN : Hid (RV wB (k + 1) (.slice (some ⟨g3, 0, none⟩) (k + 1) cap3) w9) := by
        refine Lib.hid ⟨?_, Below.grown (belowTrans HQ.out.bel (belowAlloc _ _)) hgrow9 (by simp; omega) (fun b hb => (World.ownsRow.lt Ho.out b hb).1)⟩
        unfold intsV
        rw [List.range_succ, ofN_append, List.map_append]
        exact hown9
      clear hown9 hgrow9 Ho
      go_wp2_with fail
      exact ⟨⟨k + 1, _, hlt, by go_num, rfl, HN⟩, by simp [intOf]; omega⟩
    · obtain rfl : n = k := by omega
      have HW0 : Hid (BX w.heap.size w1.heap.size n L w 0 la lc (.slice none 0 0) (.slice none 0 0) [] [] [] wr ∧ LW w.heap.size n n oa oc (List.range n) wr) := by
        have hs1 := H1.out.2.size
        have hb2 := H1.out.2.trans ((HB.out.1.trans (HQ.out.bel.mono HB.out.1.size)).mono hs1)
        have hb3 : Below w1.heap.size w1 wr := HB.out.1.trans (HQ.out.bel.mono HB.out.1.size)
        refine Lib.hid ⟨⟨hb2, hs1, upb HQ.out.bel HB.out.2, (by have h := H1.out.1.up hb3; rw [← HL.out] at h; exact h), World.ownsRow_nil _ _ _ _, World.ownsRow_nil _ _ _ _, (fun g hg => by cases hg), ⟨rfl, fun j row hj => by simp at hj⟩, rfl, fun j row hj => by simp at hj⟩, by simp, ownsRow_lower Ho.out (by have := HB.out.1.size; omega), fun x hx => List.mem_range.1 hx⟩
      clear Ho HQ hsq
      go_wp2_with fail
      go_loopw [7, 8, 9] (fun lv mv pv wr => ∃ (k P q : Nat) (va vb : Option Addr) (vc vd : Nat), lv = .slice va q vc ∧ mv = .slice vb q vd ∧ pv = .int .i64 P ∧ Hid (P = 2 ^ k ∧ (∀ j, j < k → 2 ^ j ≤ n) ∧ q = n + 1 - P) ∧ (∃ (vL vM : Value) (xL xM : List Value) (rows : List (List Nat)) (rl rm : List Nat), Hid (BX w.heap.size w1.heap.size n L w k la lc vL vM xL xM rows wr ∧ LW w.heap.size n q va vc rl wr ∧ LW w.heap.size n q vb vd rm wr))) (fun _ _ pv _ => n + 1 - (intOf pv).toNat)
      case atStart => exact ⟨0, 1, n, oa, oa, oc, oc, rfl, rfl, rfl, Lib.hid ⟨rfl, fun j hj => by omega, by omega⟩, _, _, _, _, _, _, _, Lib.hid ⟨HW0.out.1, HW0.out.2, HW0.out.2⟩⟩
      case round =>
        obtain ⟨k, P, q, va, vb, vc, vd, rfl, rfl, rfl, HP, vL, vM, xL, xM, rows, rl, rm, HS⟩ := hrel
        clear HW0
        by_cases hlt : P ≤ n
        · have HF := Lib.hid HS.out.1.fx
          have t1 : (P : Int) ≤ (n : Int) := by omega
          have hn0 : w.heap.size ≤ wr.heap.size := HS.out.1.bel.size
          have hk5 : k ≤ 5000 := by
            rcases Nat.eq_zero_or_pos k with h | h
            · omega
            · have h1 := HP.out.2.1 (k - 1) (by omega)
              have h2 := @Nat.lt_two_pow_self (k - 1)
              omega
          go_wp2_with fail
          refine grow.wp_grow_link (KR w.heap.size w1.heap.size) KR.trans KR.drew (RsN w.heap.size w1.heap.size vL vM) (fun _ _ _ h => h.1) [] (IN w.heap.size w1.heap.size k vL vM xL xM) ciN (IN.mono HF.out) ?hI0 8 15 PrN (by decide) rfl (LkN w1.heap.size) ldN ldN_ne (LkN.mono HF.out) (hlo_of _ (by kernel_rfl) (by kernel_rfl) (by kernel_rfl)) (hldst_of _ (by kernel_rfl) (by kernel_rfl) (by kernel_rfl)) [grow.rEq (.pointer (some ⟨w1.heap.size, 0, none⟩)), grow.rEq (.pointer (some ⟨w1.heap.size, 0, none⟩)), grow.rEq (.pointer (some ⟨w1.heap.size, 0, none⟩)), grow.rEq (.pointer (some ⟨w1.heap.size, 0, none⟩)), grow.rEq (.pointer (some ⟨w1.heap.size, 1, none⟩)), grow.rEq (vL), grow.rEq (.slice va q vc), kLit wr.heap.size (.slice va q vc), kApp w.heap.size wr.heap.size (k + 1) vL (xL ++ [.slice va q vc]), grow.rEq (.pointer (some ⟨w1.heap.size, 0, none⟩)), grow.rEq (.pointer (some ⟨w1.heap.size, 0, none⟩)), grow.rEq (.pointer (some ⟨w1.heap.size, 2, none⟩)), grow.rEq (vM), grow.rEq (.slice vb q vd), kLit wr.heap.size (.slice vb q vd), kApp w.heap.size wr.heap.size (k + 1) vM (xM ++ [.slice vb q vd]), grow.rEq (.pointer (some ⟨w1.heap.size, 0, none⟩)), grow.rEq (.pointer (some ⟨w1.heap.size, 1, none⟩)), grow.rAny, grow.rEq (.pointer (some ⟨w1.heap.size, 0, none⟩)), grow.rEq (.pointer (some ⟨w1.heap.size, 2, none⟩)), grow.rAny] (by kernel_rfl) (by kernel_rfl) (by kernel_rfl) (by kernel_rfl) ?mono ?step ?fin
          case hI0 => exact IN.start HS.out.1
          case mono =>
            intro i v W W2 ⟨j, hji, _, hR⟩
            match i with
            | 0 => exact fun h => h
            | 1 => exact fun h => h
            | 2 => exact fun h => h
            | 3 => exact fun h => h
            | 4 => exact fun h => h
            | 5 => exact fun h => h
            | 6 => exact fun h => h
            | 7 => exact fun h => kLit.kept HF.out hR h
            | 8 => exact fun h => kApp.keptL HF.out hji hR h
            | 9 => exact fun h => h
            | 10 => exact fun h => h
            | 11 => exact fun h => h
            | 12 => exact fun h => h
            | 13 => exact fun h => h
            | 14 => exact fun h => kLit.kept HF.out hR h
            | 15 => exact fun h => kApp.keptM HF.out hji hR h
            | 16 => exact fun h => h
            | 17 => exact fun h => h
            | 18 => exact fun h => h
            | 19 => exact fun h => h
            | 20 => exact fun h => h
            | 21 => exact fun h => h
            | i + 22 => exact fun h => h
          case step =>
            refine grow.EachK.cons ?_ ?_
            · intro A W hB hs hJ hI K hK
              have s0 := hs 4 (by kernel_rfl)
              simp at s0
              rw [if_pos (by rfl)]
              clear hs hJ
              go_simp
              exact hK _ _ ⟨KR.refl _ _ _, Ch.refl _⟩ rfl (fun h => absurd h (by decide)) (fun h => absurd h (by decide)) (fun _ _ => trivial)
            refine grow.EachK.cons ?_ ?_
            · intro A W hB hs hJ hI K hK
              have s0 := hs 4 (by kernel_rfl)
              simp at s0
              rw [if_pos (by rfl)]
              clear hs hJ
              go_simp
              exact hK _ _ ⟨KR.refl _ _ _, Ch.refl _⟩ rfl (fun h => absurd h (by decide)) (fun h => absurd h (by decide)) (fun _ _ => trivial)
            refine grow.EachK.cons ?_ ?_
            · intro A W hB hs hJ hI K hK
              have s0 := hs 4 (by kernel_rfl)
              simp at s0
              rw [if_pos (by rfl)]
              clear hs hJ
              go_simp
              exact hK _ _ ⟨KR.refl _ _ _, Ch.refl _⟩ rfl (fun h => absurd h (by decide)) (fun h => absurd h (by decide)) (fun _ _ => trivial)
            refine grow.EachK.cons ?_ ?_
            · intro A W hB hs hJ hI K hK
              have s0 : A.tmps.getD 38 undef = .pointer (some ⟨w1.heap.size, 0, none⟩) := hJ 2 38 (by kernel_rfl) (by kernel_rfl)
              simp at s0
              rw [if_pos (by rfl)]
              clear hs hJ
              go_simp
              exact hK _ _ ⟨KR.refl _ _ _, Ch.refl _⟩ rfl (fun h => absurd h (by decide)) (fun h => absurd h (by decide)) (fun _ _ => trivial)
            refine grow.EachK.cons ?_ ?_
            · intro A W hB hs hJ hI K hK
              have s0 : A.tmps.getD 39 undef = .pointer (some ⟨w1.heap.size, 0, none⟩) := hJ 3 39 (by kernel_rfl) (by kernel_rfl)
              simp at s0
              rw [if_pos (by rfl)]
              clear hs hJ
              go_simp
              exact hK _ _ ⟨KR.refl _ _ _, Ch.refl _⟩ rfl (fun h => absurd h (by decide)) (fun h => absurd h (by decide)) (fun _ _ => trivial)
            refine grow.EachK.cons ?_ ?_
            · intro A W hB hs hJ hI K hK
              have s0 : A.tmps.getD 40 undef = .pointer (some ⟨w1.heap.size, 1, none⟩) := hJ 4 40 (by kernel_rfl) (by kernel_rfl)
              simp at s0
              have kk := c1_of (show F1 _ _ _ from hI 2 30 (by kernel_rfl))
              rw [if_pos (by rfl)]
              clear hs hJ
              go_simp
              exact hK _ _ ⟨KR.refl _ _ _, Ch.refl _⟩ rfl (fun h => absurd h (by decide)) (fun h => absurd h (by decide)) (fun _ _ => trivial)
            refine grow.EachK.cons ?_ ?_
            · intro A W hB hs hJ hI K hK
              have s0 := hs 7 (by kernel_rfl)
              simp at s0
              rw [if_pos (by rfl)]
              clear hs hJ
              go_simp
              exact hK _ _ ⟨KR.refl _ _ _, Ch.refl _⟩ rfl (fun h => absurd h (by decide)) (fun h => absurd h (by decide)) (fun _ _ => trivial)
            refine grow.EachK.cons ?_ ?_
            · intro A W hB hs hJ hI K hK
              have s0 : A.tmps.getD 42 undef = .slice va q vc := hJ 6 42 (by kernel_rfl) (by kernel_rfl)
              simp at s0
              rw [if_pos (by rfl)]
              clear hs hJ
              go_simp
              exact hK _ _ ⟨KR.of (belowAlloc _ _) (Nat.le_trans hn0 hB.1.size), Ch.of (belowAlloc _ _)⟩ ⟨_, rfl, hB.1.size, heap_alloc_new _ _⟩ (fun h => absurd h (by decide)) (fun h => absurd h (by decide)) (fun _ _ => trivial)
            refine grow.EachK.cons ?_ ?_
            · intro A W hB hs hJ hI K hK
              have s0 : A.tmps.getD 41 undef = vL := hJ 5 41 (by kernel_rfl) (by kernel_rfl)
              simp at s0
              obtain ⟨g, s1, hg, hc⟩ := hJ 7 43 (by kernel_rfl) (by kernel_rfl)
              simp at s1
              rw [if_pos (by rfl)]
              clear hs hJ
              obtain ⟨hi, hz0, hz1, hz2⟩ := Hj.out
              have hoL : W.ownsRow w.heap.size 22 1 vL k xL := hI 0 30 (by kernel_rfl)
              have hszW := hB.1.size
              refine wp_append_lies W (.tmp 41) (.tmp 43) 36 rfl w.heap.size 22 i1 (.slice none 0 0) 1 24 Tryd.underlying36 hi hz0 hz1 hz2 rfl (by decide) vL k xL (by show A.tmps.getD 41 undef = _; simpa using s0) hoL ⟨g, 0, none⟩ 1 1 [.slice va q vc] (by show A.tmps.getD 43 undef = _; simpa using s1) rfl (World.news_of_block hc) (by simp [Value.oneCell']) (by decide) (by unfold maxLen; omega) (by omega) (by omega) W.heap.size rfl ?_
              intro g2 cap2 w2 hown2 hgrow2 hat2 hlt2
              exact hK _ _ ⟨KR.grown hoL hgrow2 (by omega) (fun g hg => (HF.out.hL g hg).1), Ch.grown hgrow2⟩ ⟨g2, cap2, rfl, hown2, hat2.imp id (fun e => by omega)⟩ (fun _ u hu => PrN.ofL HF.out (show kApp w.heap.size wr.heap.size (k + 1) vM (xM ++ [.slice vb q vd]) u W from hu) hat2) (fun h => absurd h (by decide)) (fun _ _ => trivial)
            refine grow.EachK.cons ?_ ?_
            · intro A W hB hs hJ hI K hK
              have s0 := hs 4 (by kernel_rfl)
              simp at s0
              rw [if_pos (by rfl)]
              clear hs hJ
              go_simp
              exact hK _ _ ⟨KR.refl _ _ _, Ch.refl _⟩ rfl (fun h => absurd h (by decide)) (fun h => absurd h (by decide)) (fun _ _ => trivial)
            refine grow.EachK.cons ?_ ?_
            · intro A W hB hs hJ hI K hK
              have s0 : A.tmps.getD 45 undef = .pointer (some ⟨w1.heap.size, 0, none⟩) := hJ 9 45 (by kernel_rfl) (by kernel_rfl)
              simp at s0
              rw [if_pos (by rfl)]
              clear hs hJ
              go_simp
              exact hK _ _ ⟨KR.refl _ _ _, Ch.refl _⟩ rfl (fun h => absurd h (by decide)) (fun h => absurd h (by decide)) (fun _ _ => trivial)
            refine grow.EachK.cons ?_ ?_
            · intro A W hB hs hJ hI K hK
              have s0 : A.tmps.getD 46 undef = .pointer (some ⟨w1.heap.size, 0, none⟩) := hJ 10 46 (by kernel_rfl) (by kernel_rfl)
              simp at s0
              rw [if_pos (by rfl)]
              clear hs hJ
              go_simp
              exact hK _ _ ⟨KR.refl _ _ _, Ch.refl _⟩ rfl (fun h => absurd h (by decide)) (fun h => absurd h (by decide)) (fun _ _ => trivial)
            refine grow.EachK.cons ?_ ?_
            · intro A W hB hs hJ hI K hK
              have s0 : A.tmps.getD 47 undef = .pointer (some ⟨w1.heap.size, 2, none⟩) := hJ 11 47 (by kernel_rfl) (by kernel_rfl)
              simp at s0
              have kk := c2_of (show F2 _ _ _ from hI 3 30 (by kernel_rfl))
              rw [if_pos (by rfl)]
              clear hs hJ
              go_simp
              exact hK _ _ ⟨KR.refl _ _ _, Ch.refl _⟩ rfl (fun h => absurd h (by decide)) (fun h => absurd h (by decide)) (fun _ _ => trivial)
            refine grow.EachK.cons ?_ ?_
            · intro A W hB hs hJ hI K hK
              have s0 := hs 8 (by kernel_rfl)
              simp at s0
              rw [if_pos (by rfl)]
              clear hs hJ
              go_simp
              exact hK _ _ ⟨KR.refl _ _ _, Ch.refl _⟩ rfl (fun h => absurd h (by decide)) (fun h => absurd h (by decide)) (fun _ _ => trivial)
            refine grow.EachK.cons ?_ ?_
            · intro A W hB hs hJ hI K hK
              have s0 : A.tmps.getD 49 undef = .slice vb q vd := hJ 13 49 (by kernel_rfl) (by kernel_rfl)
              simp at s0
              rw [if_pos (by rfl)]
              clear hs hJ
              go_simp
              exact hK _ _ ⟨KR.of (belowAlloc _ _) (Nat.le_trans hn0 hB.1.size), Ch.of (belowAlloc _ _)⟩ ⟨_, rfl, hB.1.size, heap_alloc_new _ _⟩ (fun h => absurd h (by decide)) (fun h => absurd h (by decide)) (fun _ _ => trivial)
            refine grow.EachK.cons ?_ ?_
            · intro A W hB hs hJ hI K hK
              have s0 : A.tmps.getD 48 undef = vM := hJ 12 48 (by kernel_rfl) (by kernel_rfl)
              simp at s0
              obtain ⟨g, s1, hg, hc⟩ := hJ 14 50 (by kernel_rfl) (by kernel_rfl)
              simp at s1
              rw [if_pos (by rfl)]
              clear hs hJ
              obtain ⟨hi, hz0, hz1, hz2⟩ := Hj.out
              have hoL : W.ownsRow w.heap.size 22 1 vM k xM := hI 1 30 (by kernel_rfl)
              have hszW := hB.1.size
              refine wp_append_lies W (.tmp 48) (.tmp 50) 36 rfl w.heap.size 22 i1 (.slice none 0 0) 1 24 Tryd.underlying36 hi hz0 hz1 hz2 rfl (by decide) vM k xM (by show A.tmps.getD 48 undef = _; simpa using s0) hoL ⟨g, 0, none⟩ 1 1 [.slice vb q vd] (by show A.tmps.getD 50 undef = _; simpa using s1) rfl (World.news_of_block hc) (by simp [Value.oneCell']) (by decide) (by unfold maxLen; omega) (by omega) (by omega) W.heap.size rfl ?_
              intro g2 cap2 w2 hown2 hgrow2 hat2 hlt2
              exact hK _ _ ⟨KR.grown hoL hgrow2 (by omega) (fun g hg => (HF.out.hM g hg).1), Ch.grown hgrow2⟩ ⟨g2, cap2, rfl, hown2, hat2.imp id (fun e => by omega)⟩ (fun h => absurd h (by decide)) (fun _ u hu => PrN.ofM HF.out (show kApp w.heap.size wr.heap.size (k + 1) vL (xL ++ [.slice va q vc]) u W from hu) hat2) (fun _ _ => trivial)
            refine grow.EachK.cons ?_ ?_
            · intro A W hB hs hJ hI K hK
              have s0 : A.tmps.getD 36 undef = .pointer (some ⟨w1.heap.size, 0, none⟩) := hJ 0 36 (by kernel_rfl) (by kernel_rfl)
              simp at s0
              rw [if_pos (by rfl)]
              clear hs hJ
              go_simp
              exact hK _ _ ⟨KR.refl _ _ _, Ch.refl _⟩ rfl (fun h => absurd h (by decide)) (fun h => absurd h (by decide)) (fun _ _ => trivial)
            refine grow.EachK.cons ?_ ?_
            · intro A W hB hs hJ hI K hK
              have s0 : A.tmps.getD 52 undef = .pointer (some ⟨w1.heap.size, 0, none⟩) := hJ 16 52 (by kernel_rfl) (by kernel_rfl)
              simp at s0
              rw [if_pos (by rfl)]
              clear hs hJ
              go_simp
              exact hK _ _ ⟨KR.refl _ _ _, Ch.refl _⟩ rfl (fun h => absurd h (by decide)) (fun h => absurd h (by decide)) (fun _ _ => trivial)
            refine grow.EachK.cons ?_ ?_
            · intro A W hB hs hJ hI K hK
              have s0 : A.tmps.getD 53 undef = .pointer (some ⟨w1.heap.size, 1, none⟩) := hJ 17 53 (by kernel_rfl) (by kernel_rfl)
              simp at s0
              obtain ⟨g, cap, s1, ho, hgg⟩ := hJ 8 44 (by kernel_rfl) (by kernel_rfl)
              simp at s1
              obtain ⟨x, z, hb⟩ := show F1 _ _ _ from hI 2 30 (by kernel_rfl)
              have k0 := c1_of ⟨x, z, hb⟩
              have f0 : W.frozen? ⟨w1.heap.size, 1, none⟩ = false := by simp [World.frozen?, hb]
              rw [if_pos (by rfl)]
              clear hs hJ
              go_simp
              exact hK undef _ ⟨KR.set1 _ hb HF.out.hn, ⟨_, rfl⟩⟩ trivial (fun h => absurd h (by decide)) (fun h => absurd h (by decide)) (fun d hd => by have e : some d = some 44 := hd.symm.trans (by kernel_rfl); cases e; exact ⟨_, _, by rw [show A.tmps.getD 44 undef = _ from by simpa using s1]; exact set1 hb⟩) 
            refine grow.EachK.cons ?_ ?_
            · intro A W hB hs hJ hI K hK
              have s0 : A.tmps.getD 37 undef = .pointer (some ⟨w1.heap.size, 0, none⟩) := hJ 1 37 (by kernel_rfl) (by kernel_rfl)
              simp at s0
              rw [if_pos (by rfl)]
              clear hs hJ
              go_simp
              exact hK _ _ ⟨KR.refl _ _ _, Ch.refl _⟩ rfl (fun h => absurd h (by decide)) (fun h => absurd h (by decide)) (fun _ _ => trivial)
            refine grow.EachK.cons ?_ ?_
            · intro A W hB hs hJ hI K hK
              have s0 : A.tmps.getD 54 undef = .pointer (some ⟨w1.heap.size, 0, none⟩) := hJ 19 54 (by kernel_rfl) (by kernel_rfl)
              simp at s0
              rw [if_pos (by rfl)]
              clear hs hJ
              go_simp
              exact hK _ _ ⟨KR.refl _ _ _, Ch.refl _⟩ rfl (fun h => absurd h (by decide)) (fun h => absurd h (by decide)) (fun _ _ => trivial)
            refine grow.EachK.cons ?_ ?_
            · intro A W hB hs hJ hI K hK
              have s0 : A.tmps.getD 55 undef = .pointer (some ⟨w1.heap.size, 2, none⟩) := hJ 20 55 (by kernel_rfl) (by kernel_rfl)
              simp at s0
              obtain ⟨g, cap, s1, ho, hgg⟩ := hJ 15 51 (by kernel_rfl) (by kernel_rfl)
              simp at s1
              obtain ⟨x, z, hb⟩ := show F2 _ _ _ from hI 3 30 (by kernel_rfl)
              have k0 := c2_of ⟨x, z, hb⟩
              have f0 : W.frozen? ⟨w1.heap.size, 2, none⟩ = false := by simp [World.frozen?, hb]
              rw [if_pos (by rfl)]
              clear hs hJ
              go_simp
              exact hK undef _ ⟨KR.set2 _ hb HF.out.hn, ⟨_, rfl⟩⟩ trivial (fun h => absurd h (by decide)) (fun h => absurd h (by decide)) (fun d hd => by have e : some d = some 51 := hd.symm.trans (by kernel_rfl); cases e; exact ⟨_, _, by rw [show A.tmps.getD 51 undef = _ from by simpa using s1]; exact set2 hb⟩) 
            exact grow.EachK.nil
          case fin =>
            intro f W hB hF hP hL
            have HBX0 : Hid (BX w.heap.size w1.heap.size n L w (k + 1) la lc (f 8) (f 15) (xL ++ [.slice va q vc]) (xM ++ [.slice vb q vd]) (rows ++ [rl]) W ∧ LW w.heap.size n q va vc rl W ∧ LW w.heap.size n q vb vd rm W) := Lib.hid ⟨BX.step HS.out.1 HS.out.2.1 (by rw [HP.out.2.2, HP.out.1]) hB (hF 8 (by decide) rfl) (hF 15 (by decide) rfl) (hP (by decide) (by decide)) (hL 18 (by decide) (by decide)) (hL 21 (by decide) (by decide)), HS.out.2.1.kr hB, HS.out.2.2.kr hB⟩
            clear hP hL
            have f0 : f 0 = .pointer (some ⟨w1.heap.size, 0, none⟩) := hF 0 (by decide) rfl
            have f1 : f 1 = .pointer (some ⟨w1.heap.size, 0, none⟩) := hF 1 (by decide) rfl
            have f2 : f 2 = .pointer (some ⟨w1.heap.size, 0, none⟩) := hF 2 (by decide) rfl
            have f3 : f 3 = .pointer (some ⟨w1.heap.size, 0, none⟩) := hF 3 (by decide) rfl
            have f4 : f 4 = .pointer (some ⟨w1.heap.size, 1, none⟩) := hF 4 (by decide) rfl
            have f5 : f 5 = vL := hF 5 (by decide) rfl
            have f6 : f 6 = .slice va q vc := hF 6 (by decide) rfl
            obtain ⟨g_7, f7, -, -⟩ := hF 7 (by decide) rfl
            obtain ⟨g_8, cap_8, f8, -, -⟩ := hF 8 (by decide) rfl
            have f9 : f 9 = .pointer (some ⟨w1.heap.size, 0, none⟩) := hF 9 (by decide) rfl
            have f10 : f 10 = .pointer (some ⟨w1.heap.size, 0, none⟩) := hF 10 (by decide) rfl
            have f11 : f 11 = .pointer (some ⟨w1.heap.size, 2, none⟩) := hF 11 (by decide) rfl
            have f12 : f 12 = vM := hF 12 (by decide) rfl
            have f13 : f 13 = .slice vb q vd := hF 13 (by decide) rfl
            obtain ⟨g_14, f14, -, -⟩ := hF 14 (by decide) rfl
            obtain ⟨g_15, cap_15, f15, -, -⟩ := hF 15 (by decide) rfl
            have f16 : f 16 = .pointer (some ⟨w1.heap.size, 0, none⟩) := hF 16 (by decide) rfl
            have f17 : f 17 = .pointer (some ⟨w1.heap.size, 1, none⟩) := hF 17 (by decide) rfl
            have hst18 := hF 18 (by decide) rfl
            have f19 : f 19 = .pointer (some ⟨w1.heap.size, 0, none⟩) := hF 19 (by decide) rfl
            have f20 : f 20 = .pointer (some ⟨w1.heap.size, 2, none⟩) := hF 20 (by decide) rfl
            have hst21 := hF 21 (by decide) rfl
            clear hF
            intro A hA
            simp only [List.length_cons, List.length_nil, Nat.reduceAdd, grow.puts, Act.put, List.getElem?_toArray, List.getElem?_cons_zero, List.getElem?_cons_succ, Option.bind_some, List.setIfInBounds_toArray, List.set_cons_zero, List.set_cons_succ, f0, f1, f2, f3, f4, f5, f6, f7, f8, f9, f10, f11, f12, f13, f14, f15, f16, f17, f19, f20] at hA
            subst hA
            have HBX : Hid (BX w.heap.size w1.heap.size n L w (k + 1) la lc (.slice (some ⟨g_8, 0, none⟩) (k + 1) cap_8) (.slice (some ⟨g_15, 0, none⟩) (k + 1) cap_15) (xL ++ [.slice va q vc]) (xM ++ [.slice vb q vd]) (rows ++ [rl]) W ∧ LW w.heap.size n q va vc rl W ∧ LW w.heap.size n q vb vd rm W) := by
              rw [f8, f15] at HBX0
              exact HBX0
            have hszW := hB.1.size
            have hbn := HBX.out.1.bel.size
            have hq : q ≤ n := by have := HP.out.2.2; have := HP.out.1; have := @Nat.two_pow_pos k; omega
            have HNl := Lib.hid (next_low w.heap.size w1.heap.size n P q L rl W va vc (HBX.out.1.tl HL.out) HBX.out.2.1.len.symm HBX.out.2.1.reads HBX.out.2.1.lt (by omega) (by omega))
            clear HBX0 hB
            go_wp2_with fail
            refine HNl.out.mono ?_
            rintro e W2 ⟨va2, vc2, rl2, rfl, hl2, ho2, hx2, hb2⟩
            have HBY : Hid (BX w.heap.size w1.heap.size n L w (k + 1) la lc (.slice (some ⟨g_8, 0, none⟩) (k + 1) cap_8) (.slice (some ⟨g_15, 0, none⟩) (k + 1) cap_15) (xL ++ [.slice va q vc]) (xM ++ [.slice vb q vd]) (rows ++ [rl]) W2 ∧ LW w.heap.size n (q - P) va2 vc2 rl2 W2 ∧ LW w.heap.size n q vb vd rm W2) := Lib.hid ⟨HBX.out.1.up hb2 hbn, ⟨hl2, ownsRow_lower ho2 hbn, hx2⟩, HBX.out.2.2.up hb2⟩
            have hbn2 := HBY.out.1.bel.size
            have HNh := Lib.hid (next_high w.heap.size w1.heap.size n P q L rm W2 vb vd (HBY.out.1.tl HL.out) HBY.out.2.2.len.symm HBY.out.2.2.reads HBY.out.2.2.lt (by omega) (by omega))
            clear hl2 ho2 hx2 hb2 HNl HBX
            go_wp2_with fail
            refine HNh.out.mono ?_
            rintro e W3 ⟨vb2, vd2, rm2, rfl, hl3, ho3, hx3, hb3⟩
            have HBZ : Hid (BX w.heap.size w1.heap.size n L w (k + 1) la lc (.slice (some ⟨g_8, 0, none⟩) (k + 1) cap_8) (.slice (some ⟨g_15, 0, none⟩) (k + 1) cap_15) (xL ++ [.slice va q vc]) (xM ++ [.slice vb q vd]) (rows ++ [rl]) W3 ∧ LW w.heap.size n (q - P) va2 vc2 rl2 W3 ∧ LW w.heap.size n (q - P) vb2 vd2 rm2 W3) := Lib.hid ⟨HBY.out.1.up hb3 hbn2, HBY.out.2.1.up hb3, ⟨hl3, ownsRow_lower ho3 hbn2, hx3⟩⟩
            have HP2 : Hid (2 * P = 2 ^ (k + 1) ∧ (∀ j, j < k + 1 → 2 ^ j ≤ n) ∧ q - P = n + 1 - 2 * P) := Lib.hid ⟨by rw [HP.out.1, Nat.pow_succ, Nat.mul_comm], fun j hj => by
              by_cases h : j = k
              · subst h; rw [← HP.out.1]; exact hlt
              · exact HP.out.2.1 j (by omega), by have := HP.out.2.2; omega⟩
            have hP0 : 1 ≤ P := by rw [HP.out.1]; exact Nat.one_le_two_pow
            clear hl3 ho3 hx3 hb3 HNh HBY
            go_wp2_with fail
            go_roundw
            case rel => exact ⟨k + 1, 2 * P, q - P, va2, vb2, vc2, vd2, rfl, rfl, by go_num, HP2, _, _, _, _, _, _, _, HBZ⟩
            case measure => simp [intOf]; omega
        · have t1 : ¬ ((P : Int) ≤ (n : Int)) := by omega
          have hd : decide ((P : Int) ≤ (n : Int)) = false := decide_eq_false t1
          have HE : Hid (RetT w n L (.returned (.tuple #[.pointer (some ⟨w1.heap.size, 0, none⟩), .nilIface])) wr) := Lib.hid (BX.done HS.out.1 HL.out rfl (by rw [← HP.out.1]; omega) HP.out.2.1)
          clear HS HP
          go_wp2_with fail
          exact bodyPost_ret (v := .tuple #[.pointer (some ⟨w1.heap.size, 0, none⟩), .nilIface]) (by simp [results, Tryd.results5, go_sem]) rfl HE.out
end Go.Proofs.YtnnpeblpdkeffaaDoor.table
