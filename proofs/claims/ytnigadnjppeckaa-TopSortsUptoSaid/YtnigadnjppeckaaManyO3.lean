/- Package finger, many things (ord): link, split. (Printed by mm.py.) -/
import Derived.Test.YtnigadnjppeckaaManyO2
namespace Go.Proofs.Ytnigadnjppeckaa.manyO
open Go.RowKit

set_option maxRecDepth 100000 in
set_option maxHeartbeats 4000000 in
theorem link_0 (B : Nat) (w : World) (pl : Option Addr) (l : BT V) (prl : Option Addr) (rl : BT V) (prr : Option Addr) (rr : BT V) (br : Nat) (xr : V) (v : V) (hB : B ≤ w.heap.size) (hl : In B w pl l) (hrl : In B w prl rl) (hrr : In B w prr rr) (hbr : w.heap[br]? = some (.cells (cs xr rl rr ++ [Value.pointer prl, Value.pointer prr]).toArray 142 (0, 0))) (hr : In B w (some ⟨br, 0, none⟩) (BT.node xr rl rr)) (hs : l.size + rl.size + rr.size ≤ 1152921504606840000) (hvA : heavyB (BT.node xr rl rr) l = true) (n : Nat) (hn : l.size + rl.size + rr.size ≤ n) (link_any : ∀ (B : Nat) (w : World) (pl : Option Addr) (l : BT V) (v : V) (pr : Option Addr) (r : BT V), B ≤ w.heap.size → In B w pl l → In B w pr r → l.size + r.size ≤ n ∧ l.size + r.size ≤ 1152921504606840000 → Calls Try.prog 110 #[.pointer pl, .int .i64 v, .pointer pr] w (Ret B w (Is (l.inorder ++ v :: r.inorder) (l.size + 1 + r.size)))) :
    Calls Try.prog 110 #[.pointer pl, .int .i64 v, .pointer (some ⟨br, 0, none⟩)] w (Ret B w (Is (BT.inorder l ++ v :: BT.inorder (BT.node xr rl rr)) (BT.size l + 1 + BT.size (BT.node xr rl rr)))) := by
  have hb0 := Below.refl w.heap.size w
  have Hl := Lib.hid (hl.up hb0)
  have hzl : BT.size l ≤ 1152921504606846976 := by (try simp only [BT.size]); omega
  have Hrl := Lib.hid (hrl.up hb0)
  have hzrl : BT.size rl ≤ 1152921504606846976 := by (try simp only [BT.size]); omega
  have Hrr := Lib.hid (hrr.up hb0)
  have hzrr : BT.size rr ≤ 1152921504606846976 := by (try simp only [BT.size]); omega
  have Hr := Lib.hid (hr.up hb0)
  have kxr0 := upc hb0 (cv0 hbr)
  have klr := upc hb0 (cl hbr)
  have krr := upc hb0 (cr hbr)
  have hzr : BT.size (BT.node xr rl rr) ≤ 1152921504606846976 := by (try simp only [BT.size]); omega
  have HB := Lib.hid (szle hb0 hB)
  have Hb := Lib.hid hb0
  clear hb0 hB hl hrl hrr hr hbr
  have EA := Lib.hid hvA
  clear hvA
  go_enter Try.func110, Try.ntmps110
  go_wp2_with fail
  refine (heavy_val Hr.out Hl.out hzr hzl EA.out).mono ?_
  rintro e w' ⟨rfl, rfl⟩
  go_wp2_with fail
  refine grow.wp_grow [grow.kEq (.pointer pl), grow.kEq (.int .i64 v), grow.kEq (.pointer (some ⟨br, 0, none⟩)), grow.kEq (.pointer (some ⟨br, 0, none⟩)), grow.kEq (.pointer (some ⟨br, 4, none⟩)), grow.kEq (.pointer prl), kT B (Is (BT.inorder l ++ v :: BT.inorder rl) (BT.size l + 1 + BT.size rl)), grow.kEq (.pointer (some ⟨br, 0, none⟩)), grow.kEq (.pointer (some ⟨br, 0, none⟩)), grow.kEq (.pointer (some ⟨br, 0, none⟩)), grow.kEq (.int .i64 xr), grow.kEq (.pointer (some ⟨br, 0, none⟩)), grow.kEq (.pointer (some ⟨br, 0, none⟩)), grow.kEq (.pointer (some ⟨br, 5, none⟩)), grow.kEq (.pointer prr), kT B (Is ((BT.inorder l ++ v :: BT.inorder rl) ++ xr :: BT.inorder rr) ((BT.size l + 1 + BT.size rl) + 1 + BT.size rr)), kT B (Is ((BT.inorder l ++ v :: BT.inorder rl) ++ xr :: BT.inorder rr) ((BT.size l + 1 + BT.size rl) + 1 + BT.size rr))] (by kernel_rfl) (by kernel_rfl) (by kernel_rfl) (by kernel_rfl) ?step ?fin
  case step =>
    refine grow.Each.cons ?_ ?_
    · intro A W hB hs hJ K hK
      have s0 := hs 0 (by kernel_rfl)
      simp at s0
      rw [if_pos (by rfl)]
      clear hs hJ
      go_simp
      exact hK _ _ (Below.refl _ _) rfl
    refine grow.Each.cons ?_ ?_
    · intro A W hB hs hJ K hK
      have s0 := hs 1 (by kernel_rfl)
      simp at s0
      rw [if_pos (by rfl)]
      clear hs hJ
      go_simp
      exact hK _ _ (Below.refl _ _) rfl
    refine grow.Each.cons ?_ ?_
    · intro A W hB hs hJ K hK
      have s0 := hs 2 (by kernel_rfl)
      simp at s0
      rw [if_pos (by rfl)]
      clear hs hJ
      go_simp
      exact hK _ _ (Below.refl _ _) rfl
    refine grow.Each.cons ?_ ?_
    · intro A W hB hs hJ K hK
      have s0 : A.tmps.getD 13 undef = .pointer (some ⟨br, 0, none⟩) := hJ 2 13 (by kernel_rfl) (by kernel_rfl)
      simp at s0
      rw [if_pos (by rfl)]
      clear hs hJ
      go_simp
      exact hK _ _ (Below.refl _ _) rfl
    refine grow.Each.cons ?_ ?_
    · intro A W hB hs hJ K hK
      have s0 : A.tmps.getD 14 undef = .pointer (some ⟨br, 0, none⟩) := hJ 3 14 (by kernel_rfl) (by kernel_rfl)
      simp at s0
      rw [if_pos (by rfl)]
      clear hs hJ
      go_simp
      exact hK _ _ (Below.refl _ _) rfl
    refine grow.Each.cons ?_ ?_
    · intro A W hB hs hJ K hK
      have s0 : A.tmps.getD 15 undef = .pointer (some ⟨br, 4, none⟩) := hJ 4 15 (by kernel_rfl) (by kernel_rfl)
      simp at s0
      have kk := upc hB klr
      rw [if_pos (by rfl)]
      clear hs hJ
      go_simp
      exact hK _ _ (Below.refl _ _) rfl
    refine grow.Each.cons ?_ ?_
    · intro A W hB hs hJ K hK
      have s0 : A.tmps.getD 11 undef = .pointer pl := hJ 0 11 (by kernel_rfl) (by kernel_rfl)
      simp at s0
      have s1 : A.tmps.getD 12 undef = .int .i64 v := hJ 1 12 (by kernel_rfl) (by kernel_rfl)
      simp at s1
      have s2 : A.tmps.getD 16 undef = .pointer prl := hJ 5 16 (by kernel_rfl) (by kernel_rfl)
      simp at s2
      rw [if_pos (by rfl)]
      clear hs hJ
      go_simp
      go_at_call 110
      refine (link_any B W pl l v prl rl (szle hB HB.out) (Hl.out.up hB) (Hrl.out.up hB) (by (try simp only [BT.size]); omega)).mono ?_
      rintro e W2 ⟨q17, t17, rfl, i17, j17, hbn⟩
      exact hK _ _ hbn ⟨q17, t17, rfl, i17.of rfl rfl, j17⟩
    refine grow.Each.cons ?_ ?_
    · intro A W hB hs hJ K hK
      have s0 := hs 2 (by kernel_rfl)
      simp at s0
      rw [if_pos (by rfl)]
      clear hs hJ
      go_simp
      exact hK _ _ (Below.refl _ _) rfl
    refine grow.Each.cons ?_ ?_
    · intro A W hB hs hJ K hK
      have s0 : A.tmps.getD 18 undef = .pointer (some ⟨br, 0, none⟩) := hJ 7 18 (by kernel_rfl) (by kernel_rfl)
      simp at s0
      rw [if_pos (by rfl)]
      clear hs hJ
      go_simp
      exact hK _ _ (Below.refl _ _) rfl
    refine grow.Each.cons ?_ ?_
    · intro A W hB hs hJ K hK
      have s0 : A.tmps.getD 19 undef = .pointer (some ⟨br, 0, none⟩) := hJ 8 19 (by kernel_rfl) (by kernel_rfl)
      simp at s0
      rw [if_pos (by rfl)]
      clear hs hJ
      go_simp
      exact hK _ _ (Below.refl _ _) rfl
    refine grow.Each.cons ?_ ?_
    · intro A W hB hs hJ K hK
      have s0 : A.tmps.getD 20 undef = .pointer (some ⟨br, 0, none⟩) := hJ 9 20 (by kernel_rfl) (by kernel_rfl)
      simp at s0
      have kk0 := upc hB kxr0
      rw [if_pos (by rfl)]
      clear hs hJ
      go_simp
      exact hK _ _ (Below.refl _ _) rfl
    refine grow.Each.cons ?_ ?_
    · intro A W hB hs hJ K hK
      have s0 := hs 2 (by kernel_rfl)
      simp at s0
      rw [if_pos (by rfl)]
      clear hs hJ
      go_simp
      exact hK _ _ (Below.refl _ _) rfl
    refine grow.Each.cons ?_ ?_
    · intro A W hB hs hJ K hK
      have s0 : A.tmps.getD 22 undef = .pointer (some ⟨br, 0, none⟩) := hJ 11 22 (by kernel_rfl) (by kernel_rfl)
      simp at s0
      rw [if_pos (by rfl)]
      clear hs hJ
      go_simp
      exact hK _ _ (Below.refl _ _) rfl
    refine grow.Each.cons ?_ ?_
    · intro A W hB hs hJ K hK
      have s0 : A.tmps.getD 23 undef = .pointer (some ⟨br, 0, none⟩) := hJ 12 23 (by kernel_rfl) (by kernel_rfl)
      simp at s0
      rw [if_pos (by rfl)]
      clear hs hJ
      go_simp
      exact hK _ _ (Below.refl _ _) rfl
    refine grow.Each.cons ?_ ?_
    · intro A W hB hs hJ K hK
      have s0 : A.tmps.getD 24 undef = .pointer (some ⟨br, 5, none⟩) := hJ 13 24 (by kernel_rfl) (by kernel_rfl)
      simp at s0
      have kk := upc hB krr
      rw [if_pos (by rfl)]
      clear hs hJ
      go_simp
      exact hK _ _ (Below.refl _ _) rfl
    refine grow.Each.cons ?_ ?_
    · intro A W hB hs hJ K hK
      obtain ⟨q17, t17, s0, i17, j17⟩ := hJ 6 17 (by kernel_rfl) (by kernel_rfl)
      simp at s0
      have s1 : A.tmps.getD 21 undef = .int .i64 xr := hJ 10 21 (by kernel_rfl) (by kernel_rfl)
      simp at s1
      have s2 : A.tmps.getD 25 undef = .pointer prr := hJ 14 25 (by kernel_rfl) (by kernel_rfl)
      simp at s2
      rw [if_pos (by rfl)]
      clear hs hJ
      go_simp
      go_at_call 129
      refine (even_any B W q17 t17 xr prr rr (szle hB HB.out) j17 (Hrr.out.up hB) (by have e17 := i17.2; (try simp only [BT.size]); omega)).mono ?_
      rintro e W2 ⟨q26, t26, rfl, i26, j26, hbn⟩
      exact hK _ _ hbn ⟨q26, t26, rfl, i26.of (by rw [i17.1]) (by rw [i17.2]), j26⟩
    refine grow.Each.cons ?_ ?_
    · intro A W hB hs hJ K hK
      obtain ⟨q26, t26, s0, i26, j26⟩ := hJ 15 26 (by kernel_rfl) (by kernel_rfl)
      simp at s0
      rw [if_pos (by rfl)]
      clear hs hJ
      go_simp
      exact hK _ _ (Below.refl _ _) ⟨q26, t26, rfl, i26, j26⟩
    exact grow.Each.nil
  case fin =>
    intro f W hB hF
    have f0 : f 0 = .pointer pl := hF 0 (by decide)
    have f1 : f 1 = .int .i64 v := hF 1 (by decide)
    have f2 : f 2 = .pointer (some ⟨br, 0, none⟩) := hF 2 (by decide)
    have f3 : f 3 = .pointer (some ⟨br, 0, none⟩) := hF 3 (by decide)
    have f4 : f 4 = .pointer (some ⟨br, 4, none⟩) := hF 4 (by decide)
    have f5 : f 5 = .pointer prl := hF 5 (by decide)
    obtain ⟨q17_6, t17_6, f6, i17_6, j17_6⟩ := hF 6 (by decide)
    have f7 : f 7 = .pointer (some ⟨br, 0, none⟩) := hF 7 (by decide)
    have f8 : f 8 = .pointer (some ⟨br, 0, none⟩) := hF 8 (by decide)
    have f9 : f 9 = .pointer (some ⟨br, 0, none⟩) := hF 9 (by decide)
    have f10 : f 10 = .int .i64 xr := hF 10 (by decide)
    have f11 : f 11 = .pointer (some ⟨br, 0, none⟩) := hF 11 (by decide)
    have f12 : f 12 = .pointer (some ⟨br, 0, none⟩) := hF 12 (by decide)
    have f13 : f 13 = .pointer (some ⟨br, 5, none⟩) := hF 13 (by decide)
    have f14 : f 14 = .pointer prr := hF 14 (by decide)
    obtain ⟨q26_15, t26_15, f15, i26_15, j26_15⟩ := hF 15 (by decide)
    obtain ⟨q26_16, t26_16, f16, i26_16, j26_16⟩ := hF 16 (by decide)
    clear hF
    generalize hA : grow.puts _ _ f _ = A'
    simp only [List.length_cons, List.length_nil, Nat.reduceAdd, grow.puts, Act.put, List.getElem?_toArray, List.getElem?_cons_zero, List.getElem?_cons_succ, Option.bind_some, List.setIfInBounds_toArray, List.set_cons_zero, List.set_cons_succ, f0, f1, f2, f3, f4, f5, f6, f7, f8, f9, f10, f11, f12, f13, f14, f15, f16] at hA
    subst hA
    go_wp2_with fail
    go_ret
    exact RetQ.mk (i26_16.of (by simp [BT.inorder]) (by simp only [BT.size]; omega)) j26_16 (belowTrans Hb.out hB)

set_option maxRecDepth 100000 in
set_option maxHeartbeats 4000000 in
theorem link_1 (B : Nat) (w : World) (pr : Option Addr) (r : BT V) (pll : Option Addr) (ll : BT V) (plr : Option Addr) (lr : BT V) (bl : Nat) (xl : V) (v : V) (hB : B ≤ w.heap.size) (hr : In B w pr r) (hll : In B w pll ll) (hlr : In B w plr lr) (hbl : w.heap[bl]? = some (.cells (cs xl ll lr ++ [Value.pointer pll, Value.pointer plr]).toArray 142 (0, 0))) (hl : In B w (some ⟨bl, 0, none⟩) (BT.node xl ll lr)) (hs : r.size + ll.size + lr.size ≤ 1152921504606840000) (hvA : heavyB r (BT.node xl ll lr) = false) (hvC : heavyB (BT.node xl ll lr) r = true) (n : Nat) (hn : r.size + ll.size + lr.size ≤ n) (link_any : ∀ (B : Nat) (w : World) (pl : Option Addr) (l : BT V) (v : V) (pr : Option Addr) (r : BT V), B ≤ w.heap.size → In B w pl l → In B w pr r → l.size + r.size ≤ n ∧ l.size + r.size ≤ 1152921504606840000 → Calls Try.prog 110 #[.pointer pl, .int .i64 v, .pointer pr] w (Ret B w (Is (l.inorder ++ v :: r.inorder) (l.size + 1 + r.size)))) :
    Calls Try.prog 110 #[.pointer (some ⟨bl, 0, none⟩), .int .i64 v, .pointer pr] w (Ret B w (Is (BT.inorder (BT.node xl ll lr) ++ v :: BT.inorder r) (BT.size (BT.node xl ll lr) + 1 + BT.size r))) := by
  have hb0 := Below.refl w.heap.size w
  have Hr := Lib.hid (hr.up hb0)
  have hzr : BT.size r ≤ 1152921504606846976 := by (try simp only [BT.size]); omega
  have Hll := Lib.hid (hll.up hb0)
  have hzll : BT.size ll ≤ 1152921504606846976 := by (try simp only [BT.size]); omega
  have Hlr := Lib.hid (hlr.up hb0)
  have hzlr : BT.size lr ≤ 1152921504606846976 := by (try simp only [BT.size]); omega
  have Hl := Lib.hid (hl.up hb0)
  have kxl0 := upc hb0 (cv0 hbl)
  have kll := upc hb0 (cl hbl)
  have krl := upc hb0 (cr hbl)
  have hzl : BT.size (BT.node xl ll lr) ≤ 1152921504606846976 := by (try simp only [BT.size]); omega
  have HB := Lib.hid (szle hb0 hB)
  have Hb := Lib.hid hb0
  clear hb0 hB hr hll hlr hl hbl
  have EA := Lib.hid hvA
  clear hvA
  have EC := Lib.hid hvC
  clear hvC
  go_enter Try.func110, Try.ntmps110
  go_wp2_with fail
  refine (heavy_val Hr.out Hl.out hzr hzl EA.out).mono ?_
  rintro e w' ⟨rfl, rfl⟩
  go_wp2_with fail
  refine (heavy_val Hl.out Hr.out hzl hzr EC.out).mono ?_
  rintro e w' ⟨rfl, rfl⟩
  go_wp2_with fail
  refine grow.wp_grow [grow.kEq (.pointer (some ⟨bl, 0, none⟩)), grow.kEq (.pointer (some ⟨bl, 0, none⟩)), grow.kEq (.pointer (some ⟨bl, 4, none⟩)), grow.kEq (.pointer pll), grow.kEq (.pointer (some ⟨bl, 0, none⟩)), grow.kEq (.pointer (some ⟨bl, 0, none⟩)), grow.kEq (.pointer (some ⟨bl, 0, none⟩)), grow.kEq (.int .i64 xl), grow.kEq (.pointer (some ⟨bl, 0, none⟩)), grow.kEq (.pointer (some ⟨bl, 0, none⟩)), grow.kEq (.pointer (some ⟨bl, 5, none⟩)), grow.kEq (.pointer plr), grow.kEq (.int .i64 v), grow.kEq (.pointer pr), kT B (Is (BT.inorder lr ++ v :: BT.inorder r) (BT.size lr + 1 + BT.size r)), kT B (Is (BT.inorder ll ++ xl :: (BT.inorder lr ++ v :: BT.inorder r)) (BT.size ll + 1 + (BT.size lr + 1 + BT.size r))), kT B (Is (BT.inorder ll ++ xl :: (BT.inorder lr ++ v :: BT.inorder r)) (BT.size ll + 1 + (BT.size lr + 1 + BT.size r)))] (by kernel_rfl) (by kernel_rfl) (by kernel_rfl) (by kernel_rfl) ?step ?fin
  case step =>
    refine grow.Each.cons ?_ ?_
    · intro A W hB hs hJ K hK
      have s0 := hs 0 (by kernel_rfl)
      simp at s0
      rw [if_pos (by rfl)]
      clear hs hJ
      go_simp
      exact hK _ _ (Below.refl _ _) rfl
    refine grow.Each.cons ?_ ?_
    · intro A W hB hs hJ K hK
      have s0 : A.tmps.getD 31 undef = .pointer (some ⟨bl, 0, none⟩) := hJ 0 31 (by kernel_rfl) (by kernel_rfl)
      simp at s0
      rw [if_pos (by rfl)]
      clear hs hJ
      go_simp
      exact hK _ _ (Below.refl _ _) rfl
    refine grow.Each.cons ?_ ?_
    · intro A W hB hs hJ K hK
      have s0 : A.tmps.getD 32 undef = .pointer (some ⟨bl, 0, none⟩) := hJ 1 32 (by kernel_rfl) (by kernel_rfl)
      simp at s0
      rw [if_pos (by rfl)]
      clear hs hJ
      go_simp
      exact hK _ _ (Below.refl _ _) rfl
    refine grow.Each.cons ?_ ?_
    · intro A W hB hs hJ K hK
      have s0 : A.tmps.getD 33 undef = .pointer (some ⟨bl, 4, none⟩) := hJ 2 33 (by kernel_rfl) (by kernel_rfl)
      simp at s0
      have kk := upc hB kll
      rw [if_pos (by rfl)]
      clear hs hJ
      go_simp
      exact hK _ _ (Below.refl _ _) rfl
    refine grow.Each.cons ?_ ?_
    · intro A W hB hs hJ K hK
      have s0 := hs 0 (by kernel_rfl)
      simp at s0
      rw [if_pos (by rfl)]
      clear hs hJ
      go_simp
      exact hK _ _ (Below.refl _ _) rfl
    refine grow.Each.cons ?_ ?_
    · intro A W hB hs hJ K hK
      have s0 : A.tmps.getD 35 undef = .pointer (some ⟨bl, 0, none⟩) := hJ 4 35 (by kernel_rfl) (by kernel_rfl)
      simp at s0
      rw [if_pos (by rfl)]
      clear hs hJ
      go_simp
      exact hK _ _ (Below.refl _ _) rfl
    refine grow.Each.cons ?_ ?_
    · intro A W hB hs hJ K hK
      have s0 : A.tmps.getD 36 undef = .pointer (some ⟨bl, 0, none⟩) := hJ 5 36 (by kernel_rfl) (by kernel_rfl)
      simp at s0
      rw [if_pos (by rfl)]
      clear hs hJ
      go_simp
      exact hK _ _ (Below.refl _ _) rfl
    refine grow.Each.cons ?_ ?_
    · intro A W hB hs hJ K hK
      have s0 : A.tmps.getD 37 undef = .pointer (some ⟨bl, 0, none⟩) := hJ 6 37 (by kernel_rfl) (by kernel_rfl)
      simp at s0
      have kk0 := upc hB kxl0
      rw [if_pos (by rfl)]
      clear hs hJ
      go_simp
      exact hK _ _ (Below.refl _ _) rfl
    refine grow.Each.cons ?_ ?_
    · intro A W hB hs hJ K hK
      have s0 := hs 0 (by kernel_rfl)
      simp at s0
      rw [if_pos (by rfl)]
      clear hs hJ
      go_simp
      exact hK _ _ (Below.refl _ _) rfl
    refine grow.Each.cons ?_ ?_
    · intro A W hB hs hJ K hK
      have s0 : A.tmps.getD 39 undef = .pointer (some ⟨bl, 0, none⟩) := hJ 8 39 (by kernel_rfl) (by kernel_rfl)
      simp at s0
      rw [if_pos (by rfl)]
      clear hs hJ
      go_simp
      exact hK _ _ (Below.refl _ _) rfl
    refine grow.Each.cons ?_ ?_
    · intro A W hB hs hJ K hK
      have s0 : A.tmps.getD 40 undef = .pointer (some ⟨bl, 0, none⟩) := hJ 9 40 (by kernel_rfl) (by kernel_rfl)
      simp at s0
      rw [if_pos (by rfl)]
      clear hs hJ
      go_simp
      exact hK _ _ (Below.refl _ _) rfl
    refine grow.Each.cons ?_ ?_
    · intro A W hB hs hJ K hK
      have s0 : A.tmps.getD 41 undef = .pointer (some ⟨bl, 5, none⟩) := hJ 10 41 (by kernel_rfl) (by kernel_rfl)
      simp at s0
      have kk := upc hB krl
      rw [if_pos (by rfl)]
      clear hs hJ
      go_simp
      exact hK _ _ (Below.refl _ _) rfl
    refine grow.Each.cons ?_ ?_
    · intro A W hB hs hJ K hK
      have s0 := hs 1 (by kernel_rfl)
      simp at s0
      rw [if_pos (by rfl)]
      clear hs hJ
      go_simp
      exact hK _ _ (Below.refl _ _) rfl
    refine grow.Each.cons ?_ ?_
    · intro A W hB hs hJ K hK
      have s0 := hs 2 (by kernel_rfl)
      simp at s0
      rw [if_pos (by rfl)]
      clear hs hJ
      go_simp
      exact hK _ _ (Below.refl _ _) rfl
    refine grow.Each.cons ?_ ?_
    · intro A W hB hs hJ K hK
      have s0 : A.tmps.getD 42 undef = .pointer plr := hJ 11 42 (by kernel_rfl) (by kernel_rfl)
      simp at s0
      have s1 : A.tmps.getD 43 undef = .int .i64 v := hJ 12 43 (by kernel_rfl) (by kernel_rfl)
      simp at s1
      have s2 : A.tmps.getD 44 undef = .pointer pr := hJ 13 44 (by kernel_rfl) (by kernel_rfl)
      simp at s2
      rw [if_pos (by rfl)]
      clear hs hJ
      go_simp
      go_at_call 110
      refine (link_any B W plr lr v pr r (szle hB HB.out) (Hlr.out.up hB) (Hr.out.up hB) (by (try simp only [BT.size]); omega)).mono ?_
      rintro e W2 ⟨q45, t45, rfl, i45, j45, hbn⟩
      exact hK _ _ hbn ⟨q45, t45, rfl, i45.of rfl rfl, j45⟩
    refine grow.Each.cons ?_ ?_
    · intro A W hB hs hJ K hK
      have s0 : A.tmps.getD 34 undef = .pointer pll := hJ 3 34 (by kernel_rfl) (by kernel_rfl)
      simp at s0
      have s1 : A.tmps.getD 38 undef = .int .i64 xl := hJ 7 38 (by kernel_rfl) (by kernel_rfl)
      simp at s1
      obtain ⟨q45, t45, s2, i45, j45⟩ := hJ 14 45 (by kernel_rfl) (by kernel_rfl)
      simp at s2
      rw [if_pos (by rfl)]
      clear hs hJ
      go_simp
      go_at_call 129
      refine (even_any B W pll ll xl q45 t45 (szle hB HB.out) (Hll.out.up hB) j45 (by have e45 := i45.2; (try simp only [BT.size]); omega)).mono ?_
      rintro e W2 ⟨q46, t46, rfl, i46, j46, hbn⟩
      exact hK _ _ hbn ⟨q46, t46, rfl, i46.of (by rw [i45.1]) (by rw [i45.2]), j46⟩
    refine grow.Each.cons ?_ ?_
    · intro A W hB hs hJ K hK
      obtain ⟨q46, t46, s0, i46, j46⟩ := hJ 15 46 (by kernel_rfl) (by kernel_rfl)
      simp at s0
      rw [if_pos (by rfl)]
      clear hs hJ
      go_simp
      exact hK _ _ (Below.refl _ _) ⟨q46, t46, rfl, i46, j46⟩
    exact grow.Each.nil
  case fin =>
    intro f W hB hF
    have f0 : f 0 = .pointer (some ⟨bl, 0, none⟩) := hF 0 (by decide)
    have f1 : f 1 = .pointer (some ⟨bl, 0, none⟩) := hF 1 (by decide)
    have f2 : f 2 = .pointer (some ⟨bl, 4, none⟩) := hF 2 (by decide)
    have f3 : f 3 = .pointer pll := hF 3 (by decide)
    have f4 : f 4 = .pointer (some ⟨bl, 0, none⟩) := hF 4 (by decide)
    have f5 : f 5 = .pointer (some ⟨bl, 0, none⟩) := hF 5 (by decide)
    have f6 : f 6 = .pointer (some ⟨bl, 0, none⟩) := hF 6 (by decide)
    have f7 : f 7 = .int .i64 xl := hF 7 (by decide)
    have f8 : f 8 = .pointer (some ⟨bl, 0, none⟩) := hF 8 (by decide)
    have f9 : f 9 = .pointer (some ⟨bl, 0, none⟩) := hF 9 (by decide)
    have f10 : f 10 = .pointer (some ⟨bl, 5, none⟩) := hF 10 (by decide)
    have f11 : f 11 = .pointer plr := hF 11 (by decide)
    have f12 : f 12 = .int .i64 v := hF 12 (by decide)
    have f13 : f 13 = .pointer pr := hF 13 (by decide)
    obtain ⟨q45_14, t45_14, f14, i45_14, j45_14⟩ := hF 14 (by decide)
    obtain ⟨q46_15, t46_15, f15, i46_15, j46_15⟩ := hF 15 (by decide)
    obtain ⟨q46_16, t46_16, f16, i46_16, j46_16⟩ := hF 16 (by decide)
    clear hF
    generalize hA : grow.puts _ _ f _ = A'
    simp only [List.length_cons, List.length_nil, Nat.reduceAdd, grow.puts, Act.put, List.getElem?_toArray, List.getElem?_cons_zero, List.getElem?_cons_succ, Option.bind_some, List.setIfInBounds_toArray, List.set_cons_zero, List.set_cons_succ, f0, f1, f2, f3, f4, f5, f6, f7, f8, f9, f10, f11, f12, f13, f14, f15, f16] at hA
    subst hA
    go_wp2_with fail
    go_ret
    exact RetQ.mk (i46_16.of (by simp [BT.inorder]) (by simp only [BT.size]; omega)) j46_16 (belowTrans Hb.out hB)

set_option maxRecDepth 100000 in
set_option maxHeartbeats 4000000 in
theorem link_2 (B : Nat) (w : World) (pl : Option Addr) (l : BT V) (pr : Option Addr) (r : BT V) (v : V) (hB : B ≤ w.heap.size) (hl : In B w pl l) (hr : In B w pr r) (hs : l.size + r.size ≤ 1152921504606840000) (hvA : heavyB r l = false) (hvC : heavyB l r = false) :
    Calls Try.prog 110 #[.pointer pl, .int .i64 v, .pointer pr] w (Ret B w (Is (BT.inorder l ++ v :: BT.inorder r) (BT.size l + 1 + BT.size r))) := by
  have hb0 := Below.refl w.heap.size w
  have Hl := Lib.hid (hl.up hb0)
  have hzl : BT.size l ≤ 1152921504606846976 := by (try simp only [BT.size]); omega
  have Hr := Lib.hid (hr.up hb0)
  have hzr : BT.size r ≤ 1152921504606846976 := by (try simp only [BT.size]); omega
  have HB := Lib.hid (szle hb0 hB)
  have Hb := Lib.hid hb0
  clear hb0 hB hl hr
  have EA := Lib.hid hvA
  clear hvA
  have EC := Lib.hid hvC
  clear hvC
  go_enter Try.func110, Try.ntmps110
  go_wp2_with fail
  refine (heavy_val Hr.out Hl.out hzr hzl EA.out).mono ?_
  rintro e w' ⟨rfl, rfl⟩
  go_wp2_with fail
  refine (heavy_val Hl.out Hr.out hzl hzr EC.out).mono ?_
  rintro e w' ⟨rfl, rfl⟩
  go_wp2_with fail
  refine (made_any B _ pl l v pr r HB.out Hl.out Hr.out (by omega)).mono ?_
  rintro e w1 ⟨q, t, rfl, it, jt, hbn⟩
  go_wp2_with fail
  go_ret
  exact RetQ.mk it jt (belowTrans Hb.out hbn)

theorem link_ind (n : Nat) : ∀ (B : Nat) (w : World) (pl : Option Addr) (l : BT V) (v : V) (pr : Option Addr) (r : BT V), B ≤ w.heap.size → In B w pl l → In B w pr r → l.size + r.size ≤ n ∧ l.size + r.size ≤ 1152921504606840000 →
    Calls Try.prog 110 #[.pointer pl, .int .i64 v, .pointer pr] w (Ret B w (Is (l.inorder ++ v :: r.inorder) (l.size + 1 + r.size))) := by
  induction n with
  | zero =>
    intro B w pl l v pr r hB hl hr hs
    have h1 : l.size = 0 := by omega
    have h2 : r.size = 0 := by omega
    exact link_2 B w pl l pr r v hB hl hr hs.2 (by simp [heavyB, h1, h2]) (by simp [heavyB, h1, h2])
  | succ n ih =>
    intro B w pl l v pr r hB hl hr hs
    by_cases hA : heavyB r l = true
    · cases r with
      | nil => simp [heavyB, BT.size] at hA; omega
      | node xr rl rr =>
        have hr2 := hr
        obtain ⟨br, prl, prr, rfl, _, hb, hrl, hrr⟩ := hr
        simp only [BT.size] at hs
        exact link_0 B w pl l prl rl prr rr br xr v hB hl hrl hrr hb hr2 (by omega) hA n (by omega) ih
    · by_cases hC : heavyB l r = true
      · cases l with
        | nil => simp [heavyB, BT.size] at hC; omega
        | node xl ll lr =>
          have hl2 := hl
          obtain ⟨bl, pll, plr, rfl, _, hb, hll, hlr⟩ := hl
          simp only [BT.size] at hs
          exact link_1 B w pr r pll ll plr lr bl xl v hB hr hll hlr hb hl2 (by omega) (Bool.eq_false_iff.2 hA) hC n (by omega) ih
      · exact link_2 B w pl l pr r v hB hl hr hs.2 (Bool.eq_false_iff.2 hA) (Bool.eq_false_iff.2 hC)
theorem link_any (B : Nat) (w : World) (pl : Option Addr) (l : BT V) (v : V) (pr : Option Addr) (r : BT V) (hB : B ≤ w.heap.size) (hl : In B w pl l) (hr : In B w pr r) (hs : l.size + r.size ≤ 1152921504606840000) :
    Calls Try.prog 110 #[.pointer pl, .int .i64 v, .pointer pr] w (Ret B w (Is (l.inorder ++ v :: r.inorder) (l.size + 1 + r.size))) := link_ind _ B w pl l v pr r hB hl hr ⟨Nat.le_refl _, hs⟩

/-- what split leaves -/
def RetSp (B : Nat) (w : World) (xs : List V) (k m : Nat) (e : Ending) (w' : World) : Prop :=
  ∃ p q t u, e = .returned (.tuple #[.pointer p, .pointer q]) ∧ Is (xs.take k) k t ∧ Is (xs.drop k) m u ∧ In B w' p t ∧ In B w' q u ∧ Below w.heap.size w w'
set_option maxHeartbeats 1000000 in
theorem split_nil (B : Nat) (w : World) (i : Int) : Calls Try.prog 109 #[.pointer none, .int .i64 i] w (RetSp B w [] 0 0) := by
  go_enter Try.func109, Try.ntmps109
  go_wp2_with fail
  go_ret2
  exact ⟨none, none, .nil, .nil, rfl, ⟨rfl, rfl⟩, ⟨rfl, rfl⟩, rfl, rfl, Below.refl _ _⟩

set_option maxRecDepth 100000 in
set_option maxHeartbeats 4000000 in
theorem split_0 (B : Nat) (w : World) (pl : Option Addr) (l : BT V) (pr : Option Addr) (r : BT V) (bt : Nat) (xt : V) (i : Int) (hB : B ≤ w.heap.size) (hl : In B w pl l) (hr : In B w pr r) (hbt : w.heap[bt]? = some (.cells (cs xt l r ++ [Value.pointer pl, Value.pointer pr]).toArray 142 (0, 0))) (ht : In B w (some ⟨bt, 0, none⟩) (BT.node xt l r)) (hs : l.size + r.size ≤ 1152921504606830000) (hi : (l.size : Int) < i) (hi2 : i ≤ l.size + 1 + r.size)
    (ih : ∀ (w : World) (p : Option Addr) (i : Int), B ≤ w.heap.size → In B w p r → 0 ≤ i → i ≤ (r.size : Nat) → Calls Try.prog 109 #[.pointer p, .int .i64 i] w (RetSp B w r.inorder i.toNat (r.size - i.toNat))) :
    Calls Try.prog 109 #[.pointer (some ⟨bt, 0, none⟩), .int .i64 i] w (RetSp B w (l.inorder ++ xt :: r.inorder) i.toNat (l.size + 1 + r.size - i.toNat)) := by
  have hb0 := Below.refl w.heap.size w
  have Hl := Lib.hid (hl.up hb0)
  have hzl : BT.size l ≤ 1152921504606846976 := by (try simp only [BT.size]); omega
  have Hr := Lib.hid (hr.up hb0)
  have hzr : BT.size r ≤ 1152921504606846976 := by (try simp only [BT.size]); omega
  have Ht := Lib.hid (ht.up hb0)
  have kxt0 := upc hb0 (cv0 hbt)
  have klt := upc hb0 (cl hbt)
  have krt := upc hb0 (cr hbt)
  have hzt : BT.size (BT.node xt l r) ≤ 1152921504606846976 := by (try simp only [BT.size]); omega
  have HB := Lib.hid (szle hb0 hB)
  have Hb := Lib.hid hb0
  clear hb0 hB hl hr ht hbt
  have ll := BT.length_inorder l
  have lr := BT.length_inorder r
  have Hll := Lib.hid ll
  have Hlr := Lib.hid lr
  clear ll lr
  have dw : IntKind.i64.wrap (i - (l.size : Nat)) = i - (l.size : Nat) := IntWalk.i64_in _ (by omega)
  have dw2 : IntKind.i64.wrap (i - (l.size : Nat) - 1) = i - (l.size : Nat) - 1 := IntWalk.i64_in _ (by omega)
  go_enter Try.func109, Try.ntmps109
  go_wp2_with fail
  refine (size_any Hl.out).mono ?_
  rintro e w' ⟨rfl, rfl⟩
  go_wp2_with fail
  refine (ih _ _ (i - l.size - 1) HB.out Hr.out (by omega) (by omega)).mono ?_
  rintro e w1 ⟨psl, psr, sl, sr, rfl, is1, is2, hsl, hsr, hb1⟩
  have hup1 : Below w.heap.size w w1 := hb1
  replace Hl := Lib.hid (Hl.out.up hup1)
  replace Hr := Lib.hid (Hr.out.up hup1)
  replace Ht := Lib.hid (Ht.out.up hup1)
  replace kxt0 := upc hup1 kxt0
  replace klt := upc hup1 klt
  replace krt := upc hup1 krt
  replace HB := Lib.hid (szle hup1 HB.out)
  replace Hb := Lib.hid (belowTrans Hb.out hup1)
  clear hup1
  have Hsl := Lib.hid hsl
  have Hsr := Lib.hid hsr
  have I1 := Lib.hid is1
  have I2 := Lib.hid is2
  have e1 := is1.2
  have e2 := is2.2
  clear hsl hsr is1 is2 ih
  clear dw dw2
  go_wp2_with fail
  refine grow.wp_grow [grow.kEq (.pointer (some ⟨bt, 0, none⟩)), grow.kEq (.pointer (some ⟨bt, 0, none⟩)), grow.kEq (.pointer (some ⟨bt, 4, none⟩)), grow.kEq (.pointer pl), grow.kEq (.pointer (some ⟨bt, 0, none⟩)), grow.kEq (.pointer (some ⟨bt, 0, none⟩)), grow.kEq (.pointer (some ⟨bt, 0, none⟩)), grow.kEq (.int .i64 xt), grow.kEq (.pointer psl), kT B (Is (BT.inorder l ++ xt :: BT.inorder sl) (BT.size l + 1 + BT.size sl)), grow.kEq (.pointer psr), kT B (Is (BT.inorder l ++ xt :: BT.inorder sl) (BT.size l + 1 + BT.size sl)), grow.kEq (.pointer psr)] (by kernel_rfl) (by kernel_rfl) (by kernel_rfl) (by kernel_rfl) ?step ?fin
  case step =>
    refine grow.Each.cons ?_ ?_
    · intro A W hB hs hJ K hK
      have s0 := hs 0 (by kernel_rfl)
      simp at s0
      rw [if_pos (by rfl)]
      clear hs hJ
      go_simp
      exact hK _ _ (Below.refl _ _) rfl
    refine grow.Each.cons ?_ ?_
    · intro A W hB hs hJ K hK
      have s0 : A.tmps.getD 33 undef = .pointer (some ⟨bt, 0, none⟩) := hJ 0 33 (by kernel_rfl) (by kernel_rfl)
      simp at s0
      rw [if_pos (by rfl)]
      clear hs hJ
      go_simp
      exact hK _ _ (Below.refl _ _) rfl
    refine grow.Each.cons ?_ ?_
    · intro A W hB hs hJ K hK
      have s0 : A.tmps.getD 34 undef = .pointer (some ⟨bt, 0, none⟩) := hJ 1 34 (by kernel_rfl) (by kernel_rfl)
      simp at s0
      rw [if_pos (by rfl)]
      clear hs hJ
      go_simp
      exact hK _ _ (Below.refl _ _) rfl
    refine grow.Each.cons ?_ ?_
    · intro A W hB hs hJ K hK
      have s0 : A.tmps.getD 35 undef = .pointer (some ⟨bt, 4, none⟩) := hJ 2 35 (by kernel_rfl) (by kernel_rfl)
      simp at s0
      have kk := upc hB klt
      rw [if_pos (by rfl)]
      clear hs hJ
      go_simp
      exact hK _ _ (Below.refl _ _) rfl
    refine grow.Each.cons ?_ ?_
    · intro A W hB hs hJ K hK
      have s0 := hs 0 (by kernel_rfl)
      simp at s0
      rw [if_pos (by rfl)]
      clear hs hJ
      go_simp
      exact hK _ _ (Below.refl _ _) rfl
    refine grow.Each.cons ?_ ?_
    · intro A W hB hs hJ K hK
      have s0 : A.tmps.getD 37 undef = .pointer (some ⟨bt, 0, none⟩) := hJ 4 37 (by kernel_rfl) (by kernel_rfl)
      simp at s0
      rw [if_pos (by rfl)]
      clear hs hJ
      go_simp
      exact hK _ _ (Below.refl _ _) rfl
    refine grow.Each.cons ?_ ?_
    · intro A W hB hs hJ K hK
      have s0 : A.tmps.getD 38 undef = .pointer (some ⟨bt, 0, none⟩) := hJ 5 38 (by kernel_rfl) (by kernel_rfl)
      simp at s0
      rw [if_pos (by rfl)]
      clear hs hJ
      go_simp
      exact hK _ _ (Below.refl _ _) rfl
    refine grow.Each.cons ?_ ?_
    · intro A W hB hs hJ K hK
      have s0 : A.tmps.getD 39 undef = .pointer (some ⟨bt, 0, none⟩) := hJ 6 39 (by kernel_rfl) (by kernel_rfl)
      simp at s0
      have kk0 := upc hB kxt0
      rw [if_pos (by rfl)]
      clear hs hJ
      go_simp
      exact hK _ _ (Below.refl _ _) rfl
    refine grow.Each.cons ?_ ?_
    · intro A W hB hs hJ K hK
      have s0 := hs 7 (by kernel_rfl)
      simp at s0
      rw [if_pos (by rfl)]
      clear hs hJ
      go_simp
      exact hK _ _ (Below.refl _ _) rfl
    refine grow.Each.cons ?_ ?_
    · intro A W hB hs hJ K hK
      have s0 : A.tmps.getD 36 undef = .pointer pl := hJ 3 36 (by kernel_rfl) (by kernel_rfl)
      simp at s0
      have s1 : A.tmps.getD 40 undef = .int .i64 xt := hJ 7 40 (by kernel_rfl) (by kernel_rfl)
      simp at s1
      have s2 : A.tmps.getD 41 undef = .pointer psl := hJ 8 41 (by kernel_rfl) (by kernel_rfl)
      simp at s2
      rw [if_pos (by rfl)]
      clear hs hJ
      go_simp
      go_at_call 110
      refine (link_any B W pl l xt psl sl (szle hB HB.out) (Hl.out.up hB) (Hsl.out.up hB) (by (try simp only [BT.size]); omega)).mono ?_
      rintro e W2 ⟨q42, t42, rfl, i42, j42, hbn⟩
      exact hK _ _ hbn ⟨q42, t42, rfl, i42.of rfl rfl, j42⟩
    refine grow.Each.cons ?_ ?_
    · intro A W hB hs hJ K hK
      have s0 := hs 8 (by kernel_rfl)
      simp at s0
      rw [if_pos (by rfl)]
      clear hs hJ
      go_simp
      exact hK _ _ (Below.refl _ _) rfl
    refine grow.Each.cons ?_ ?_
    · intro A W hB hs hJ K hK
      obtain ⟨q42, t42, s0, i42, j42⟩ := hJ 9 42 (by kernel_rfl) (by kernel_rfl)
      simp at s0
      rw [if_pos (by rfl)]
      clear hs hJ
      go_simp
      exact hK _ _ (Below.refl _ _) ⟨q42, t42, rfl, i42, j42⟩
    refine grow.Each.cons ?_ ?_
    · intro A W hB hs hJ K hK
      have s0 : A.tmps.getD 43 undef = .pointer psr := hJ 10 43 (by kernel_rfl) (by kernel_rfl)
      simp at s0
      rw [if_pos (by rfl)]
      clear hs hJ
      go_simp
      exact hK _ _ (Below.refl _ _) rfl
    exact grow.Each.nil
  case fin =>
    intro f W hB hF
    have f0 : f 0 = .pointer (some ⟨bt, 0, none⟩) := hF 0 (by decide)
    have f1 : f 1 = .pointer (some ⟨bt, 0, none⟩) := hF 1 (by decide)
    have f2 : f 2 = .pointer (some ⟨bt, 4, none⟩) := hF 2 (by decide)
    have f3 : f 3 = .pointer pl := hF 3 (by decide)
    have f4 : f 4 = .pointer (some ⟨bt, 0, none⟩) := hF 4 (by decide)
    have f5 : f 5 = .pointer (some ⟨bt, 0, none⟩) := hF 5 (by decide)
    have f6 : f 6 = .pointer (some ⟨bt, 0, none⟩) := hF 6 (by decide)
    have f7 : f 7 = .int .i64 xt := hF 7 (by decide)
    have f8 : f 8 = .pointer psl := hF 8 (by decide)
    obtain ⟨q42_9, t42_9, f9, i42_9, j42_9⟩ := hF 9 (by decide)
    have f10 : f 10 = .pointer psr := hF 10 (by decide)
    obtain ⟨q42_11, t42_11, f11, i42_11, j42_11⟩ := hF 11 (by decide)
    have f12 : f 12 = .pointer psr := hF 12 (by decide)
    clear hF
    generalize hA : grow.puts _ _ f _ = A'
    simp only [List.length_cons, List.length_nil, Nat.reduceAdd, grow.puts, Act.put, List.getElem?_toArray, List.getElem?_cons_zero, List.getElem?_cons_succ, Option.bind_some, List.setIfInBounds_toArray, List.set_cons_zero, List.set_cons_succ, f0, f1, f2, f3, f4, f5, f6, f7, f8, f9, f10, f11, f12] at hA
    subst hA
    go_wp2_with fail
    go_ret2
    refine ⟨_, _, _, _, rfl, i42_11.of ?_ (by omega), I2.out.of ?_ (by omega), j42_11, Hsr.out.up hB, belowTrans Hb.out hB⟩
    · rw [I1.out.1]
      obtain ⟨j, rfl⟩ : ∃ j : Nat, i = (l.size : Int) + 1 + j := ⟨(i - l.size - 1).toNat, by omega⟩
      have e1 : ((l.size : Int) + 1 + j - l.size - 1).toNat = j := by omega
      have e2 : ((l.size : Int) + 1 + j).toNat = l.inorder.length + (j + 1) := by rw [Hll.out]; omega
      rw [e1, e2, List.take_length_add_append]
      rfl
    · obtain ⟨j, rfl⟩ : ∃ j : Nat, i = (l.size : Int) + 1 + j := ⟨(i - l.size - 1).toNat, by omega⟩
      have e1 : ((l.size : Int) + 1 + j - l.size - 1).toNat = j := by omega
      have e2 : ((l.size : Int) + 1 + j).toNat = l.inorder.length + (j + 1) := by rw [Hll.out]; omega
      rw [e1, e2, List.drop_length_add_append]
      rfl

set_option maxRecDepth 100000 in
set_option maxHeartbeats 4000000 in
theorem split_1 (B : Nat) (w : World) (pl : Option Addr) (l : BT V) (pr : Option Addr) (r : BT V) (bt : Nat) (xt : V) (i : Int) (hB : B ≤ w.heap.size) (hl : In B w pl l) (hr : In B w pr r) (hbt : w.heap[bt]? = some (.cells (cs xt l r ++ [Value.pointer pl, Value.pointer pr]).toArray 142 (0, 0))) (ht : In B w (some ⟨bt, 0, none⟩) (BT.node xt l r)) (hs : l.size + r.size ≤ 1152921504606830000) (hi0 : 0 ≤ i) (hi : ¬ (l.size : Int) < i)
    (ih : ∀ (w : World) (p : Option Addr) (i : Int), B ≤ w.heap.size → In B w p l → 0 ≤ i → i ≤ (l.size : Nat) → Calls Try.prog 109 #[.pointer p, .int .i64 i] w (RetSp B w l.inorder i.toNat (l.size - i.toNat))) :
    Calls Try.prog 109 #[.pointer (some ⟨bt, 0, none⟩), .int .i64 i] w (RetSp B w (l.inorder ++ xt :: r.inorder) i.toNat (l.size + 1 + r.size - i.toNat)) := by
  have hb0 := Below.refl w.heap.size w
  have Hl := Lib.hid (hl.up hb0)
  have hzl : BT.size l ≤ 1152921504606846976 := by (try simp only [BT.size]); omega
  have Hr := Lib.hid (hr.up hb0)
  have hzr : BT.size r ≤ 1152921504606846976 := by (try simp only [BT.size]); omega
  have Ht := Lib.hid (ht.up hb0)
  have kxt0 := upc hb0 (cv0 hbt)
  have klt := upc hb0 (cl hbt)
  have krt := upc hb0 (cr hbt)
  have hzt : BT.size (BT.node xt l r) ≤ 1152921504606846976 := by (try simp only [BT.size]); omega
  have HB := Lib.hid (szle hb0 hB)
  have Hb := Lib.hid hb0
  clear hb0 hB hl hr ht hbt
  have ll := BT.length_inorder l
  have lr := BT.length_inorder r
  have Hll := Lib.hid ll
  have Hlr := Lib.hid lr
  clear ll lr
  go_enter Try.func109, Try.ntmps109
  go_wp2_with fail
  refine (size_any Hl.out).mono ?_
  rintro e w' ⟨rfl, rfl⟩
  go_wp2_with fail
  refine (ih _ _ i HB.out Hl.out (by omega) (by omega)).mono ?_
  rintro e w1 ⟨psl, psr, sl, sr, rfl, is1, is2, hsl, hsr, hb1⟩
  have hup1 : Below w.heap.size w w1 := hb1
  replace Hl := Lib.hid (Hl.out.up hup1)
  replace Hr := Lib.hid (Hr.out.up hup1)
  replace Ht := Lib.hid (Ht.out.up hup1)
  replace kxt0 := upc hup1 kxt0
  replace klt := upc hup1 klt
  replace krt := upc hup1 krt
  replace HB := Lib.hid (szle hup1 HB.out)
  replace Hb := Lib.hid (belowTrans Hb.out hup1)
  clear hup1
  have Hsl := Lib.hid hsl
  have Hsr := Lib.hid hsr
  have I1 := Lib.hid is1
  have I2 := Lib.hid is2
  have e1 := is1.2
  have e2 := is2.2
  clear hsl hsr is1 is2 ih
  go_wp2_with fail
  refine grow.wp_grow [grow.kEq (.pointer psl), grow.kEq (.pointer psr), grow.kEq (.pointer (some ⟨bt, 0, none⟩)), grow.kEq (.pointer (some ⟨bt, 0, none⟩)), grow.kEq (.pointer (some ⟨bt, 0, none⟩)), grow.kEq (.int .i64 xt), grow.kEq (.pointer (some ⟨bt, 0, none⟩)), grow.kEq (.pointer (some ⟨bt, 0, none⟩)), grow.kEq (.pointer (some ⟨bt, 5, none⟩)), grow.kEq (.pointer pr), kT B (Is (BT.inorder sr ++ xt :: BT.inorder r) (BT.size sr + 1 + BT.size r)), grow.kEq (.pointer psl), kT B (Is (BT.inorder sr ++ xt :: BT.inorder r) (BT.size sr + 1 + BT.size r))] (by kernel_rfl) (by kernel_rfl) (by kernel_rfl) (by kernel_rfl) ?step ?fin
  case step =>
    refine grow.Each.cons ?_ ?_
    · intro A W hB hs hJ K hK
      have s0 := hs 9 (by kernel_rfl)
      simp at s0
      rw [if_pos (by rfl)]
      clear hs hJ
      go_simp
      exact hK _ _ (Below.refl _ _) rfl
    refine grow.Each.cons ?_ ?_
    · intro A W hB hs hJ K hK
      have s0 := hs 10 (by kernel_rfl)
      simp at s0
      rw [if_pos (by rfl)]
      clear hs hJ
      go_simp
      exact hK _ _ (Below.refl _ _) rfl
    refine grow.Each.cons ?_ ?_
    · intro A W hB hs hJ K hK
      have s0 := hs 0 (by kernel_rfl)
      simp at s0
      rw [if_pos (by rfl)]
      clear hs hJ
      go_simp
      exact hK _ _ (Below.refl _ _) rfl
    refine grow.Each.cons ?_ ?_
    · intro A W hB hs hJ K hK
      have s0 : A.tmps.getD 55 undef = .pointer (some ⟨bt, 0, none⟩) := hJ 2 55 (by kernel_rfl) (by kernel_rfl)
      simp at s0
      rw [if_pos (by rfl)]
      clear hs hJ
      go_simp
      exact hK _ _ (Below.refl _ _) rfl
    refine grow.Each.cons ?_ ?_
    · intro A W hB hs hJ K hK
      have s0 : A.tmps.getD 56 undef = .pointer (some ⟨bt, 0, none⟩) := hJ 3 56 (by kernel_rfl) (by kernel_rfl)
      simp at s0
      rw [if_pos (by rfl)]
      clear hs hJ
      go_simp
      exact hK _ _ (Below.refl _ _) rfl
    refine grow.Each.cons ?_ ?_
    · intro A W hB hs hJ K hK
      have s0 : A.tmps.getD 57 undef = .pointer (some ⟨bt, 0, none⟩) := hJ 4 57 (by kernel_rfl) (by kernel_rfl)
      simp at s0
      have kk0 := upc hB kxt0
      rw [if_pos (by rfl)]
      clear hs hJ
      go_simp
      exact hK _ _ (Below.refl _ _) rfl
    refine grow.Each.cons ?_ ?_
    · intro A W hB hs hJ K hK
      have s0 := hs 0 (by kernel_rfl)
      simp at s0
      rw [if_pos (by rfl)]
      clear hs hJ
      go_simp
      exact hK _ _ (Below.refl _ _) rfl
    refine grow.Each.cons ?_ ?_
    · intro A W hB hs hJ K hK
      have s0 : A.tmps.getD 59 undef = .pointer (some ⟨bt, 0, none⟩) := hJ 6 59 (by kernel_rfl) (by kernel_rfl)
      simp at s0
      rw [if_pos (by rfl)]
      clear hs hJ
      go_simp
      exact hK _ _ (Below.refl _ _) rfl
    refine grow.Each.cons ?_ ?_
    · intro A W hB hs hJ K hK
      have s0 : A.tmps.getD 60 undef = .pointer (some ⟨bt, 0, none⟩) := hJ 7 60 (by kernel_rfl) (by kernel_rfl)
      simp at s0
      rw [if_pos (by rfl)]
      clear hs hJ
      go_simp
      exact hK _ _ (Below.refl _ _) rfl
    refine grow.Each.cons ?_ ?_
    · intro A W hB hs hJ K hK
      have s0 : A.tmps.getD 61 undef = .pointer (some ⟨bt, 5, none⟩) := hJ 8 61 (by kernel_rfl) (by kernel_rfl)
      simp at s0
      have kk := upc hB krt
      rw [if_pos (by rfl)]
      clear hs hJ
      go_simp
      exact hK _ _ (Below.refl _ _) rfl
    refine grow.Each.cons ?_ ?_
    · intro A W hB hs hJ K hK
      have s0 : A.tmps.getD 54 undef = .pointer psr := hJ 1 54 (by kernel_rfl) (by kernel_rfl)
      simp at s0
      have s1 : A.tmps.getD 58 undef = .int .i64 xt := hJ 5 58 (by kernel_rfl) (by kernel_rfl)
      simp at s1
      have s2 : A.tmps.getD 62 undef = .pointer pr := hJ 9 62 (by kernel_rfl) (by kernel_rfl)
      simp at s2
      rw [if_pos (by rfl)]
      clear hs hJ
      go_simp
      go_at_call 110
      refine (link_any B W psr sr xt pr r (szle hB HB.out) (Hsr.out.up hB) (Hr.out.up hB) (by (try simp only [BT.size]); omega)).mono ?_
      rintro e W2 ⟨q63, t63, rfl, i63, j63, hbn⟩
      exact hK _ _ hbn ⟨q63, t63, rfl, i63.of rfl rfl, j63⟩
    refine grow.Each.cons ?_ ?_
    · intro A W hB hs hJ K hK
      have s0 : A.tmps.getD 53 undef = .pointer psl := hJ 0 53 (by kernel_rfl) (by kernel_rfl)
      simp at s0
      rw [if_pos (by rfl)]
      clear hs hJ
      go_simp
      exact hK _ _ (Below.refl _ _) rfl
    refine grow.Each.cons ?_ ?_
    · intro A W hB hs hJ K hK
      obtain ⟨q63, t63, s0, i63, j63⟩ := hJ 10 63 (by kernel_rfl) (by kernel_rfl)
      simp at s0
      rw [if_pos (by rfl)]
      clear hs hJ
      go_simp
      exact hK _ _ (Below.refl _ _) ⟨q63, t63, rfl, i63, j63⟩
    exact grow.Each.nil
  case fin =>
    intro f W hB hF
    have f0 : f 0 = .pointer psl := hF 0 (by decide)
    have f1 : f 1 = .pointer psr := hF 1 (by decide)
    have f2 : f 2 = .pointer (some ⟨bt, 0, none⟩) := hF 2 (by decide)
    have f3 : f 3 = .pointer (some ⟨bt, 0, none⟩) := hF 3 (by decide)
    have f4 : f 4 = .pointer (some ⟨bt, 0, none⟩) := hF 4 (by decide)
    have f5 : f 5 = .int .i64 xt := hF 5 (by decide)
    have f6 : f 6 = .pointer (some ⟨bt, 0, none⟩) := hF 6 (by decide)
    have f7 : f 7 = .pointer (some ⟨bt, 0, none⟩) := hF 7 (by decide)
    have f8 : f 8 = .pointer (some ⟨bt, 5, none⟩) := hF 8 (by decide)
    have f9 : f 9 = .pointer pr := hF 9 (by decide)
    obtain ⟨q63_10, t63_10, f10, i63_10, j63_10⟩ := hF 10 (by decide)
    have f11 : f 11 = .pointer psl := hF 11 (by decide)
    obtain ⟨q63_12, t63_12, f12, i63_12, j63_12⟩ := hF 12 (by decide)
    clear hF
    generalize hA : grow.puts _ _ f _ = A'
    simp only [List.length_cons, List.length_nil, Nat.reduceAdd, grow.puts, Act.put, List.getElem?_toArray, List.getElem?_cons_zero, List.getElem?_cons_succ, Option.bind_some, List.setIfInBounds_toArray, List.set_cons_zero, List.set_cons_succ, f0, f1, f2, f3, f4, f5, f6, f7, f8, f9, f10, f11, f12] at hA
    subst hA
    go_wp2_with fail
    go_ret2
    refine ⟨_, _, _, _, rfl, I1.out.of ?_ rfl, i63_12.of ?_ (by omega), Hsl.out.up hB, j63_12, belowTrans Hb.out hB⟩
    · rw [List.take_append_of_le_length (by rw [Hll.out]; omega)]
    · rw [I2.out.1, List.drop_append_of_le_length (by rw [Hll.out]; omega)]

theorem split_any (B : Nat) (t : BT V) : ∀ (w : World) (p : Option Addr) (i : Int), B ≤ w.heap.size → In B w p t → 0 ≤ i → i ≤ (t.size : Nat) → t.size ≤ 1152921504606830000 →
    Calls Try.prog 109 #[.pointer p, .int .i64 i] w (RetSp B w t.inorder i.toNat (t.size - i.toNat)) := by
  induction t with
  | nil =>
    intro w p i _ h h0 h1 _
    obtain rfl : p = none := h
    obtain rfl : i = 0 := by simp only [BT.size] at h1; omega
    exact split_nil B w 0
  | node x l r ihl ihr =>
    intro w p i hB h h0 h1 hs
    have h2 := h
    obtain ⟨b, pl, pr, rfl, _, hb, hl, hr⟩ := h
    simp only [BT.size] at h1 hs
    have e : 1 + l.size + r.size = l.size + 1 + r.size := by omega
    rw [BT.size, e]
    by_cases hi : (l.size : Int) < i
    · exact split_0 B w pl l pr r b x i hB hl hr hb h2 (by omega) hi (by omega) (fun w p i a b c d => ihr w p i a b c d (by omega))
    · exact split_1 B w pl l pr r b x i hB hl hr hb h2 (by omega) h0 hi (fun w p i a b c d => ihl w p i a b c d (by omega))
end Go.Proofs.Ytnigadnjppeckaa.manyO
