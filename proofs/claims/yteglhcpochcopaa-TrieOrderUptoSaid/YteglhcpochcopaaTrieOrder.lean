/- The order is no matter: tries. -/
import Derived.Test.YteglhcpochcopaaTrieOr
namespace Go.Proofs.Yteglhcpochcopaa.trie
open Go.RowKit

theorem wnat {i : Int} {m : Nat} (h : i = (m : Int)) (hm : m ≤ 1048576) : IntKind.i64.wrap i = (m : Int) := by rw [h]; exact IntWalk.i64_in _ (by omega)
/-- a slice that reads as words -/
def kRow (l : List (Wd × Int)) (n : Nat) : grow.Kept := ⟨fun x W => ∃ a c, x = .slice a n c ∧ ReadsW W a l, fun _ _ _ hb ⟨a, c, e, h⟩ => ⟨a, c, e, h.up hb⟩⟩
theorem bw_eql (a b : Wd) : ((bw a).toList == (bw b).toList) = (a == b) := by
  unfold bw
  rw [bytes_list, bytes_list]
set_option maxRecDepth 100000 in
set_option maxHeartbeats 16000000 in
theorem order_law (a : Option Addr) (c n : Nat) (l : List Wd) (kk mm : Int) (w : World) (hn : l.length = n) (hb : n ≤ 1048576) (hl : ∀ x ∈ l, x.length ≤ 1048576) (hr : ReadsS w a l) :
    Calls Try.prog 5 #[.slice a n c, .int .i64 kk, .int .i64 mm] w (Yes w) := by
  have HA := Lib.hid (And.intro hn (And.intro hr hl))
  clear hn hr hl
  go_enter Try.func5, Try.ntmps5
  go_wp2_with fail
  refine (worded_any w).mono ?_
  rintro e w1 ⟨rfl, hb1⟩
  have HI : Hid (Apart l 0 ∧ Below w.heap.size w w1) := Lib.hid ⟨Apart.zero l, hb1⟩
  clear hb1
  go_wp2_with fail
  go_loopw [8] (fun iv wr => ∃ i : Nat, iv = .int .i64 i ∧ i ≤ n ∧ Hid (Apart l i ∧ Below w.heap.size w wr)) (fun iv _ => n - (intOf iv).toNat)
  case atStart => exact ⟨0, rfl, Nat.zero_le _, HI⟩
  case round =>
    obtain ⟨i, rfl, hi, HS⟩ := hrel
    have i0 : (0 : Int) ≤ (i : Int) := by omega
    clear HI
    rcases Nat.lt_or_ge i n with hlt | hge
    · have hlt' : (i : Int) < (n : Int) := by omega
      have hw1 : IntKind.i64.wrap ((i : Int) + 1) = (i : Int) + 1 := IntWalk.i64_in _ (by omega)
      obtain ⟨ab, ao, rfl, hcell⟩ := HA.out.2.1.at (j := i) (by rw [HA.out.1]; exact hlt)
      obtain ⟨Y, hY⟩ : ∃ Y, Y = bw (l.getD i []) := ⟨_, rfl⟩
      rw [sv_bw, ← hY] at hcell
      have HY := Lib.hid hY
      have HC := Lib.hid hcell
      have H1 : Hid ((∀ b, b < 0 → l.getD b [] ≠ l.getD i []) ∧ Below w.heap.size w wr) := Lib.hid ⟨fun b hb => by omega, HS.out.2⟩
      have HAp := Lib.hid HS.out.1
      clear hY hcell HS
      go_wp2_with fail
      go_loopw [9] (fun jv wq => ∃ j : Nat, jv = .int .i64 j ∧ j ≤ i ∧ Hid ((∀ b, b < j → l.getD b [] ≠ l.getD i []) ∧ Below w.heap.size w wq)) (fun jv _ => i - (intOf jv).toNat)
      case atStart => exact ⟨0, rfl, Nat.zero_le _, H1⟩
      case round =>
        obtain ⟨j, rfl, hj, HS⟩ := hrel
        have j0 : (0 : Int) ≤ (j : Int) := by omega
        clear H1
        rcases Nat.lt_or_ge j i with hji | hji
        · have hji' : (j : Int) < (i : Int) := by omega
          have hjn' : (j : Int) < (n : Int) := by omega
          have hw2 : IntKind.i64.wrap ((j : Int) + 1) = (j : Int) + 1 := IntWalk.i64_in _ (by omega)
          obtain ⟨ab2, ao2, e2, hcell2⟩ := HA.out.2.1.at (j := j) (by rw [HA.out.1]; omega)
          cases e2
          obtain ⟨Z, hZ⟩ : ∃ Z, Z = bw (l.getD j []) := ⟨_, rfl⟩
          rw [sv_bw, ← hZ] at hcell2
          have q1 := upc HS.out.2 HC.out
          have q2 := upc HS.out.2 hcell2
          have hq : (Y.toList == Z.toList) = (l.getD i [] == l.getD j []) := by rw [HY.out, hZ]; exact bw_eql _ _
          by_cases he : l.getD i [] = l.getD j []
          · have hq2 : (Y.toList == Z.toList) = true := by rw [hq]; exact beq_iff_eq.2 he
            have HF := Lib.hid HS.out.2
            clear hq he hZ hcell2 HS
            go_wp2_with fail
            go_quiet (fail)
            have HN := Lib.hid (HF.out.trans ((belowDrewN _ nq).mono HF.out.size))
            go_wp2_with fail
            go_ret
            exact ⟨rfl, HN.out⟩
          · have hq2 : (Y.toList == Z.toList) = false := by rw [hq]; exact beq_eq_false_iff_ne.2 he
            have H2 : Hid (∀ b, b < j + 1 → l.getD b [] ≠ l.getD i []) := Lib.hid fun b hb => by
              rcases Nat.lt_or_ge b j with h1 | h1
              · exact HS.out.1 b h1
              · obtain rfl : b = j := by omega
                exact fun e => he e.symm
            have HF := Lib.hid HS.out.2
            clear hq he hZ hcell2 HS
            go_wp2_with fail
            go_quiet (fail)
            have HN := Lib.hid (And.intro H2.out (HF.out.trans ((belowDrewN _ nq).mono HF.out.size)))
            go_wp2_with fail
            go_roundw
            case rel => exact ⟨j + 1, by go_num, hji, HN⟩
            case measure => simp [intOf]; omega
        · obtain rfl : i = j := by omega
          have H3 := Lib.hid (And.intro (Apart.succ HAp.out HS.out.1) HS.out.2)
          clear HS
          go_wp2_with fail
          go_roundw
          case rel => exact ⟨i + 1, by go_num, hlt, H3⟩
          case measure => simp [intOf]; omega
    · obtain rfl : n = i := by omega
      obtain ⟨hap, hbw⟩ := HS.out
      have HAp := Lib.hid hap
      obtain ⟨W0, hW0⟩ : ∃ W, W = (wr.alloc (.cells #[.pointer none] 26)).alloc (.cells #[.pointer none] 26) := ⟨_, rfl⟩
      have hbW : Below wr.heap.size wr W0 := by rw [hW0]; exact belowTrans (belowAlloc wr _) (belowAlloc _ _)
      have ha0 := heapNew1 wr (.cells #[.pointer none] 26) (.cells #[.pointer none] 26)
      have hc0 := heapNew2 wr (.cells #[.pointer none] 26) (.cells #[.pointer none] 26)
      rw [← hW0] at ha0 hc0
      obtain ⟨G, hG⟩ : ∃ G, G = wr.heap.size := ⟨_, rfl⟩
      have HI : Hid (∃ p q, St w G (fillN l 0) p W0 ∧ St w (G + 1) (backN l n 0) q W0) := Lib.hid ⟨none, none, by rw [hG]; exact ⟨belowTrans hbw hbW, hbw.size, ha0, rfl⟩, by rw [hG]; exact ⟨belowTrans hbw hbW, by have := hbw.size; omega, hc0, rfl⟩⟩
      have HG : Hid (w.heap.size ≤ G) := Lib.hid (by rw [hG]; exact hbw.size)
      have HW0 := Lib.hid (And.intro hW0 hG)
      have hwn1 : IntKind.i64.wrap ((n : Int) - 1) = (n : Int) - 1 := IntWalk.i64_in _ (by omega)
      clear hap hbw hW0 hbW ha0 hc0 hG HS hge i0
      go_wp2_with fail
      rw [← HW0.out.1, ← HW0.out.2]
      obtain ⟨wo, rfl⟩ : ∃ wo : World, wo = wr := ⟨_, rfl⟩
      clear HW0
      go_loopw [12] (fun iv wr => ∃ j : Nat, iv = .int .i64 j ∧ j ≤ n ∧ Hid (∃ p q, St w G (fillN l j) p wr ∧ St w (G + 1) (backN l n j) q wr)) (fun iv _ => n - (intOf iv).toNat)
      case atStart => exact ⟨0, rfl, Nat.zero_le _, HI⟩
      case round =>
        obtain ⟨j, rfl, hj, HS⟩ := hrel
        have j0 : (0 : Int) ≤ (j : Int) := by omega
        clear HI
        rcases Nat.lt_or_ge j n with hlt | hge
        · obtain ⟨p, q, hsa, hsb⟩ := HS.out
          obtain ⟨ab, ao, rfl, hcell⟩ := HA.out.2.1.at (j := j) (by rw [HA.out.1]; exact hlt)
          obtain ⟨ab2, ao2, e2, hcell2⟩ := HA.out.2.1.at (j := n - 1 - j) (by rw [HA.out.1]; omega)
          cases e2
          obtain ⟨m, hm⟩ : ∃ m, m = n - 1 - j := ⟨_, rfl⟩
          rw [← hm] at hcell2
          have hlt' : (j : Int) < (n : Int) := by omega
          have hmi : (m : Int) < (n : Int) := by omega
          have hm0 : (0 : Int) ≤ (m : Int) := by omega
          have hw1 : IntKind.i64.wrap ((j : Int) + 1) = (j : Int) + 1 := IntWalk.i64_in _ (by omega)
          have hwm : IntKind.i64.wrap ((n : Int) - 1 - (j : Int)) = (m : Int) := wnat (by omega) (by omega)
          have k0 := cell_of_one hsa.b0
          obtain ⟨y, hy⟩ : ∃ y, y = l.getD j [] := ⟨_, rfl⟩
          obtain ⟨z, hz⟩ : ∃ z, z = l.getD m [] := ⟨_, rfl⟩
          have hk1 := upc hsa.bel hcell
          rw [← hy] at hk1
          rw [← hz] at hcell2
          have HP := Lib.hid (fun W (hW : Below wr.heap.size wr W) => Put_any W p (fillN l j) y (j : Int) (hsa.h0.up hW) (by have := fillN_cnt l j; omega))
          have HQ := Lib.hid (fun W (hW : In W (backN l n j) q) => Put_any W q (backN l n j) z (m : Int) hW (by have := backN_cnt l n j; omega))
          obtain ⟨ys, hys⟩ : ∃ ys, ys = sv y := ⟨_, rfl⟩
          obtain ⟨zs, hzs⟩ : ∃ zs, zs = sv z := ⟨_, rfl⟩
          rw [← hys] at HP hk1
          rw [← hzs] at HQ hcell2
          have HST := Lib.hid (And.intro hsa hsb)
          have HY := Lib.hid (And.intro hy (And.intro hz hm))
          have HC := Lib.hid (And.intro k0 (And.intro hk1 hcell2))
          clear hsa hsb hcell hcell2 hy hz hys hzs HS hm
          go_wp2_with fail
          refine grow.wp_grow_last 7 _ [grow.kEq (.agg #[.pointer p]), grow.kEq (.slice (some ⟨ab, ao, none⟩) n c), grow.kEq (.int .i64 (j : Nat)), grow.kEq (.pointer (some ⟨ab, ao + j, none⟩)), grow.kEq (ys), grow.kEq (.int .i64 (j : Nat)), kTrieV (put (fillN l j) y (j : Int))] rfl rfl rfl (by kernel_rfl) (by kernel_rfl) (by kernel_rfl) (by kernel_rfl) (by kernel_rfl) ?step ?fin
          case step =>
            refine grow.EachL.cons ?_ ?_
            · intro A W hB hs hJ K hK
              have s0 := hs 10 (by kernel_rfl)
              simp at s0
              have kk := upc hB HC.out.1
              rw [if_pos (by rfl)]
              clear hs hJ
              go_simp
              exact hK _ _ (Below.refl _ _) rfl
            refine grow.EachL.cons ?_ ?_
            · intro A W hB hs hJ K hK
              have s0 := hs 0 (by kernel_rfl)
              simp at s0
              rw [if_pos (by rfl)]
              clear hs hJ
              go_simp
              exact hK _ _ (Below.refl _ _) rfl
            refine grow.EachL.cons ?_ ?_
            · intro A W hB hs hJ K hK
              have s0 := hs 12 (by kernel_rfl)
              simp at s0
              rw [if_pos (by rfl)]
              clear hs hJ
              go_simp
              exact hK _ _ (Below.refl _ _) rfl
            refine grow.EachL.cons ?_ ?_
            · intro A W hB hs hJ K hK
              have s0 : A.tmps.getD 48 undef = .slice (some ⟨ab, ao, none⟩) n c := hJ 1 48 (by kernel_rfl) (by kernel_rfl)
              simp at s0
              have s1 : A.tmps.getD 49 undef = .int .i64 (j : Nat) := hJ 2 49 (by kernel_rfl) (by kernel_rfl)
              simp at s1
              rw [if_pos (by rfl)]
              clear hs hJ
              go_simp
              exact hK _ _ (Below.refl _ _) rfl
            refine grow.EachL.cons ?_ ?_
            · intro A W hB hs hJ K hK
              have s0 : A.tmps.getD 50 undef = .pointer (some ⟨ab, ao + j, none⟩) := hJ 3 50 (by kernel_rfl) (by kernel_rfl)
              simp at s0
              have kk := upc hB HC.out.2.1
              rw [if_pos (by rfl)]
              clear hs hJ
              go_simp
              exact hK _ _ (Below.refl _ _) rfl
            refine grow.EachL.cons ?_ ?_
            · intro A W hB hs hJ K hK
              have s0 := hs 12 (by kernel_rfl)
              simp at s0
              rw [if_pos (by rfl)]
              clear hs hJ
              go_simp
              exact hK _ _ (Below.refl _ _) rfl
            refine grow.EachL.cons ?_ ?_
            · intro A W hB hs hJ K hK
              have s0 : A.tmps.getD 47 undef = .agg #[.pointer p] := hJ 0 47 (by kernel_rfl) (by kernel_rfl)
              simp at s0
              have s1 : A.tmps.getD 51 undef = ys := hJ 4 51 (by kernel_rfl) (by kernel_rfl)
              simp at s1
              have s2 : A.tmps.getD 52 undef = .int .i64 (j : Nat) := hJ 5 52 (by kernel_rfl) (by kernel_rfl)
              simp at s2
              rw [if_pos (by rfl)]
              clear hs hJ
              go_simp
              go_at_call 9
              refine (HP.out W hB).mono ?_
              rintro e W2 ⟨q1, rfl, hq1, hb1⟩
              exact hK _ _ hb1 ⟨q1, rfl, hq1⟩
            exact grow.EachL.nil
          case fin =>
            intro f W hB hF
            have f0 : f 0 = .agg #[.pointer p] := hF 0 (by decide)
            have f1 : f 1 = .slice (some ⟨ab, ao, none⟩) n c := hF 1 (by decide)
            have f2 : f 2 = .int .i64 (j : Nat) := hF 2 (by decide)
            have f3 : f 3 = .pointer (some ⟨ab, ao + j, none⟩) := hF 3 (by decide)
            have f4 : f 4 = ys := hF 4 (by decide)
            have f5 : f 5 = .int .i64 (j : Nat) := hF 5 (by decide)
            obtain ⟨p1_6, f6, h1_6⟩ := hF 6 (by decide)
            clear hF
            intro A hA
            simp only [grow.puts, Act.put, List.getElem?_toArray, List.getElem?_cons_zero, List.getElem?_cons_succ, Option.bind_some, List.setIfInBounds_toArray, List.set_cons_zero, List.set_cons_succ, f0, f1, f2, f3, f4, f5, f6] at hA
            subst hA
            have hs7 := HST.out.1.up hB
            have ht7 := HST.out.2.up hB
            have c7 := cell_of_one hs7.b0
            have f7 := free_of_one hs7.b0
            obtain ⟨V, hV⟩ : ∃ V, V = W.setCell ⟨G, 0, none⟩ (.pointer p1_6) := ⟨_, rfl⟩
            have hsV : St w G (fillN l (j + 1)) p1_6 V := by rw [hV, show fillN l (j + 1) = put (fillN l j) (l.getD j []) (j : Int) from rfl, ← HY.out.1]; exact hs7.set h1_6
            have htV : St w (G + 1) (backN l n j) q V := by rw [hV]; exact ht7.other hs7.b0 hs7.g (by omega)
            have HSA := Lib.hid hsV
            have HSB := Lib.hid htV
            have HC2 := Lib.hid (And.intro (cell_of_one htV.b0) (upc hsV.bel HC.out.2.2))
            have HV := Lib.hid hV
            clear hs7 ht7 hV hsV htV h1_6 hB HST HC HP
            go_simp
            go_wp2_with fail
            rw [← HV.out]
            clear HV
            refine grow.wp_grow_last 15 _ [grow.kEq (.agg #[.pointer q]), grow.kEq (.slice (some ⟨ab, ao, none⟩) n c), grow.kEq (.slice (some ⟨ab, ao, none⟩) n c), grow.kEq (.int .i64 (n : Nat)), grow.kEq (.int .i64 ((n : Int) - 1)), grow.kEq (.int .i64 (j : Nat)), grow.kEq (.int .i64 (m : Nat)), grow.kEq (.pointer (some ⟨ab, ao + m, none⟩)), grow.kEq (zs), grow.kEq (.slice (some ⟨ab, ao, none⟩) n c), grow.kEq (.int .i64 (n : Nat)), grow.kEq (.int .i64 ((n : Int) - 1)), grow.kEq (.int .i64 (j : Nat)), grow.kEq (.int .i64 (m : Nat)), kTrieV (put (backN l n j) z (m : Int))] rfl rfl rfl (by kernel_rfl) (by kernel_rfl) (by kernel_rfl) (by kernel_rfl) (by kernel_rfl) ?step ?fin
            case step =>
              refine grow.EachL.cons ?_ ?_
              · intro A W hB hs hJ K hK
                have s0 := hs 11 (by kernel_rfl)
                simp at s0
                have kk := upc hB HC2.out.1
                rw [if_pos (by rfl)]
                clear hs hJ
                go_simp
                exact hK _ _ (Below.refl _ _) rfl
              refine grow.EachL.cons ?_ ?_
              · intro A W hB hs hJ K hK
                have s0 := hs 0 (by kernel_rfl)
                simp at s0
                rw [if_pos (by rfl)]
                clear hs hJ
                go_simp
                exact hK _ _ (Below.refl _ _) rfl
              refine grow.EachL.cons ?_ ?_
              · intro A W hB hs hJ K hK
                have s0 := hs 0 (by kernel_rfl)
                simp at s0
                rw [if_pos (by rfl)]
                clear hs hJ
                go_simp
                exact hK _ _ (Below.refl _ _) rfl
              refine grow.EachL.cons ?_ ?_
              · intro A W hB hs hJ K hK
                have s0 : A.tmps.getD 56 undef = .slice (some ⟨ab, ao, none⟩) n c := hJ 2 56 (by kernel_rfl) (by kernel_rfl)
                simp at s0
                rw [if_pos (by rfl)]
                clear hs hJ
                go_simp
                exact hK _ _ (Below.refl _ _) rfl
              refine grow.EachL.cons ?_ ?_
              · intro A W hB hs hJ K hK
                have s0 : A.tmps.getD 57 undef = .int .i64 (n : Nat) := hJ 3 57 (by kernel_rfl) (by kernel_rfl)
                simp at s0
                rw [if_pos (by rfl)]
                clear hs hJ
                go_simp
                exact hK _ _ (Below.refl _ _) rfl
              refine grow.EachL.cons ?_ ?_
              · intro A W hB hs hJ K hK
                have s0 := hs 12 (by kernel_rfl)
                simp at s0
                rw [if_pos (by rfl)]
                clear hs hJ
                go_simp
                exact hK _ _ (Below.refl _ _) rfl
              refine grow.EachL.cons ?_ ?_
              · intro A W hB hs hJ K hK
                have s0 : A.tmps.getD 58 undef = .int .i64 ((n : Int) - 1) := hJ 4 58 (by kernel_rfl) (by kernel_rfl)
                simp at s0
                have s1 : A.tmps.getD 59 undef = .int .i64 (j : Nat) := hJ 5 59 (by kernel_rfl) (by kernel_rfl)
                simp at s1
                rw [if_pos (by rfl)]
                clear hs hJ
                go_simp
                exact hK _ _ (Below.refl _ _) rfl
              refine grow.EachL.cons ?_ ?_
              · intro A W hB hs hJ K hK
                have s0 : A.tmps.getD 55 undef = .slice (some ⟨ab, ao, none⟩) n c := hJ 1 55 (by kernel_rfl) (by kernel_rfl)
                simp at s0
                have s1 : A.tmps.getD 60 undef = .int .i64 (m : Nat) := hJ 6 60 (by kernel_rfl) (by kernel_rfl)
                simp at s1
                rw [if_pos (by rfl)]
                clear hs hJ
                go_simp
                exact hK _ _ (Below.refl _ _) rfl
              refine grow.EachL.cons ?_ ?_
              · intro A W hB hs hJ K hK
                have s0 : A.tmps.getD 61 undef = .pointer (some ⟨ab, ao + m, none⟩) := hJ 7 61 (by kernel_rfl) (by kernel_rfl)
                simp at s0
                have kk := upc hB HC2.out.2
                rw [if_pos (by rfl)]
                clear hs hJ
                go_simp
                exact hK _ _ (Below.refl _ _) rfl
              refine grow.EachL.cons ?_ ?_
              · intro A W hB hs hJ K hK
                have s0 := hs 0 (by kernel_rfl)
                simp at s0
                rw [if_pos (by rfl)]
                clear hs hJ
                go_simp
                exact hK _ _ (Below.refl _ _) rfl
              refine grow.EachL.cons ?_ ?_
              · intro A W hB hs hJ K hK
                have s0 : A.tmps.getD 63 undef = .slice (some ⟨ab, ao, none⟩) n c := hJ 9 63 (by kernel_rfl) (by kernel_rfl)
                simp at s0
                rw [if_pos (by rfl)]
                clear hs hJ
                go_simp
                exact hK _ _ (Below.refl _ _) rfl
              refine grow.EachL.cons ?_ ?_
              · intro A W hB hs hJ K hK
                have s0 : A.tmps.getD 64 undef = .int .i64 (n : Nat) := hJ 10 64 (by kernel_rfl) (by kernel_rfl)
                simp at s0
                rw [if_pos (by rfl)]
                clear hs hJ
                go_simp
                exact hK _ _ (Below.refl _ _) rfl
              refine grow.EachL.cons ?_ ?_
              · intro A W hB hs hJ K hK
                have s0 := hs 12 (by kernel_rfl)
                simp at s0
                rw [if_pos (by rfl)]
                clear hs hJ
                go_simp
                exact hK _ _ (Below.refl _ _) rfl
              refine grow.EachL.cons ?_ ?_
              · intro A W hB hs hJ K hK
                have s0 : A.tmps.getD 65 undef = .int .i64 ((n : Int) - 1) := hJ 11 65 (by kernel_rfl) (by kernel_rfl)
                simp at s0
                have s1 : A.tmps.getD 66 undef = .int .i64 (j : Nat) := hJ 12 66 (by kernel_rfl) (by kernel_rfl)
                simp at s1
                rw [if_pos (by rfl)]
                clear hs hJ
                go_simp
                exact hK _ _ (Below.refl _ _) rfl
              refine grow.EachL.cons ?_ ?_
              · intro A W hB hs hJ K hK
                have s0 : A.tmps.getD 54 undef = .agg #[.pointer q] := hJ 0 54 (by kernel_rfl) (by kernel_rfl)
                simp at s0
                have s1 : A.tmps.getD 62 undef = zs := hJ 8 62 (by kernel_rfl) (by kernel_rfl)
                simp at s1
                have s2 : A.tmps.getD 67 undef = .int .i64 (m : Nat) := hJ 13 67 (by kernel_rfl) (by kernel_rfl)
                simp at s2
                rw [if_pos (by rfl)]
                clear hs hJ
                go_simp
                go_at_call 9
                refine (HQ.out W (HSB.out.h0.up hB)).mono ?_
                rintro e W2 ⟨q1, rfl, hq1, hb1⟩
                exact hK _ _ hb1 ⟨q1, rfl, hq1⟩
              exact grow.EachL.nil
            case fin =>
              intro f W hB hF
              have f0 : f 0 = .agg #[.pointer q] := hF 0 (by decide)
              have f1 : f 1 = .slice (some ⟨ab, ao, none⟩) n c := hF 1 (by decide)
              have f2 : f 2 = .slice (some ⟨ab, ao, none⟩) n c := hF 2 (by decide)
              have f3 : f 3 = .int .i64 (n : Nat) := hF 3 (by decide)
              have f4 : f 4 = .int .i64 ((n : Int) - 1) := hF 4 (by decide)
              have f5 : f 5 = .int .i64 (j : Nat) := hF 5 (by decide)
              have f6 : f 6 = .int .i64 (m : Nat) := hF 6 (by decide)
              have f7 : f 7 = .pointer (some ⟨ab, ao + m, none⟩) := hF 7 (by decide)
              have f8 : f 8 = zs := hF 8 (by decide)
              have f9 : f 9 = .slice (some ⟨ab, ao, none⟩) n c := hF 9 (by decide)
              have f10 : f 10 = .int .i64 (n : Nat) := hF 10 (by decide)
              have f11 : f 11 = .int .i64 ((n : Int) - 1) := hF 11 (by decide)
              have f12 : f 12 = .int .i64 (j : Nat) := hF 12 (by decide)
              have f13 : f 13 = .int .i64 (m : Nat) := hF 13 (by decide)
              obtain ⟨p2_14, f14, h2_14⟩ := hF 14 (by decide)
              clear hF
              intro A hA
              simp only [grow.puts, Act.put, List.getElem?_toArray, List.getElem?_cons_zero, List.getElem?_cons_succ, Option.bind_some, List.setIfInBounds_toArray, List.set_cons_zero, List.set_cons_succ, f0, f1, f2, f3, f4, f5, f6, f7, f8, f9, f10, f11, f12, f13, f14] at hA
              subst hA
              have ha8 := HSA.out.up hB
              have hs8 := HSB.out.up hB
              have c8 := cell_of_one hs8.b0
              have f8 := free_of_one hs8.b0
              have HE2 : Hid (∃ p q, St w G (fillN l (j + 1)) p (W.setCell ⟨G + 1, 0, none⟩ (.pointer p2_14)) ∧ St w (G + 1) (backN l n (j + 1)) q (W.setCell ⟨G + 1, 0, none⟩ (.pointer p2_14))) := Lib.hid ⟨p1_6, p2_14, ha8.other hs8.b0 hs8.g (by omega), by rw [show backN l n (j + 1) = put (backN l n j) (l.getD (n - 1 - j) []) ((n - 1 - j : Nat) : Int) from rfl, ← HY.out.2.2, ← HY.out.2.1]; exact hs8.set h2_14⟩
              clear ha8 hs8 h2_14 hB HSA HSB HC2 HQ
              go_simp
              go_wp2_with fail
              go_roundw
              case rel => exact ⟨j + 1, by go_num, hlt, HE2⟩
              case measure => simp [intOf]; omega
        · obtain rfl : n = j := by omega
          obtain ⟨p, q, hsa, hsb⟩ := HS.out
          rw [back_fill HAp.out] at hsb
          clear HS
          obtain ⟨T, hT⟩ : ∃ T, T = fillN l n := ⟨_, rfl⟩
          rw [← hT] at hsa hsb
          have hTc : cnt T = n := by rw [hT]; exact fillN_cntN HAp.out
          have hTg : ∀ i, i < n → get T (l.getD i []) = some (i : Int) := fun i hi => by rw [hT]; exact fillN_got HAp.out hi
          have hTd : Deep T 1048576 := by rw [hT]; exact deep_of (fillN_ok l n) fun u x h => fillN_len HA.out.2.2 (Nat.le_of_eq HA.out.1.symm) h
          have HT := Lib.hid (And.intro hTc (And.intro hTg hTd))
          have HST := Lib.hid (And.intro hsa hsb)
          obtain ⟨Hd, hHd⟩ : ∃ H, H = words T [] := ⟨_, rfl⟩
          obtain ⟨Ln, hLn⟩ : ∃ n, n = Hd.length := ⟨_, rfl⟩
          have hLm : Ln ≤ 1048576 := by rw [hLn, hHd, words_len]; omega
          have HW := Lib.hid (fun W (r : Option Addr) (h : In W T r) => Words_any W r T 1048576 h (by unfold most; omega) hTd (by omega))
          simp only [← hHd] at HW
          unfold RetW at HW
          simp only [← hLn] at HW
          have HD := Lib.hid (And.intro hLn hLm)
          have k0 := cell_of_one hsa.b0
          have k1 := cell_of_one hsb.b0
          have HK := Lib.hid (And.intro k0 k1)
          clear hT hTc hTg hTd hsa hsb j0 hge hHd hLn hLm k0 k1
          go_wp2_with fail
          refine grow.wp_grow [grow.kEq (.agg #[.pointer p]), kRow Hd Ln, grow.kEq (.agg #[.pointer q]), kRow Hd Ln, grow.kEq (.bool true), grow.kEq (.bool true)] (by kernel_rfl) (by kernel_rfl) (by kernel_rfl) (by kernel_rfl) ?step ?fin
          case step =>
            refine grow.Each.cons ?_ ?_
            · intro A W hB hs hJ K hK
              have s0 := hs 10 (by kernel_rfl)
              simp at s0
              have kk := upc hB HK.out.1
              rw [if_pos (by rfl)]
              clear hs hJ
              go_simp
              exact hK _ _ (Below.refl _ _) rfl
            refine grow.Each.cons ?_ ?_
            · intro A W hB hs hJ K hK
              have s0 : A.tmps.getD 69 undef = .agg #[.pointer p] := hJ 0 69 (by kernel_rfl) (by kernel_rfl)
              simp at s0
              rw [if_pos (by rfl)]
              clear hs hJ
              go_simp
              go_at_call 14
              refine (HW.out W p (HST.out.1.h0.up hB)).mono ?_
              rintro e W2 ⟨a3, c3, rfl, ho3, hb3⟩
              exact hK _ _ hb3 ⟨a3, c3, rfl, OwnW.reads (n := Hd.length) (by rw [← HD.out.1]; exact ho3)⟩
            refine grow.Each.cons ?_ ?_
            · intro A W hB hs hJ K hK
              have s0 := hs 11 (by kernel_rfl)
              simp at s0
              have kk := upc hB HK.out.2
              rw [if_pos (by rfl)]
              clear hs hJ
              go_simp
              exact hK _ _ (Below.refl _ _) rfl
            refine grow.Each.cons ?_ ?_
            · intro A W hB hs hJ K hK
              have s0 : A.tmps.getD 71 undef = .agg #[.pointer q] := hJ 2 71 (by kernel_rfl) (by kernel_rfl)
              simp at s0
              rw [if_pos (by rfl)]
              clear hs hJ
              go_simp
              go_at_call 14
              refine (HW.out W q (HST.out.2.h0.up hB)).mono ?_
              rintro e W2 ⟨a3, c3, rfl, ho3, hb3⟩
              exact hK _ _ hb3 ⟨a3, c3, rfl, OwnW.reads (n := Hd.length) (by rw [← HD.out.1]; exact ho3)⟩
            refine grow.Each.cons ?_ ?_
            · intro A W hB hs hJ K hK
              obtain ⟨a1, c1, s0, h1⟩ := hJ 1 70 (by kernel_rfl) (by kernel_rfl)
              simp at s0
              obtain ⟨a2, c2, s1, h2⟩ := hJ 3 72 (by kernel_rfl) (by kernel_rfl)
              simp at s1
              rw [if_pos (by rfl)]
              clear hs hJ
              go_simp
              go_at_call 16
              refine (sameV_any a1 a2 c1 c2 Ln Ln Hd Hd W HD.out.1.symm HD.out.1.symm h1 h2 (by have := HD.out.2; unfold maxLen; omega) true (decide_eq_true rfl)).mono ?_
              rintro e W2 ⟨rfl, qn, rfl⟩
              exact hK _ _ (belowDrewN _ _) rfl
            refine grow.Each.cons ?_ ?_
            · intro A W hB hs hJ K hK
              have s0 : A.tmps.getD 73 undef = .bool true := hJ 4 73 (by kernel_rfl) (by kernel_rfl)
              simp at s0
              rw [if_pos (by rfl)]
              clear hs hJ
              go_simp
              exact hK _ _ (Below.refl _ _) rfl
            exact grow.Each.nil
          case fin =>
            intro f W hB hF
            have f0 : f 0 = .agg #[.pointer p] := hF 0 (by decide)
            obtain ⟨a1_1, c1_1, f1, -⟩ := hF 1 (by decide)
            have f2 : f 2 = .agg #[.pointer q] := hF 2 (by decide)
            obtain ⟨a2_3, c2_3, f3, -⟩ := hF 3 (by decide)
            have f4 : f 4 = .bool true := hF 4 (by decide)
            have f5 : f 5 = .bool true := hF 5 (by decide)
            clear hF
            generalize hA : grow.puts _ _ f _ = A'
            simp only [List.length_cons, List.length_nil, Nat.reduceAdd, grow.puts, Act.put, List.getElem?_toArray, List.getElem?_cons_zero, List.getElem?_cons_succ, Option.bind_some, List.setIfInBounds_toArray, List.set_cons_zero, List.set_cons_succ, f0, f1, f2, f3, f4, f5] at hA
            subst hA
            have HS1 := Lib.hid (HST.out.1.up hB)
            clear hB HST HK HW
            have k0 := cell_of_one HS1.out.b0
            have HLn := Lib.hid (Len_any W p T HS1.out.h0)
            rw [HT.out.1] at HLn
            go_wp2_with fail
            refine HLn.out.mono ?_
            rintro e w3 ⟨rfl, hb3⟩
            have HS3 := Lib.hid (HS1.out.up hb3)
            clear HLn hb3 k0 HS1
            by_cases g1 : kk < 0
            · go_wp2_with fail
              go_ret
              exact ⟨rfl, HS3.out.bel⟩
            have g1d : decide (kk < 0) = false := by simpa using g1
            by_cases g2 : (n : Int) ≤ kk
            · go_wp2_with fail
              go_ret
              exact ⟨rfl, HS3.out.bel⟩
            have g2d : decide ((n : Int) ≤ kk) = false := by simpa using g2
            by_cases g3 : mm < 0
            · go_wp2_with fail
              go_ret
              exact ⟨rfl, HS3.out.bel⟩
            have g3d : decide (mm < 0) = false := by simpa using g3
            obtain ⟨k, rfl⟩ : ∃ k : Nat, kk = (k : Int) := ⟨kk.toNat, by omega⟩
            obtain ⟨m, rfl⟩ : ∃ m : Nat, mm = (m : Int) := ⟨mm.toNat, by omega⟩
            have hkn : k < n := by omega
            have hkn1 : (k : Int) < (n : Int) := by omega
            have hk0 : (0 : Int) ≤ (k : Int) := by omega
            have hm0 : (0 : Int) ≤ (m : Int) := by omega
            obtain ⟨ab, ao, rfl, hcell⟩ := HA.out.2.1.at (j := k) (by rw [HA.out.1]; exact hkn)
            obtain ⟨y, hy⟩ : ∃ y, y = l.getD k [] := ⟨_, rfl⟩
            have q1 := upc HS3.out.bel hcell
            rw [← hy] at q1
            have hln := fun ty W => sv_len y ty W
            have hty : get T y = some (k : Int) := by rw [hy]; exact HT.out.2.1 k hkn
            have hyl : y.length ≤ 1048576 := by rw [hy, List.getD_eq_getElem?_getD, List.getElem?_eq_getElem (by rw [HA.out.1]; exact hkn)]; exact HA.out.2.2 _ (List.getElem_mem _)
            have htk := fun (h : m ≤ y.length) W => sv_take y m h W
            obtain ⟨Y, hY⟩ : ∃ Y, Y = bw y := ⟨_, rfl⟩
            rw [sv_bw, ← hY] at q1
            simp only [sv_bw y, ← hY] at hln htk
            clear g1 g2 g3 hcell hy
            obtain ⟨yl, hyl2⟩ : ∃ yl, yl = y.length := ⟨_, rfl⟩
            simp only [← hyl2] at hln htk hyl
            by_cases g4 : yl < m
            · have g4i : (yl : Int) < (m : Int) := by omega
              clear hY hyl2 hty htk
              go_wp2_with fail
              go_ret
              exact ⟨rfl, HS3.out.bel⟩
            have g4d : decide ((yl : Int) < (m : Int)) = false := by simp; omega
            have ht := htk (by omega)
            obtain ⟨hd, hhd⟩ : ∃ hd, hd = y.take m := ⟨_, rfl⟩
            rw [← hhd] at ht
            have hhl : hd.length ≤ 1048576 := by rw [hhd, List.length_take]; omega
            obtain ⟨X, hX⟩ : ∃ X, X = bw hd := ⟨_, rfl⟩
            simp only [sv_bw hd, ← hX] at ht
            have k0 := cell_of_one HS3.out.b0
            obtain ⟨ws, hws⟩ : ∃ ws, ws = words (under T hd) hd := ⟨_, rfl⟩
            have hUn := Under_any w3 p T hd 1048576 HS3.out.h0 (by have := HT.out.1; unfold most; omega) HT.out.2.2 (by omega)
            rw [← hws, sv_bw, ← hX] at hUn
            unfold RetW at hUn
            obtain ⟨N, hN⟩ : ∃ N, N = ws.length := ⟨_, rfl⟩
            rw [← hN] at hUn
            have hNm : N ≤ 1048576 := by rw [hN, hws, words_len]; have := cnt_under T hd; have := HT.out.1; omega
            have hmem : (y, (k : Int)) ∈ ws := by
              have e : y = hd ++ y.drop m := by rw [hhd]; exact (List.take_append_drop m y).symm
              rw [hws, e]
              exact under_has (by rw [← e]; exact hty)
            have hst : ∀ i, i < N → startsB (ws.getD i ([], 0)).1 hd = true := fun i hi => by
              rw [hws]
              refine under_starts (t := T) (x := (ws.getD i ([], 0)).2) ?_
              rw [← hws, List.getD_eq_getElem?_getD, List.getElem?_eq_getElem (by omega)]
              exact List.getElem_mem _
            have HX := Lib.hid (And.intro hX (And.intro hY (And.intro hN (And.intro hmem hst))))
            have HUn := Lib.hid hUn
            clear hX hY hN hmem hst hUn hws hhd hhl htk hyl hty hyl2
            go_wp2_with fail
            refine HUn.out.mono ?_
            rintro e w4 ⟨a4, c4, rfl, ho4, hb4⟩
            clear HUn k0
            have H4 := Lib.hid (And.intro (OwnW.reads (n := ws.length) (by rw [← HX.out.2.2.1]; exact ho4)) (HS3.out.bel.trans (hb4.mono HS3.out.bel.size)))
            have HQ := Lib.hid (upc hb4 q1)
            clear ho4 hb4 HS3 q1 ht hln
            have HI : Hid ((false = true ↔ ∃ i, i < 0 ∧ ws.getD i ([], 0) = (y, (k : Int))) ∧ Below w4.heap.size w4 w4) := Lib.hid ⟨by simp, Below.refl _ _⟩
            obtain ⟨wo2, rfl⟩ : ∃ wo : World, wo = wr := ⟨_, rfl⟩
            go_wp2_with fail
            go_loopw [16, 17] (fun bv iv wr => ∃ (j : Nat) (b : Bool), bv = .bool b ∧ iv = .int .i64 j ∧ j ≤ N ∧ Hid ((b = true ↔ ∃ i, i < j ∧ ws.getD i ([], 0) = (y, (k : Int))) ∧ Below w4.heap.size w4 wr)) (fun _ iv _ => N - (intOf iv).toNat)
            case atStart => exact ⟨0, false, rfl, rfl, Nat.zero_le _, HI⟩
            case round =>
              obtain ⟨j, b, rfl, rfl, hj, HS⟩ := hrel
              have j0 : (0 : Int) ≤ (j : Int) := by omega
              clear HI
              rcases Nat.lt_or_ge j N with hlt | hge
              · have hlt1 : (j : Int) < (N : Int) := by omega
                have hw1 : IntKind.i64.wrap ((j : Int) + 1) = (j : Int) + 1 := IntWalk.i64_in _ (by omega)
                obtain ⟨gb, go, rfl, r1, r2⟩ := H4.out.1.at (k := j) (by rw [← HX.out.2.2.1]; exact hlt)
                obtain ⟨u, hu⟩ : ∃ u, u = ws.getD j ([], 0) := ⟨_, rfl⟩
                rw [← hu] at r1 r2
                obtain ⟨u1, u2⟩ := u
                have t1 := upc HS.out.2 r1
                have t2 := upc HS.out.2 r2
                have t3 := upc HS.out.2 HQ.out
                have hsb : startsB u1 hd = true := by have := HX.out.2.2.2.2 j hlt; rw [← hu] at this; exact this
                have HSt := Lib.hid (Starts_any wr u1 hd)
                rw [hsb, sv_bw, sv_bw, ← HX.out.1] at HSt
                dsimp only at t1 t2
                rw [sv_bw] at t1
                obtain ⟨U, hU⟩ : ∃ U, U = bw u1 := ⟨_, rfl⟩
                rw [← hU] at t1 HSt
                have hq : (U.toList == Y.toList) = (u1 == y) := by rw [hU, HX.out.2.1]; exact bw_eql _ _
                have Hu := Lib.hid hu
                have HSo := Lib.hid HS.out
                clear r1 r2 hsb hU hu HS
                go_wp2_with fail
                refine HSt.out.mono ?_
                rintro e w5 ⟨rfl, rfl⟩
                clear HSt
                cases b with
                | true =>
                  have HN : Hid (true = true ↔ ∃ i, i < j + 1 ∧ ws.getD i ([], 0) = (y, (k : Int))) := Lib.hid (by
                    obtain ⟨i, h1, h2⟩ := HSo.out.1.1 rfl
                    exact ⟨fun _ => ⟨i, by omega, h2⟩, fun _ => rfl⟩)
                  clear hq
                  go_wp2_with fail
                  go_quiet (fail)
                  have HN2 := Lib.hid (And.intro HN.out (HSo.out.2.trans ((belowDrewN _ nq).mono HSo.out.2.size)))
                  go_wp2_with fail
                  go_roundw
                  case rel => exact ⟨j + 1, true, rfl, by go_num, hlt, Lib.hid ⟨⟨fun _ => HN2.out.1.1 trivial, fun _ => rfl⟩, HN2.out.2⟩⟩
                  case measure => simp [intOf]; omega
                | false =>
                  by_cases e1h : u1 = y
                  · by_cases e2h : u2 = (k : Int)
                    · rw [show (u1 == y) = true by simp [e1h]] at hq
                      have hv : (u2 == (k : Int)) = true := by simp [e2h]
                      have HN : Hid (true = true ↔ ∃ i, i < j + 1 ∧ ws.getD i ([], 0) = (y, (k : Int))) := Lib.hid (by
                        exact ⟨fun _ => ⟨j, Nat.lt_succ_self _, by rw [← Hu.out, e1h, e2h]⟩, fun _ => rfl⟩)
                      go_wp2_with fail
                      go_quiet (fail)
                      have HN2 := Lib.hid (And.intro HN.out (HSo.out.2.trans ((belowDrewN _ nq).mono HSo.out.2.size)))
                      go_wp2_with fail
                      go_roundw
                      case rel => exact ⟨j + 1, true, rfl, by go_num, hlt, Lib.hid ⟨⟨fun _ => HN2.out.1.1 trivial, fun _ => rfl⟩, HN2.out.2⟩⟩
                      case measure => simp [intOf]; omega
                    · rw [show (u1 == y) = true by simp [e1h]] at hq
                      have hv : (u2 == (k : Int)) = false := by simp [e2h]
                      have HN : Hid (false = true ↔ ∃ i, i < j + 1 ∧ ws.getD i ([], 0) = (y, (k : Int))) := Lib.hid (by
                        refine ⟨fun h => absurd h (by decide), ?_⟩
                        rintro ⟨i, h1, h2⟩
                        exfalso
                        rcases Nat.lt_or_ge i j with h3 | h3
                        · exact absurd (HSo.out.1.2 ⟨i, h3, h2⟩) (by decide)
                        · obtain rfl : i = j := by omega
                          rw [← Hu.out] at h2
                          cases h2
                          exact e2h rfl)
                      go_wp2_with fail
                      go_quiet (fail)
                      have HN2 := Lib.hid (And.intro HN.out (HSo.out.2.trans ((belowDrewN _ nq).mono HSo.out.2.size)))
                      go_wp2_with fail
                      go_roundw
                      case rel => exact ⟨j + 1, false, rfl, by go_num, hlt, HN2⟩
                      case measure => simp [intOf]; omega
                  · rw [show (u1 == y) = false by simp [e1h]] at hq
                    have HN : Hid (false = true ↔ ∃ i, i < j + 1 ∧ ws.getD i ([], 0) = (y, (k : Int))) := Lib.hid (by
                      refine ⟨fun h => absurd h (by decide), ?_⟩
                      rintro ⟨i, h1, h2⟩
                      exfalso
                      rcases Nat.lt_or_ge i j with h3 | h3
                      · exact absurd (HSo.out.1.2 ⟨i, h3, h2⟩) (by decide)
                      · obtain rfl : i = j := by omega
                        rw [← Hu.out] at h2
                        cases h2
                        exact e1h rfl)
                    go_wp2_with fail
                    go_quiet (fail)
                    have HN2 := Lib.hid (And.intro HN.out (HSo.out.2.trans ((belowDrewN _ nq).mono HSo.out.2.size)))
                    go_wp2_with fail
                    go_roundw
                    case rel => exact ⟨j + 1, false, rfl, by go_num, hlt, HN2⟩
                    case measure => simp [intOf]; omega
              · obtain rfl : N = j := by omega
                have hb : b = true := by
                  obtain ⟨i, hi, e⟩ := List.getElem_of_mem HX.out.2.2.2.1
                  exact HS.out.1.2 ⟨i, by rw [HX.out.2.2.1]; exact hi, by rw [List.getD_eq_getElem?_getD, List.getElem?_eq_getElem hi]; exact e⟩
                subst hb
                have HF := Lib.hid (H4.out.2.trans (HS.out.2.mono H4.out.2.size))
                clear HS
                go_wp2_with fail
                go_ret
                exact ⟨rfl, HF.out⟩
theorem order_any (a : Option Addr) (c : Nat) (l : List Wd) (kk mm : Int) (w : World) (hb : l.length ≤ 1048576 ∧ ∀ x ∈ l, x.length ≤ 1048576) (hr : ReadsS w a l) :
    Calls Try.prog 5 #[.slice a l.length c, .int .i64 kk, .int .i64 mm] w (Yes w) := order_law a c l.length l kk mm w rfl hb.1 hb.2 hr
end Go.Proofs.Yteglhcpochcopaa.trie
