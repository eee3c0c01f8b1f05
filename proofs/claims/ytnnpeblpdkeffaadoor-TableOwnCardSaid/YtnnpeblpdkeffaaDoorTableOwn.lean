/- The law of who writes into a list: package table. Whatever the list: true; what was there stays. -/
import Derived.Test.YtnnpeblpdkeffaaDoorTabM
import Derived.Test.YtnnpeblpdkeffaaDoorErrAs
import Derived.Test.YtnnpeblpdkeffaaDoorCat
import Derived.Test.YtnnpeblpdkeffaaDoorFill
namespace Go.Proofs.YtnnpeblpdkeffaaDoor.table
open Go.RowKit Go

set_option maxHeartbeats 400000 in
theorem told2_any (k m : Int) (w : World) (hg : er.Handle w) : Calls Tryd.prog 8 #[er.errV k, er.errV m] w fun e w' => e = .returned (.bool (k == m)) ∧ Below w.heap.size w w' := by
  have H1 := Lib.hid (er.told_any k w hg)
  have H2 := Lib.hid (fun W (hW : Below w.heap.size w W) => er.told_any m W (hg.up hW))
  obtain ⟨v1, hv1⟩ : ∃ v1, v1 = er.errV k := ⟨_, rfl⟩
  obtain ⟨v2, hv2⟩ : ∃ v2, v2 = er.errV m := ⟨_, rfl⟩
  rw [← hv1] at H1 ⊢
  rw [← hv2] at H2 ⊢
  clear hv1 hv2 hg
  go_enter Tryd.func8, Tryd.ntmps8
  go_wp2_with fail
  refine H1.out.mono ?_
  rintro e w1 ⟨rfl, hb1⟩
  have H2' := Lib.hid (H2.out w1 hb1)
  have Hb1 := Lib.hid hb1
  clear hb1 H1 H2
  go_wp2_with fail
  refine H2'.out.mono ?_
  rintro e w2 ⟨rfl, hb2⟩
  have Hb2 := Lib.hid (belowTrans Hb1.out hb2)
  clear hb2 H2'
  go_wp2_with fail
  go_ret
  exact ⟨rfl, Hb2.out⟩
set_option maxHeartbeats 400000 in
theorem Rows_any (base tb n : Nat) (L : List Int) (rows : List (List Nat)) (w : World) (h : TB base tb n L rows w) : Calls Tryd.prog 6 #[.pointer (some ⟨tb, 0, none⟩)] w fun e w' => e = .returned (.int .i64 (rows.length : Nat)) ∧ Below w.heap.size w w' := by
  obtain ⟨ra, rc, hc, _⟩ := h.rw
  obtain ⟨K, hK⟩ : ∃ K, K = rows.length := ⟨_, rfl⟩
  rw [← hK] at hc ⊢
  clear h hK
  go_enter Tryd.func6, Tryd.ntmps6
  go_wp2_with fail
  go_ret
  exact ⟨rfl, Below.refl _ _⟩
theorem own_cap {w : World} {B n c : Nat} {a : Option Addr} {xs : List Int} (h : OwnI 3 w B (.slice a n c) xs) : xs.length ≤ c := by
  rcases h.2 with ⟨e1, e2⟩ | ⟨g, cap, cur, e1, _, _, e3, _⟩
  · omega
  · injection e1 with _ _ e4
    omega
/-- a row of the call's own in which a number is written has a block -/
theorem own_block {w : World} {B n c k : Nat} {a : Option Addr} {xs : List Int} (h : OwnI 3 w B (.slice a n c) xs) (hk : k < xs.length) : ∃ g, a = some ⟨g, 0, none⟩ := by
  rcases h.2 with ⟨e1, e2⟩ | ⟨g, cap, cur, e1, _⟩
  · omega
  · injection e1 with e4 _ _
    exact ⟨g, e4⟩
theorem Fm.filled {E B n base : Nat} {v : Value} {w wr : World} (h : Filled E B v n w wr) (hv : ∀ b, v.ownBlock = some b → b < base) : Fm base w wr := by
  intro b o u hb hc
  have e := h.block b (fun e => by have := hv b e; omega)
  unfold World.cell? at hc ⊢
  rw [show (⟨b, o, none⟩ : Addr).block = b from rfl] at hc ⊢
  rw [e]
  exact hc
/-- the rows of a table of one number -/
theorem rows_one {rows : List (List Nat)} (h : ∀ j, j < rows.length ↔ 2 ^ j ≤ 1) : rows.length = 1 := by
  have h0 := (h 0).2 (by decide)
  have h1 := mt (h 1).1 (by decide)
  omega
theorem rows_few {n : Nat} {rows : List (List Nat)} (hn : n ≤ 5000) (h : ∀ j, j < rows.length ↔ 2 ^ j ≤ n) : rows.length ≤ 20000 := by
  rcases Nat.lt_or_ge 5001 rows.length with h1 | h1
  · have h2 := (h 5001).1 h1
    have h3 := @Nat.lt_two_pow_self 5001
    omega
  · omega
theorem New5 (w : World) : Calls Tryd.prog 5 #[.slice (some ⟨w.heap.size, 0, none⟩) 1 1] (w.alloc (.cells #[.int .i64 5] 3)) (RetT (w.alloc (.cells #[.int .i64 5] 3)) 1 [5]) :=
  New_any _ _ _ 1 [5] rfl (by decide) (.inr ⟨_, 0, rfl, fun i hi => by
    rw [cell_of_row _ _ _ _ _ _ (heap_alloc_new w _)]
    rcases i with _ | i
    · rfl
    · simp at hi⟩) (fun h => by cases h)
set_option maxRecDepth 100000 in
set_option maxHeartbeats 8000000 in
theorem law (a : Option Addr) (c : Nat) (p : List Int) (i j x : Int) (w : World) (hlen : p.length * 8 ≤ 140737488351232) (hr : Reads w a p) (hnn : a = none → c = 0) (hg : er.Handle w) :
    Calls Tryd.prog 3 #[.slice a p.length c, .int .i64 i, .int .i64 j, .int .i64 x] w fun e w' => e = .returned (.bool true) ∧ Below w.heap.size w w' := by
  have hcat := cat_any a c p w hlen hr hnn
  obtain ⟨n, hnl⟩ : ∃ n, n = p.length := ⟨_, rfl⟩
  rw [← hnl] at hcat ⊢
  have Hn := Lib.hid hnl
  have Hg := Lib.hid hg
  clear hr hnn hlen hnl hg
  by_cases hbig : 5000 < n
  · go_enter Tryd.func3, Tryd.ntmps3
    go_wp2_with fail
    refine hcat.mono ?_
    rintro e w1 ⟨a1, c1, rfl, ho1, hb1⟩
    rw [← Hn.out]
    have HNew := Lib.hid (New_big w1 a1 c1 n hbig)
    have H1 := Lib.hid hb1
    rw [show er.errV 4 = .iface 34 (.int .i64 4) from rfl] at HNew
    clear ho1 hb1 hcat
    go_wp2_with fail
    refine HNew.out.mono ?_
    rintro e w2 ⟨rfl, hb2⟩
    have H5 := Lib.hid (New5 w2)
    have H2 := Lib.hid (belowTrans H1.out hb2)
    clear hb2 HNew H1
    go_wp2_with fail
    refine H5.out.mono ?_
    rintro e w3 ⟨tb, rows, rfl, htb, _, hrows, hb3⟩
    have HR := Lib.hid (Rows_any _ tb 1 [5] rows w3 htb)
    rw [rows_one hrows] at HR
    have H3 := Lib.hid (belowTrans H2.out (belowTrans (belowAlloc w2 _) hb3))
    clear htb hrows hb3 H5 H2
    go_wp2_with fail
    refine HR.out.mono ?_
    rintro e w4 ⟨rfl, hb4⟩
    have H4 := Lib.hid (belowTrans H3.out hb4)
    clear hb4 HR H3
    go_wp2_with fail
    go_ret
    exact ⟨rfl, H4.out⟩
  · go_enter Tryd.func3, Tryd.ntmps3
    go_wp2_with fail
    refine hcat.mono ?_
    rintro e w1 ⟨a1, c1, rfl, ho1, hb1⟩
    rw [← Hn.out]
    have HNew := Lib.hid (New_any w1 a1 c1 n p Hn.out (by omega) ho1.reads ho1.none)
    have H1 := Lib.hid (And.intro ho1 hb1)
    clear ho1 hb1 hcat
    go_wp2_with fail
    refine HNew.out.mono ?_
    rintro e w2 ⟨tb, rows, rfl, htb, hgd, hrw, hb2⟩
    obtain ⟨v, cd, hL⟩ := Least_any n p rows (by omega) hgd (rows_few (by omega) hrw) i j
    have HLs := Lib.hid hL
    have HTB := Lib.hid htb
    have H5 := Lib.hid (New5 w2)
    have H2 := Lib.hid hb2
    clear hb2 HNew htb hgd hrw hL
    go_wp2_with fail
    refine H5.out.mono ?_
    rintro e w3 ⟨tb5, rows5, rfl, htb5, _, hrows5, hb3⟩
    have HR := Lib.hid (Rows_any _ tb5 1 [5] rows5 w3 htb5)
    rw [rows_one hrows5] at HR
    have H3 := Lib.hid (belowTrans (belowAlloc w2 _) hb3)
    clear htb5 hrows5 hb3 H5
    go_wp2_with fail
    refine HR.out.mono ?_
    rintro e w4 ⟨rfl, hb4⟩
    have HL1 := Lib.hid (HLs.out _ tb w4 (HTB.out.fm (Fm.of (belowTrans H3.out hb4))))
    have HTB4 := Lib.hid (HTB.out.fm (Fm.of (belowTrans H3.out hb4)))
    have H4 := Lib.hid (belowTrans H2.out (belowTrans H3.out hb4))
    obtain ⟨ev, hev⟩ : ∃ ev, ev = er.errV cd := ⟨_, rfl⟩
    rw [← hev] at HL1
    have HE := Lib.hid hev
    clear hb4 HR H3 HTB H2 hev
    go_wp2_with fail
    refine HL1.out.mono ?_
    rintro e w5 ⟨rfl, hb5⟩
    have hO5 : OwnI 3 w5 w.heap.size (.slice a1 n c1) p := by
      have h := H1.out.1
      rw [← Hn.out] at h
      exact h.up (belowTrans H4.out hb5)
    have HO := Lib.hid hO5
    have HX := Lib.hid (And.intro (belowTrans H1.out.2 (belowTrans H4.out hb5)) (HTB4.out.fm (Fm.of hb5)))
    have Hlt : Hid (∀ b, (Value.slice a1 n c1).ownBlock = some b → b < w1.heap.size ∧ w.heap.size ≤ b) := Lib.hid fun b hb => by
      have h := H1.out.1
      rw [← Hn.out] at h
      exact ⟨(h.block b hb).2, (h.block b hb).1⟩
    clear hb5 hO5 HL1 H4 HTB4 H1
    go_wp2_with fail
    go_loopw [16] (fun kv wr => ∃ k : Nat, k ≤ n ∧ kv = .int .i64 k ∧ Hid (Filled 3 w.heap.size (.slice a1 n c1) n w5 wr)) (fun kv _ => n - (intOf kv).toNat)
    case atStart => exact ⟨0, Nat.zero_le _, rfl, Lib.hid (Filled.start (by have h := HO.out; unfold OwnI at h; rw [← Hn.out] at h; exact h))⟩
    case round =>
      obtain ⟨k, hk, rfl, HF⟩ := hrel
      by_cases hlt : k < n
      · obtain ⟨g, rfl⟩ := own_block HO.out (k := k) (by rw [← Hn.out]; exact hlt)
        obtain ⟨u, hc, hf⟩ := HF.out.cell k hlt
        have HF' := Lib.hid (HF.out.step k (.int .i64 (wrap64 (x - (k : Int)))))
        have h0 : (0 : Int) ≤ (k : Int) := by omega
        have h1 : (k : Int) < (n : Int) := by omega
        go_wp2_with fail
        exact ⟨⟨k + 1, by omega, by go_num, HF'⟩, by simp [intOf]; omega⟩
      · have htb6 := HX.out.2.fm (Fm.filled HF.out (fun b hb => (Hlt.out b hb).1))
        have hb6 := HF.out.below HX.out.1 (fun b hb => (Hlt.out b hb).2)
        have HL2 := Lib.hid (HLs.out _ tb wr htb6)
        rw [← HE.out] at HL2
        have Hb6 := Lib.hid hb6
        clear htb6 hb6 HF HO HX Hlt
        go_wp2_with fail
        refine HL2.out.mono ?_
        rintro e w7 ⟨rfl, hb7⟩
        have HT := Lib.hid (told2_any cd cd w7 (Hg.out.up (belowTrans Hb6.out hb7)))
        rw [← HE.out] at HT
        have Hb7 := Lib.hid (belowTrans Hb6.out hb7)
        clear hb7 HL2 Hb6
        go_wp2_with fail
        refine HT.out.mono ?_
        rintro e w8 ⟨rfl, hb8⟩
        rw [beq_self_eq_true]
        have Hb8 := Lib.hid (belowTrans Hb7.out hb8)
        clear hb8 HT Hb7
        go_wp2_with fail
        go_ret
        exact ⟨rfl, Hb8.out⟩
end Go.Proofs.YtnnpeblpdkeffaaDoor.table
