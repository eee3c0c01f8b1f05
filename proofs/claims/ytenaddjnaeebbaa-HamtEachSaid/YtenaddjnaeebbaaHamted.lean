/- 'hamted' is true. -/
import Derived.Test.YtenaddjnaeebbaaHamtG
import Derived.Test.YtenaddjnaeebbaaPatG
namespace Go.Proofs.Ytenaddjnaeebbaa.hamt
open Go.RowKit
open pat (PT OOk ocnt olist oput odrop oget tk I64 tk_lt tk_inj lk told telled Yes i64_lit fill fill_snoc fill_ok fill_cnt oput_spec odrop_spec oget_eq told_ext told_length cnt_oput_le cnt_odrop_le cnt_drop_has known known_ok known_get known_cnt kRow kOwnR Row PT.cnt Ok)

theorem known_len (B : Nat) (w : World) (p : Option Addr) (h : HO B w p known) :
    Calls Try.prog 10 #[.agg #[.pointer p]] w fun e w' => e = .returned (.int .i64 2) ∧ Below w.heap.size w w' := by
  have h := Len_any B w p _ h
  rw [known_cnt] at h
  exact h

set_option maxHeartbeats 4000000 in
theorem hamted_any (w : World) : Calls Try.prog 14 #[] w (Yes w) := by
  have HP1 := Lib.hid (fun W => Put_any W.heap.size W none none 5 7 (Nat.le_refl _) (HO.nil _ _) trivial (i64_lit (by decide) (by decide)) (by simp [ocnt]))
  have HP2 := Lib.hid (fun B W p hB h => Put_any B W p (some (.leaf (tk 5) 7)) (-3) 9 hB h (tk_lt (i64_lit (by decide) (by decide))) (i64_lit (by decide) (by decide)) (by simp [ocnt, PT.cnt]))
  have HG := Lib.hid (fun B W p h => Get_any B W p known 5 h known_ok (i64_lit (by decide) (by decide)) (some 7) known_get)
  have hn := heap_alloc_new w (.cells #[.pointer none] 25)
  have Hn := Lib.hid hn
  clear hn
  go_enter Try.func14, Try.ntmps14
  go_wp2_with fail
  refine (HP1.out _).mono ?_
  rintro e w1 ⟨p1, rfl, hp1, hb1⟩
  have H1 := Lib.hid (And.intro hp1 hb1)
  clear hp1 hb1
  go_wp2_with fail
  refine (HP2.out _ _ _ H1.out.2.size H1.out.1).mono ?_
  rintro e w2 ⟨p2, rfl, hp2, hb2⟩
  have hn2 := upb (belowTrans H1.out.2 hb2) Hn.out
  have c2 := cell_of_one hn2
  have f2 := free_of_one hn2
  have hset := one_setCell (u := .pointer p2) hn2
  have hbel : Below w.heap.size w (w2.setCell ⟨w.heap.size, 0, none⟩ (.pointer p2)) := belowSet (a := ⟨w.heap.size, 0, none⟩) (belowTrans (belowAlloc w _) (belowTrans H1.out.2 hb2)) (Nat.le_refl _) _
  have hk := HO.store (k := w.heap.size) (off := 0) (u := .pointer p2) hn2 (by decide) hp2
  obtain ⟨V, hV⟩ : ∃ V, V = w2.setCell ⟨w.heap.size, 0, none⟩ (.pointer p2) := ⟨_, rfl⟩
  have kV3 := cell_of_one hset
  rw [← hV] at hset hbel hk
  have kV := cell_of_one hset
  have HV := Lib.hid hV
  have HK := Lib.hid (And.intro hk (And.intro hbel hset))
  clear hn2 hset hbel hk hV hp2 hb2
  go_wp2_with fail
  rw [← HV.out]
  refine (HG.out _ _ _ HK.out.1).mono ?_
  rintro e w3 ⟨rfl, hb3⟩
  have hs3 := upb hb3 HK.out.2.2
  have k3 := cell_of_one hs3
  have HL := Lib.hid (known_len _ w3 p2 (HK.out.1.up hb3))
  have Hb3 := Lib.hid (belowTrans HK.out.2.1 hb3)
  clear hs3 hb3 kV kV3 c2 f2
  go_wp2_with ((with_reducible refine HL.out.mono ?_); rintro e w4 ⟨rfl, hb4⟩; have Hb4 := Lib.hid hb4; clear hb4)
  go_ret
  exact ⟨rfl, belowTrans Hb3.out Hb4.out⟩
end Go.Proofs.Ytenaddjnaeebbaa.hamt
