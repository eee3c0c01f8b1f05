/- The walks of package treap, the second part: put, Put. -/
import Derived.Test.YtcjhbpnmkahkeaaTreap
import Derived.Test.YtcjhbpnmkahkeaaTreapQ
namespace Go.Proofs.Ytcjhbpnmkahkeaa.treap
open Go.RowKit

set_option maxHeartbeats 4000000 in
theorem put_any (B : Nat) (x y : Int) (t : BT A) : ∀ (w : World) (p : Option Addr), B ≤ w.heap.size → In B w p t → t.size ≤ 1152921504606844000 →
    Calls Try.prog 91 #[.pointer p, .int .i64 x, .int .i64 y] w (Ret B w (PutQ x t)) := by
  induction t with
  | nil =>
    intro w p hB h _
    obtain rfl : p = none := h
    have hS := split_any B x .nil w none hB rfl (by simp [BT.size])
    have HS := Lib.hid hS
    clear hS
    go_enter Try.func91, Try.ntmps91
    go_wp2_with fail
    refine HS.out.mono ?_
    rintro e w1 ⟨p1, t1, has, p2, t2, rfl, hq, hp1, hp2, hb1⟩
    go_wp2_with fail
    refine (made_any B w1 p1 t1 x y p2 t2 (szle hb1 hB) hp1 hp2 (by simp only [BT.size] at hq; omega)).mono ?_
    rintro e w2 ⟨p3, _, rfl, rfl, hp3, hb2⟩
    have Hq := Lib.hid hq
    clear hq
    go_wp2_with fail
    go_ret
    exact RetQ.mk ⟨by have h := Hq.out; simp only [BT.size] at h ⊢; omega, by simp only [BT.size]; omega⟩ hp3 (belowTrans hb1 hb2)
  | node a l r ihl ihr =>
    intro w p hB h hn
    obtain ⟨tx, tp⟩ := a
    have hS := split_any B x (.node (tx, tp) l r) w p hB h (by omega)
    obtain ⟨b, pl, pr, rfl, hBb, hb, hl, hr⟩ := id h
    simp only [BT.size] at hn hS
    have k0 : w.cell? ⟨b, 0, none⟩ = some (.int .i64 tx) := c0 hb
    have k1 : w.cell? ⟨b, 1, none⟩ = some (.int .i64 tp) := cp hb
    have kl := cl hb
    have kr := cr hb
    have hA := above_any b w pl pr (tx, tp) l r x y hb
    have HS := Lib.hid hS
    have HA := Lib.hid hA
    have HH := Lib.hid h
    obtain ⟨v, hv⟩ : ∃ v, v = abv tp tx y x := ⟨_, rfl⟩
    have hA2 := HA.out
    simp only [← hv] at hA2
    have HA2 := Lib.hid hA2
    clear hb hBb h hS hA hA2 HA hv
    by_cases hc : v = false ∧ tx ≠ x
    · obtain ⟨rfl, hne⟩ := hc
      have hne1 : (tx != x) = true := by simpa using hne
      clear hne ihl ihr
      go_enter Try.func91, Try.ntmps91
      go_wp2_with fail
      refine HA2.out.mono ?_
      rintro e w1 ⟨rfl, rfl⟩
      go_wp2_with fail
      refine HS.out.mono ?_
      rintro e w1 ⟨p1, t1, has, p2, t2, rfl, hq, hp1, hp2, hb1⟩
      go_wp2_with fail
      refine (made_any B w1 p1 t1 x y p2 t2 (szle hb1 hB) hp1 hp2 (by omega)).mono ?_
      rintro e w2 ⟨p3, _, rfl, rfl, hp3, hb2⟩
      have Hq := Lib.hid hq
      clear hq
      go_wp2_with fail
      go_ret
      exact RetQ.mk ⟨by have h := Hq.out; simp only [BT.size]; omega, by simp only [BT.size]; omega⟩ hp3 (belowTrans hb1 hb2)
    · have hI1 := fun w hB hl => ihl w pl hB hl (by omega)
      have hI2 := fun w hB hr => ihr w pr hB hr (by omega)
      have HI1 := Lib.hid hI1
      have HI2 := Lib.hid hI2
      have HC : Hid (v = true ∨ (tx != x) = false) := Lib.hid (by
        cases v with
        | true => exact .inl rfl
        | false => right; simp only [bne_eq_false_iff_eq]; exact Classical.byContradiction fun h => hc ⟨rfl, h⟩)
      clear hI1 hI2 ihl ihr hc HS
      rcases Int.lt_trichotomy x tx with hlt | heq | hgt
      · have hv : v = true := by
          rcases HC.out with h | h
          · exact h
          · simp at h; omega
        subst hv
        clear HC
        go_enter Try.func91, Try.ntmps91
        go_wp2_with fail
        refine HA2.out.mono ?_
        rintro e w1 ⟨rfl, rfl⟩
        go_wp2_with fail
        go_region_held3 (fun w' => w'.cell? ⟨b, 0, none⟩ = some (.int .i64 tx) ∧ w'.cell? ⟨b, 1, none⟩ = some (.int .i64 tp) ∧ w'.cell? ⟨b, 3, none⟩ = some (.pointer pl) ∧ w'.cell? ⟨b, 4, none⟩ = some (.pointer pr)) (first | exact ⟨k0_2, k1_2, kl_2, kr_2⟩ | exact ⟨k0_1, k1_1, kl_1, kr_1⟩ | exact ⟨k0, k1, kl, kr⟩ | go_keep)
          (first
            | (go_at_call 91; refine (HI1.out _ (by exact szle (belowDrew w) hB) (by exact hl.up (belowDrew w))).mono ?_; rintro e w1 ⟨p1, t1, rfl, q1, hp1, hb1⟩; replace hb1 := belowTrans (belowDrew w) hb1; have k0_1 := upc hb1 k0; have k1_1 := upc hb1 k1; have kl_1 := upc hb1 kl; have kr_1 := upc hb1 kr)
            | (go_at_call 112; refine (made_any B _ _ t1 tx tp _ r (by exact szle hb1 hB) (by exact hp1) (by exact hr.up hb1) (by have := q1.1; omega)).mono ?_; rintro e w2 ⟨p2, _, rfl, rfl, hp2, hb2⟩; have k0_2 := upc hb2 k0_1; have k1_2 := upc hb2 k1_1; have kl_2 := upc hb2 kl_1; have kr_2 := upc hb2 kr_1))
        have hbel2 := (belowTrans hb1 hb2)
        go_wp2_with fail
        go_ret
        exact RetQ.mk ⟨by have h := q1.1; simp only [BT.size]; omega, by simp only [BT.size]; omega⟩ hp2 hbel2
      · subst heq
        have hx : (x != x) = false := by simp
        clear HC
        go_enter Try.func91, Try.ntmps91
        go_wp2_with fail
        refine HA2.out.mono ?_
        rintro e w1 ⟨rfl, rfl⟩
        cases v
        · go_wp2_with fail
          go_ret
          exact RetQ.mk ⟨Nat.le_succ _, by simp only [BT.size]; omega⟩ HH.out (Below.refl _ _)
        · go_wp2_with fail
          go_ret
          exact RetQ.mk ⟨Nat.le_succ _, by simp only [BT.size]; omega⟩ HH.out (Below.refl _ _)
      · have hv : v = true := by
          rcases HC.out with h | h
          · exact h
          · simp at h; omega
        subst hv
        clear HC
        go_enter Try.func91, Try.ntmps91
        go_wp2_with fail
        refine HA2.out.mono ?_
        rintro e w1 ⟨rfl, rfl⟩
        go_wp2_with fail
        go_region_held3 (fun w' => w'.cell? ⟨b, 0, none⟩ = some (.int .i64 tx) ∧ w'.cell? ⟨b, 1, none⟩ = some (.int .i64 tp) ∧ w'.cell? ⟨b, 3, none⟩ = some (.pointer pl) ∧ w'.cell? ⟨b, 4, none⟩ = some (.pointer pr)) (first | exact ⟨k0_2, k1_2, kl_2, kr_2⟩ | exact ⟨k0_1, k1_1, kl_1, kr_1⟩ | exact ⟨k0, k1, kl, kr⟩ | go_keep)
          (first
            | (go_at_call 91; refine (HI2.out _ (by exact szle (belowDrew w) hB) (by exact hr.up (belowDrew w))).mono ?_; rintro e w1 ⟨p1, t1, rfl, q1, hp1, hb1⟩; replace hb1 := belowTrans (belowDrew w) hb1; have k0_1 := upc hb1 k0; have k1_1 := upc hb1 k1; have kl_1 := upc hb1 kl; have kr_1 := upc hb1 kr)
            | (go_at_call 112; refine (made_any B _ _ l tx tp _ t1 (by exact szle hb1 hB) (by exact hl.up hb1) (by exact hp1) (by have := q1.1; omega)).mono ?_; rintro e w2 ⟨p2, _, rfl, rfl, hp2, hb2⟩; have k0_2 := upc hb2 k0_1; have k1_2 := upc hb2 k1_1; have kl_2 := upc hb2 kl_1; have kr_2 := upc hb2 kr_1))
        have hbel2 := (belowTrans hb1 hb2)
        go_wp2_with fail
        go_ret
        exact RetQ.mk ⟨by have h := q1.1; simp only [BT.size]; omega, by simp only [BT.size]; omega⟩ hp2 hbel2

set_option maxHeartbeats 4000000 in
theorem Put_any (B : Nat) (w : World) (p : Option Addr) (t : BT A) (x : Int) (hB : B ≤ w.heap.size) (h : In B w p t) (hn : t.size ≤ 1152921504606844000) :
    Calls Try.prog 65 #[.agg #[.pointer p], .int .i64 x] w (RetS B w (PutQ x t)) := by
  have h1 := belowTrans (belowAlloc w (.cells #[.pointer p] 50)) (belowAlloc _ (.cells #[.pointer none] 50))
  have hz := heapNew2 w (.cells #[.pointer p] 50) (.cells #[.pointer none] 50)
  have hz0 := heapNew1 w (.cells #[.pointer p] 50) (.cells #[.pointer none] 50)
  obtain ⟨W, hW⟩ : ∃ W, W = (w.alloc (.cells #[.pointer p] 50)).alloc (.cells #[.pointer none] 50) := ⟨_, rfl⟩
  rw [← hW] at h1 hz hz0
  have hB1 := szle h1 hB
  have hin := h.up h1
  have kz := cell_of_one hz0
  have hsz : w.heap.size + 1 < W.heap.size := by rw [hW]; simp
  have HZ := Lib.hid hz
  have HW := Lib.hid hW
  have H1 := Lib.hid h1
  clear hW hz hz0 h hB h1
  have hB := hB1
  clear hB1
  have hpr : ∀ y w, B ≤ w.heap.size → In B w p t → Calls Try.prog 91 #[.pointer p, .int .i64 x, .int .i64 y] w (Ret B w (PutQ x t)) := fun y w hB h => put_any B x y t w p hB h hn
  have HP := Lib.hid hpr
  clear hpr
  go_enter Try.func65, Try.ntmps65
  go_wp2_with fail
  rw [← HW.out]
  go_region_held3 (fun w' => w'.cell? ⟨w.heap.size, 0, none⟩ = some (.pointer p)) (first | exact kz_1 | exact kz | go_keep)
    (first
      | (go_at_call 92; refine (prio_any _ _).mono ?_; rintro e wq ⟨⟨y, rfl⟩, rfl⟩)
      | (go_at_call 91; refine (HP.out _ _ (by exact szle (belowDrew W) hB) (by exact hin.up (belowDrew W))).mono ?_; rintro e w1 ⟨p1, t1, rfl, q1, hp1, hb1⟩; replace hb1 := belowTrans (belowDrew W) hb1; have kz_1 := upc hb1 kz; have HZ_1 := Lib.hid (upb hb1 HZ.out); have HZ_1c := cell_of_one HZ_1.out; have HZ_1f := free_of_one HZ_1.out))
  have hbel1 := hb1
  go_wp2_with fail
  exact bodyPost_ret (v := .agg #[.pointer p1]) (by simp [results, Try.results65, go_sem, HZ_1c]) rfl (RetS.mk q1 hp1 (belowTrans H1.out hbel1) HZ_1.out (by omega))
end Go.Proofs.Ytcjhbpnmkahkeaa.treap
