/- The walks of package splay, the fourth part: Put. -/
import Derived.Test.YtcjhbpnmkahkeaaSplay3
namespace Go.Proofs.Ytcjhbpnmkahkeaa.splay
open Go.RowKit

/-- what a call that hands back a set leaves: a tree of which Q is true -/
def RetS (B : Nat) (w : World) (Q : BT A → Prop) (e : Ending) (w' : World) : Prop := ∃ p t, e = .returned (.agg #[.pointer p]) ∧ Q t ∧ In B w' p t ∧ Below w.heap.size w w'
/-- what a put makes of a tree; and a tree of so many numbers -/
def PutQ (_x : Int) (t t' : BT A) : Prop := t'.size ≤ t.size + 1 ∧ 0 < t'.size
def OfQ (xs : List Int) (t : BT A) : Prop := t.size ≤ xs.length ∧ (xs ≠ [] → 0 < t.size)
theorem OfQ_nil : OfQ [] .nil := ⟨Nat.le_refl _, fun h => absurd rfl h⟩
theorem OfQ_snoc {xs : List Int} {x : Int} {t t' : BT A} (h : OfQ xs t) (hp : PutQ x t t') : OfQ (xs ++ [x]) t' := by
  obtain ⟨h1, h2⟩ := hp
  refine ⟨?_, fun _ => h2⟩
  have := h.1
  simp
  omega
theorem OfQ_size {xs : List Int} {t : BT A} (h : OfQ xs t) : t.size ≤ xs.length := h.1
theorem OfQ_one {x : Int} {t : BT A} (h : OfQ [x] t) : t.size = 1 := by
  have h1 := h.1
  have h2 := h.2 (by simp)
  simp at h1
  omega

/-- the tree is stored into the result's box -/
theorem RetS.mk {B k : Nat} {w w' : World} {Q : BT A → Prop} {p : Option Addr} {t : BT A} {c : Array Value} (hq : Q t) (hp : In B w' p t) (hb : Below w.heap.size w w') (hk : w'.heap[k]? = some (.cells c 57 (0, 0))) (hkw : w.heap.size ≤ k) :
    RetS B w Q (.returned (.agg #[.pointer p])) (w'.setCell ⟨k, 0, none⟩ (.pointer p)) :=
  ⟨p, t, rfl, hq, hp.store (off := 0) hk (by decide), belowSet (a := ⟨k, 0, none⟩) hb hkw _⟩

set_option maxHeartbeats 4000000 in
theorem Put_any (B : Nat) (w : World) (p : Option Addr) (t : BT A) (x : Int) (hB : B ≤ w.heap.size) (h : In B w p t) (hn : t.size ≤ 1152921504606844000) :
    Calls Try.prog 70 #[.agg #[.pointer p], .int .i64 x] w (RetS B w (PutQ x t)) := by
  have h1 := belowTrans (belowAlloc w (.cells #[.pointer p] 57)) (belowAlloc _ (.cells #[.pointer none] 57))
  have hz := heapNew2 w (.cells #[.pointer p] 57) (.cells #[.pointer none] 57)
  cases t with
  | nil =>
    obtain rfl : p = none := h
    have hu := up_nil x ((w.alloc (.cells #[.pointer none] 57)).alloc (.cells #[.pointer none] 57))
    have hm := made_any B ((w.alloc (.cells #[.pointer none] 57)).alloc (.cells #[.pointer none] 57)) none .nil x none .nil (szle h1 hB) rfl rfl (by simp [BT.size])
    have Hz := Lib.hid hz
    clear hz
    go_enter Try.func70, Try.ntmps70
    go_wp2_with fail
    refine hu.mono ?_
    rintro e w1 ⟨rfl, rfl⟩
    go_wp2_with fail
    refine hm.mono ?_
    rintro e w1 ⟨p1, _, rfl, rfl, hp1, hb1⟩
    have hk := upb hb1 Hz.out
    have kc := cell_of_one hk
    have fc := free_of_one hk
    have HR := Lib.hid (RetS.mk (Q := PutQ x .nil) ⟨by simp [BT.size], by simp [BT.size]⟩ hp1 (belowTrans h1 hb1) hk (by omega))
    clear hk hp1 hb1 h1 hu hm
    go_wp2_with fail
    exact bodyPost_ret (v := .agg #[.pointer p1]) (by simp [results, Try.results70, go_sem, kc]) rfl HR.out
  | node y l r =>
    have hu := up_any x _ (.node y l r) (Nat.lt_succ_self _) B ((w.alloc (.cells #[.pointer p] 57)).alloc (.cells #[.pointer none] 57)) p (szle h1 hB) (h.up h1) (by omega) (by simp only [BT.size]; omega)
    have hz0 : w.heap.size + 1 < ((w.alloc (.cells #[.pointer p] 57)).alloc (.cells #[.pointer none] 57)).heap.size := by simp
    have Hz := Lib.hid hz
    clear hz
    go_enter Try.func70, Try.ntmps70
    go_wp2_with fail
    refine hu.mono ?_
    rintro e w1 ⟨p1, _, rfl, ⟨ux, ul, ur, rfl, hus⟩, hp1, hb1⟩
    have hk := upb hb1 Hz.out
    have hB1 := szle (belowTrans h1 hb1) hB
    have hbw := belowTrans h1 hb1
    obtain ⟨b, pl, pr, rfl, _, hb, hl, hr⟩ := id hp1
    have k0 := c0 hb
    have kl := cl hb
    have kr := cr hb
    have kc := cell_of_one hk
    have fc := free_of_one hk
    have hne := block_ne hb hk (by decide)
    have HZ := Lib.hid hk
    have Hp1 := Lib.hid hp1
    have hB := hB1
    clear hk hb hb1 hu h1 hp1 hB1
    rcases Int.lt_trichotomy x ux with hlt | heq | hgt
    · go_wp2_with fail
      go_region_held3 (fun w' => w'.cell? ⟨b, 0, none⟩ = some (.int .i64 ux) ∧ w'.cell? ⟨b, 2, none⟩ = some (.pointer pl) ∧ w'.cell? ⟨b, 3, none⟩ = some (.pointer pr)) (first | exact ⟨k0_3, kl_3, kr_3⟩ | exact ⟨k0_2, kl_2, kr_2⟩ | exact ⟨k0, kl, kr⟩ | go_keep)
        (first
          | (go_at_call_of 95 (Value.pointer none); refine (made_any B _ _ .nil ux _ ur (by exact szle (belowDrew w1) hB) (by exact rfl) (by exact hr.up (belowDrew w1)) (by first | omega | (simp only [BT.size]; omega))).mono ?_; rintro e w2 ⟨p2, _, rfl, rfl, hp2, hb2⟩; replace hb2 := belowTrans (belowDrew w1) hb2; have k0_2 := upc hb2 k0; have kl_2 := upc hb2 kl; have kr_2 := upc hb2 kr; have HZ_2 := Lib.hid (upb hb2 HZ.out); have HZ_2c := cell_of_one HZ_2.out; have HZ_2f := free_of_one HZ_2.out)
          | (go_at_call_of 95 (Value.pointer pl); refine (made_any B _ _ ul x _ (.node ux .nil ur) (by exact szle hb2 hB) (by exact hl.up hb2) (by exact hp2) (by first | omega | (simp only [BT.size]; omega))).mono ?_; rintro e w3 ⟨p3, _, rfl, rfl, hp3, hb3⟩; have k0_3 := upc hb3 k0_2; have kl_3 := upc hb3 kl_2; have kr_3 := upc hb3 kr_2; have HZ_3 := Lib.hid (upb hb3 HZ_2.out); have HZ_3c := cell_of_one HZ_3.out; have HZ_3f := free_of_one HZ_3.out))
      have hbel3 := (belowTrans hb2 hb3)
      go_wp2_with fail
      exact bodyPost_ret (v := .agg #[.pointer p3]) (by simp [results, Try.results70, go_sem, HZ_3c]) rfl (RetS.mk ⟨by simp only [BT.size] at hus ⊢; omega, by simp only [BT.size]; omega⟩ hp3 (belowTrans hbw hbel3) HZ_3.out (by omega))
    · subst heq
      go_wp2_with fail
      exact bodyPost_ret (v := .agg #[.pointer (some ⟨b, 0, none⟩)]) (by simp [results, Try.results70, go_sem, kc]) rfl (RetS.mk ⟨by simp only [BT.size] at hus ⊢; omega, by simp only [BT.size]; omega⟩ Hp1.out hbw HZ.out (by omega))
    · go_wp2_with fail
      go_region_held3 (fun w' => w'.cell? ⟨b, 0, none⟩ = some (.int .i64 ux) ∧ w'.cell? ⟨b, 2, none⟩ = some (.pointer pl) ∧ w'.cell? ⟨b, 3, none⟩ = some (.pointer pr)) (first | exact ⟨k0_3, kl_3, kr_3⟩ | exact ⟨k0_2, kl_2, kr_2⟩ | exact ⟨k0, kl, kr⟩ | go_keep)
        (first
          | (go_at_call_of 95 (Value.pointer pl); refine (made_any B _ _ ul ux _ .nil (by exact szle (belowDrew w1) hB) (by exact hl.up (belowDrew w1)) (by exact rfl) (by first | omega | (simp only [BT.size]; omega))).mono ?_; rintro e w2 ⟨p2, _, rfl, rfl, hp2, hb2⟩; replace hb2 := belowTrans (belowDrew w1) hb2; have k0_2 := upc hb2 k0; have kl_2 := upc hb2 kl; have kr_2 := upc hb2 kr; have HZ_2 := Lib.hid (upb hb2 HZ.out); have HZ_2c := cell_of_one HZ_2.out; have HZ_2f := free_of_one HZ_2.out)
          | (go_at_call_of 95 (Value.pointer pr); refine (made_any B _ _ (.node ux ul .nil) x _ ur (by exact szle hb2 hB) (by exact hp2) (by exact hr.up hb2) (by first | omega | (simp only [BT.size]; omega))).mono ?_; rintro e w3 ⟨p3, _, rfl, rfl, hp3, hb3⟩; have k0_3 := upc hb3 k0_2; have kl_3 := upc hb3 kl_2; have kr_3 := upc hb3 kr_2; have HZ_3 := Lib.hid (upb hb3 HZ_2.out); have HZ_3c := cell_of_one HZ_3.out; have HZ_3f := free_of_one HZ_3.out))
      have hbel3 := (belowTrans hb2 hb3)
      go_wp2_with fail
      exact bodyPost_ret (v := .agg #[.pointer p3]) (by simp [results, Try.results70, go_sem, HZ_3c]) rfl (RetS.mk ⟨by simp only [BT.size] at hus ⊢; omega, by simp only [BT.size]; omega⟩ hp3 (belowTrans hbw hbel3) HZ_3.out (by omega))
end Go.Proofs.Ytcjhbpnmkahkeaa.splay
