/- The walks of package avl, the third part: put, Put, Of, Len. -/
import Derived.Test.YtcjhbpnmkahkeaaAvl
import Derived.Test.YtcjhbpnmkahkeaaMore
import Derived.Test.YtcjhbpnmkahkeaaCat
namespace Go.Proofs.Ytcjhbpnmkahkeaa.avl
open Go.RowKit

set_option maxHeartbeats 1000000 in
theorem put_any (B : Nat) (x : Int) (t : BT Int) : ∀ (w : World) (p : Option Addr), B ≤ w.heap.size → In B w p t → t.size ≤ 1152921504606846000 →
    Calls Try.prog 90 #[.pointer p, .int .i64 x] w (Ret B w fun t' => t'.size ≤ t.size + 1 ∧ 0 < t'.size) := by
  induction t with
  | nil =>
    intro w p hB h _
    obtain rfl : p = none := h
    go_enter Try.func90, Try.ntmps90
    go_wp2_with fail
    refine (made_any B w none .nil x none .nil hB rfl rfl (by simp [BT.size])).mono ?_
    rintro e w1 ⟨p1, _, rfl, rfl, hp1, hb1⟩
    go_wp2_with fail
    go_ret
    exact RetQ.mk (by simp [BT.size]) hp1 hb1
  | node y l r ihl ihr =>
    intro w p hB h hn
    obtain ⟨b, pl, pr, rfl, hBb, hb, hl, hr⟩ := id h
    simp only [BT.size] at hn
    have k0 := c0 hb
    have k3 := c3 hb
    have k4 := c4 hb
    clear hb hBb
    rcases Int.lt_trichotomy x y with hlt | heq | hgt
    · go_enter Try.func90, Try.ntmps90
      go_wp2_with fail
      go_region_held3 (fun w' => w'.cell? ⟨b, 0, none⟩ = some (.int .i64 y) ∧ w'.cell? ⟨b, 3, none⟩ = some (.pointer pl) ∧ w'.cell? ⟨b, 4, none⟩ = some (.pointer pr)) (go_keep)
        (first
          | (go_at_call 90; refine (ihl _ pl (by exact hB) (by exact hl.up (belowDrew _)) (by omega)).mono ?_; rintro e w1 ⟨p1, t1, rfl, hq1, hp1, hb1⟩; replace hb1 := belowTrans (belowDrew w) hb1; have k01 := upc hb1 k0; have k31 := upc hb1 k3; have k41 := upc hb1 k4)
          | (go_at_call 109; refine (even_any B _ p1 t1 y pr r (by exact szle hb1 hB) (by exact hp1) (by exact hr.up hb1) (by omega)).mono ?_; rintro e w2 ⟨p2, t2, rfl, hq2, hp2, hb2⟩; have k02 := upc hb2 k01; have k32 := upc hb2 k31; have k42 := upc hb2 k41))
      go_wp2_with fail
      go_ret
      exact RetQ.mk (by simp only [BT.size]; omega) hp2 (belowTrans hb1 hb2)
    · subst heq
      go_enter Try.func90, Try.ntmps90
      go_wp2_with fail
      go_ret
      exact RetQ.mk ⟨Nat.le_succ _, by simp only [BT.size]; omega⟩ h (Below.refl _ _)
    · go_enter Try.func90, Try.ntmps90
      go_wp2_with fail
      go_region_held3 (fun w' => w'.cell? ⟨b, 0, none⟩ = some (.int .i64 y) ∧ w'.cell? ⟨b, 3, none⟩ = some (.pointer pl) ∧ w'.cell? ⟨b, 4, none⟩ = some (.pointer pr)) (go_keep)
        (first
          | (go_at_call 90; refine (ihr _ pr (by exact hB) (by exact hr.up (belowDrew _)) (by omega)).mono ?_; rintro e w1 ⟨p1, t1, rfl, hq1, hp1, hb1⟩; replace hb1 := belowTrans (belowDrew w) hb1; have k01 := upc hb1 k0; have k31 := upc hb1 k3; have k41 := upc hb1 k4)
          | (go_at_call 109; refine (even_any B _ pl l y p1 t1 (by exact szle hb1 hB) (by exact hl.up hb1) (by exact hp1) (by omega)).mono ?_; rintro e w2 ⟨p2, t2, rfl, hq2, hp2, hb2⟩; have k02 := upc hb2 k01; have k32 := upc hb2 k31; have k42 := upc hb2 k41))
      go_wp2_with fail
      go_ret
      exact RetQ.mk (by simp only [BT.size]; omega) hp2 (belowTrans hb1 hb2)

/-- what a call that hands back a set leaves: a tree of which Q is true -/
def RetS (B : Nat) (w : World) (Q : BT A → Prop) (e : Ending) (w' : World) : Prop := ∃ p t, e = .returned (.agg #[.pointer p]) ∧ Q t ∧ In B w' p t ∧ Below w.heap.size w w'
/-- what a put makes of a tree; and a tree of so many numbers -/
def PutQ (_x : Int) (t t' : BT A) : Prop := t'.size ≤ t.size + 1 ∧ 0 < t'.size
def OfQ (xs : List Int) (t : BT A) : Prop := t.size ≤ xs.length ∧ (xs ≠ [] → 0 < t.size)
theorem OfQ_nil : OfQ [] .nil := ⟨Nat.le_refl _, fun h => absurd rfl h⟩
theorem OfQ_snoc {xs : List Int} {x : Int} {t t' : BT A} (h : OfQ xs t) (hp : PutQ x t t') : OfQ (xs ++ [x]) t' := by
  obtain ⟨h1, h2⟩ := hp
  refine ⟨?_, fun _ => h2⟩
  have := h.1
  simp
  omega
theorem OfQ_size {xs : List Int} {t : BT A} (h : OfQ xs t) : t.size ≤ xs.length := h.1
theorem OfQ_one {x : Int} {t : BT A} (h : OfQ [x] t) : t.size = 1 := by
  have h1 := h.1
  have h2 := h.2 (by simp)
  simp at h1
  omega

set_option maxHeartbeats 400000 in
theorem Put_any (B : Nat) (w : World) (p : Option Addr) (t : BT Int) (x : Int) (hB : B ≤ w.heap.size) (h : In B w p t) (hn : t.size ≤ 1152921504606846000) :
    Calls Try.prog 62 #[.agg #[.pointer p], .int .i64 x] w (RetS B w (PutQ x t)) := by
  have h1 := belowTrans (belowAlloc w (.cells #[.pointer p] 46)) (belowAlloc _ (.cells #[.pointer none] 46))
  have hp := put_any B x t ((w.alloc (.cells #[.pointer p] 46)).alloc (.cells #[.pointer none] 46)) p (szle h1 hB) (h.up h1) hn
  go_enter Try.func62, Try.ntmps62
  go_wp2_with fail
  refine hp.mono ?_
  rintro e w1 ⟨p1, t1, rfl, hq1, hp1, hb1⟩
  have hk := upb hb1 (heapNew2 w (.cells #[.pointer p] 46) (.cells #[.pointer none] 46))
  have kc := cell_of_one hk
  have fc := free_of_one hk
  have hb := belowSet (a := ⟨w.heap.size + 1, 0, none⟩) (belowTrans h1 hb1) (by simp) (.pointer p1)
  have hin := hp1.store (off := 0) (u := .pointer p1) hk (by decide)
  clear h1 hk hb1 hp1 h
  go_wp2_with fail
  exact bodyPost_ret (v := .agg #[.pointer p1]) (by simp [results, Try.results62, go_sem, kc]) rfl ⟨p1, t1, rfl, hq1, hin, hb⟩

end Go.Proofs.Ytcjhbpnmkahkeaa.avl
