/- The walks of package left, the second part: Push, Pop. -/
import Derived.Test.YtnigadnjppeckaaLeft
namespace Go.Proofs.Ytnigadnjppeckaa.left
open Go.RowKit

/-- what a call that hands back a heap leaves: a tree of which Q is true -/
def RetS (B : Nat) (w : World) (Q : BT A → Prop) (e : Ending) (w' : World) : Prop := ∃ p t, e = .returned (.agg #[.pointer p]) ∧ Q t ∧ In B w' p t ∧ Below w.heap.size w w'
def PutQ (x : Int) (t t' : BT A) : Prop := t' = mrg t (.node x .nil .nil)
def ofList (xs : List Int) : BT A := xs.foldl (fun t x => mrg t (.node x .nil .nil)) .nil
def OfQ (xs : List Int) (t : BT A) : Prop := t = ofList xs
theorem OfQ_nil : OfQ [] .nil := rfl
theorem OfQ_snoc {xs : List Int} {x : Int} {t t' : BT A} (h : OfQ xs t) (hp : PutQ x t t') : OfQ (xs ++ [x]) t' := by
  rw [OfQ] at h ⊢
  rw [PutQ] at hp
  rw [hp, h]
  simp [ofList]
theorem size_ofList (xs : List Int) : (ofList xs).size = xs.length := by
  suffices h : ∀ (xs : List Int) (t : BT A), (xs.foldl (fun t x => mrg t (.node x .nil .nil)) t).size = t.size + xs.length by
    have := h xs .nil
    simpa [ofList, BT.size] using this
  intro xs
  induction xs with
  | nil => intro t; rfl
  | cons x xs ih =>
    intro t
    rw [List.foldl_cons, ih, size_mrg]
    simp only [BT.size, List.length_cons]
    omega
theorem OfQ_size {xs : List Int} {t : BT A} (h : OfQ xs t) : t.size ≤ xs.length := by
  rw [OfQ] at h
  rw [h, size_ofList]
  exact Nat.le_refl _
theorem OfQ_one {x : Int} {t : BT A} (h : OfQ [x] t) : t.size = 1 := by
  rw [OfQ] at h
  rw [h, size_ofList]
  rfl

/-- the tree is stored into the result's box -/
theorem RetS.mk {B k : Nat} {w w' : World} {Q : BT A → Prop} {p : Option Addr} {t : BT A} {c : Array Value} (hq : Q t) (hp : In B w' p t) (hb : Below w.heap.size w w') (hk : w'.heap[k]? = some (.cells c 80 (0, 0))) (hkw : w.heap.size ≤ k) :
    RetS B w Q (.returned (.agg #[.pointer p])) (w'.setCell ⟨k, 0, none⟩ (.pointer p)) :=
  ⟨p, t, rfl, hq, hp.store (off := 0) hk (by decide), belowSet (a := ⟨k, 0, none⟩) hb hkw _⟩

set_option maxHeartbeats 4000000 in
theorem Put_any (B : Nat) (w : World) (p : Option Addr) (t : BT A) (x : Int) (hB : B ≤ w.heap.size) (h : In B w p t) (hn : t.size ≤ 1152921504606844000) :
    Calls Try.prog 64 #[.agg #[.pointer p], .int .i64 x] w (RetS B w (PutQ x t)) := by
  have h1 := belowTrans (belowAlloc w (.cells #[.pointer p] 80)) (belowAlloc _ (.cells #[.pointer none] 80))
  have hz := heapNew2 w (.cells #[.pointer p] 80) (.cells #[.pointer none] 80)
  have hz0 := heapNew1 w (.cells #[.pointer p] 80) (.cells #[.pointer none] 80)
  obtain ⟨W, hW⟩ : ∃ W, W = (w.alloc (.cells #[.pointer p] 80)).alloc (.cells #[.pointer none] 80) := ⟨_, rfl⟩
  rw [← hW] at h1 hz hz0
  have hB1 := szle h1 hB
  have hin := h.up h1
  have kz := cell_of_one hz0
  have HZ := Lib.hid hz
  have HW := Lib.hid hW
  have H1 := Lib.hid h1
  clear hW hz hz0 h hB h1
  have hB := hB1
  clear hB1
  go_enter Try.func64, Try.ntmps64
  go_wp2_with fail
  rw [← HW.out]
  go_region_held3 (fun w' => w'.cell? ⟨w.heap.size, 0, none⟩ = some (.pointer p)) (first | exact kz_2 | exact kz_1 | exact kz | go_keep)
    (first
      | (go_at_call 106; refine (made_any B _ x none .nil none .nil (by exact szle (belowDrew W) hB) (by exact rfl) (by exact rfl) (by first | omega | (simp only [BT.size]; omega))).mono ?_; rintro e w1 ⟨p1, _, rfl, rfl, hp1, hb1⟩; replace hb1 := belowTrans (belowDrew W) hb1; have kz_1 := upc hb1 kz; have HZ_1 := Lib.hid (upb hb1 HZ.out); have HZ_1c := cell_of_one HZ_1.out; have HZ_1f := free_of_one HZ_1.out)
      | (go_at_call 65; refine (merged_any B _ p t _ _ (by exact szle hb1 hB) (by exact hin.up hb1) (by exact hp1) (by simp only [size_mk, BT.size]; omega)).mono ?_; rintro e w2 ⟨p2, _, rfl, rfl, hp2, hb2⟩; have kz_2 := upc hb2 kz_1; have HZ_2 := Lib.hid (upb hb2 HZ_1.out); have HZ_2c := cell_of_one HZ_2.out; have HZ_2f := free_of_one HZ_2.out))
  have hbel2 := (belowTrans hb1 hb2)
  go_wp2_with fail
  exact bodyPost_ret (v := .agg #[.pointer p2]) (by simp [results, Try.results64, go_sem, HZ_2c]) rfl (RetS.mk rfl hp2 (belowTrans H1.out hbel2) HZ_2.out (by omega))

/-- what is taken from a heap that has something -/
def RetP (B : Nat) (w : World) (x : Int) (t : BT A) (e : Ending) (w' : World) : Prop := ∃ p, e = .returned (.tuple #[.int .i64 x, .agg #[.pointer p], .bool true]) ∧ In B w' p t ∧ Below w.heap.size w w'

set_option maxHeartbeats 4000000 in
theorem Pop_node (B : Nat) (w : World) (p : Option Addr) (x : A) (l r : BT A) (hB : B ≤ w.heap.size) (h : In B w p (.node x l r)) (hn : l.size + r.size ≤ 1152921504606844000) :
    Calls Try.prog 66 #[.agg #[.pointer p]] w (RetP B w x (mrg l r)) := by
  obtain ⟨b, pl, pr, rfl, _, hb, hl, hr⟩ := h
  have h1 := belowTrans (belowAlloc w (.cells #[.pointer (some ⟨b, 0, none⟩)] 80)) (belowAlloc _ (.cells #[.pointer none] 80))
  have hz := heapNew2 w (.cells #[.pointer (some ⟨b, 0, none⟩)] 80) (.cells #[.pointer none] 80)
  have hz0 := heapNew1 w (.cells #[.pointer (some ⟨b, 0, none⟩)] 80) (.cells #[.pointer none] 80)
  obtain ⟨W, hW⟩ : ∃ W, W = (w.alloc (.cells #[.pointer (some ⟨b, 0, none⟩)] 80)).alloc (.cells #[.pointer none] 80) := ⟨_, rfl⟩
  rw [← hW] at h1 hz hz0
  have hbW := upb h1 hb
  have k0 := c0 hbW
  have kl := cl hbW
  have kr := cr hbW
  have hne := block_ne hbW hz (by decide)
  have hB1 := szle h1 hB
  have hl1 := hl.up h1
  have hr1 := hr.up h1
  have kz := cell_of_one hz0
  have HZ := Lib.hid hz
  have HW := Lib.hid hW
  have H1 := Lib.hid h1
  clear hW hz hz0 hB h1 hb hbW hl hr
  have hB := hB1
  clear hB1
  go_enter Try.func66, Try.ntmps66
  go_wp2_with fail
  rw [← HW.out]
  go_region_held3 (fun w' => w'.cell? ⟨w.heap.size, 0, none⟩ = some (.pointer (some ⟨b, 0, none⟩)) ∧ w'.cell? ⟨b, 0, none⟩ = some (.int .i64 x) ∧ w'.cell? ⟨b, 3, none⟩ = some (.pointer pl) ∧ w'.cell? ⟨b, 4, none⟩ = some (.pointer pr)) (first | exact ⟨kz_1, k0_1, kl_1, kr_1⟩ | exact ⟨kz, k0, kl, kr⟩ | go_keep)
    (first
      | (go_at_call 65; refine (merged_any B _ _ l _ r (by exact szle (belowDrew W) hB) (by exact hl1.up (belowDrew W)) (by exact hr1.up (belowDrew W)) (by first | omega | (simp only [BT.size]; omega))).mono ?_; rintro e w1 ⟨p1, _, rfl, rfl, hp1, hb1⟩; replace hb1 := belowTrans (belowDrew W) hb1; have kz_1 := upc hb1 kz; have k0_1 := upc hb1 k0; have kl_1 := upc hb1 kl; have kr_1 := upc hb1 kr; have HZ_1 := Lib.hid (upb hb1 HZ.out); have HZ_1c := cell_of_one HZ_1.out; have HZ_1f := free_of_one HZ_1.out))
  have hbel1 := hb1
  go_wp2_with fail
  refine bodyPost_ret (v := .tuple #[.int .i64 x, .agg #[.pointer p1], .bool true]) (by simp [results, Try.results66, go_sem, HZ_1c]) rfl ?_
  exact ⟨p1, rfl, hp1.store (off := 0) HZ_1.out (by decide), belowSet (a := ⟨w.heap.size + 1, 0, none⟩) (belowTrans H1.out hbel1) (by simp) _⟩

set_option maxHeartbeats 1000000 in
theorem Pop_nil (w : World) : Calls Try.prog 66 #[.agg #[.pointer none]] w fun e w' => e = .returned (.tuple #[.int .i64 0, .agg #[.pointer none], .bool false]) ∧ Below w.heap.size w w' := by
  have h1 := belowTrans (belowAlloc w (.cells #[.pointer none] 80)) (belowAlloc _ (.cells #[.pointer none] 80))
  have H1 := Lib.hid h1
  clear h1
  go_enter Try.func66, Try.ntmps66
  go_wp2_with fail
  exact bodyPost_ret (v := .tuple #[.int .i64 0, .agg #[.pointer none], .bool false]) (by simp [results, Try.results66, go_sem]) rfl ⟨rfl, H1.out⟩
end Go.Proofs.Ytnigadnjppeckaa.left
