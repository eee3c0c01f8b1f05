/- The walks of package left: merged, Push, Pop give just what the plain trees' functions give; what was there stays. -/
import Derived.Test.YtnigadnjppeckaaLeftM
import Derived.Test.YtnigadnjppeckaaMore
import Derived.Test.YtnigadnjppeckaaRows
import Derived.Deep.QuietTactic
import Derived.BigQuiet
namespace Go.Proofs.Ytnigadnjppeckaa.left
open Go.RowKit

abbrev key (x : A) : Int := x
def cs (x : A) (l r : BT A) : List Value := [.int .i64 x, .int .i64 (BT.size (.node x l r)), .int .i64 (sp (.node x l r))]
abbrev In := Holds cs 177
abbrev Ret := RetQ cs 177

section
variable {w : World} {b : Nat} {x : A} {l r : BT A} {pl pr : Option Addr}
  (h : w.heap[b]? = some (.cells (cs x l r ++ [Value.pointer pl, Value.pointer pr]).toArray 177 (0, 0)))
include h
theorem c0 : w.cell? ⟨b, 0, none⟩ = some (.int .i64 x) := by simp [World.cell?, h, cs]
theorem cx : w.cell? ⟨b, 0, none⟩ = some (.int .i64 (key x)) := c0 h
theorem cn : w.cell? ⟨b, 1, none⟩ = some (.int .i64 (BT.size (.node x l r))) := by simp [World.cell?, h, cs]
theorem cp : w.cell? ⟨b, 2, none⟩ = some (.int .i64 (sp (.node x l r))) := by simp [World.cell?, h, cs]
theorem cl : w.cell? ⟨b, 3, none⟩ = some (.pointer pl) := by simp [World.cell?, h, cs]
theorem cr : w.cell? ⟨b, 4, none⟩ = some (.pointer pr) := by simp [World.cell?, h, cs]
end

theorem C_size {w : World} {b : Nat} {x : A} {l r : BT A} {pl pr : Option Addr} (h : w.heap[b]? = some (.cells (cs x l r ++ [Value.pointer pl, Value.pointer pr]).toArray 177 (0, 0))) : w.cell? ⟨b, 1, none⟩ = some (.int .i64 (BT.size (.node x l r))) := cn h
theorem C_far {w : World} {b : Nat} {x : A} {l r : BT A} {pl pr : Option Addr} (h : w.heap[b]? = some (.cells (cs x l r ++ [Value.pointer pl, Value.pointer pr]).toArray 177 (0, 0))) : w.cell? ⟨b, 2, none⟩ = some (.int .i64 (sp (.node x l r))) := cp h

set_option maxHeartbeats 400000 in
theorem size_any {B : Nat} {w : World} {p : Option Addr} {t : BT A} (h : In B w p t) :
    Calls Try.prog 127 #[.pointer p] w fun e w' => e = .returned (.int .i64 (t.size : Nat)) ∧ w = w' := by
  cases t with
  | nil =>
    obtain rfl : p = none := h
    go_enter Try.func127, Try.ntmps127
    go_wp2
    go_ret
    exact ⟨rfl, rfl⟩
  | node x l r =>
    obtain ⟨b, pl, pr, rfl, _, hb, _, _⟩ := h
    have h1 := C_size hb
    clear hb
    go_enter Try.func127, Try.ntmps127
    go_wp2
    go_ret
    exact ⟨rfl, rfl⟩

set_option maxHeartbeats 400000 in
theorem far_any {B : Nat} {w : World} {p : Option Addr} {t : BT A} (h : In B w p t) :
    Calls Try.prog 126 #[.pointer p] w fun e w' => e = .returned (.int .i64 (sp t : Nat)) ∧ w = w' := by
  cases t with
  | nil =>
    obtain rfl : p = none := h
    go_enter Try.func126, Try.ntmps126
    go_wp2
    go_ret
    exact ⟨rfl, rfl⟩
  | node x l r =>
    obtain ⟨b, pl, pr, rfl, _, hb, _, _⟩ := h
    have h1 := C_far hb
    clear hb
    go_enter Try.func126, Try.ntmps126
    go_wp2
    go_ret
    exact ⟨rfl, rfl⟩

theorem new_any {B : Nat} {w : World} {pl : Option Addr} {l : BT A} {x : A} {pr : Option Addr} {r : BT A} (hB : B ≤ w.heap.size) (hl : In B w pl l) (hr : In B w pr r) (n m : Int) (hn : n = (BT.size (.node x l r) : Nat)) (hm : m = (sp (.node x l r) : Nat)) :
    Ret B w (· = .node x l r) (.returned (.pointer (some ⟨w.heap.size, 0, none⟩))) (w.alloc (.cells #[.int .i64 x, .int .i64 n, .int .i64 m, .pointer pl, .pointer pr] 177)) := by
  subst hn hm
  exact RetQ.mk rfl (Holds.new hB hl hr) (belowAlloc _ _)

set_option maxHeartbeats 1000000 in
theorem made_any (B : Nat) (w : World) (x : Int) (pl : Option Addr) (l : BT A) (pr : Option Addr) (r : BT A) (hB : B ≤ w.heap.size) (hl : In B w pl l) (hr : In B w pr r) (hs : l.size + r.size ≤ 1152921504606846000) :
    Calls Try.prog 106 #[.int .i64 x, .pointer pl, .pointer pr] w (Ret B w (· = mk x l r)) := by
  have h1 := sp_le l
  have h2 := sp_le r
  have f1 := far_any hl
  have f2 := far_any hr
  have s1 := size_any hl
  have s2 := size_any hr
  by_cases hc : sp l < sp r
  · have HE : Hid (mk x l r = .node x r l) := Lib.hid (by unfold mk; rw [if_pos hc])
    have d : (sp l : Int) < (sp r : Int) := by omega
    clear hc
    go_enter Try.func106, Try.ntmps106
    go_wp2_with (first | (go_at_call_of 126 (Value.pointer pl); refine f1.mono ?_; rintro e w' ⟨rfl, rfl⟩) | (go_at_call_of 126 (Value.pointer pr); refine f2.mono ?_; rintro e w' ⟨rfl, rfl⟩) | (go_at_call_of 127 (Value.pointer pl); refine s1.mono ?_; rintro e w' ⟨rfl, rfl⟩) | (go_at_call_of 127 (Value.pointer pr); refine s2.mono ?_; rintro e w' ⟨rfl, rfl⟩))
    go_ret
    rw [HE.out]
    exact new_any hB hr hl _ _ (by simp only [BT.size]; omega) (by simp only [sp]; omega)
  · have HE : Hid (mk x l r = .node x l r) := Lib.hid (by unfold mk; rw [if_neg hc])
    have d : (sp r : Int) ≤ (sp l : Int) := by omega
    clear hc
    go_enter Try.func106, Try.ntmps106
    go_wp2_with (first | (go_at_call_of 126 (Value.pointer pl); refine f1.mono ?_; rintro e w' ⟨rfl, rfl⟩) | (go_at_call_of 126 (Value.pointer pr); refine f2.mono ?_; rintro e w' ⟨rfl, rfl⟩) | (go_at_call_of 127 (Value.pointer pl); refine s1.mono ?_; rintro e w' ⟨rfl, rfl⟩) | (go_at_call_of 127 (Value.pointer pr); refine s2.mono ?_; rintro e w' ⟨rfl, rfl⟩))
    go_ret
    rw [HE.out]
    exact new_any hB hl hr _ _ (by simp only [BT.size]; omega) (by simp only [sp]; omega)

set_option maxHeartbeats 2000000 in
theorem merged_up (n : Nat) : ∀ (B : Nat) (w : World) (p : Option Addr) (a : BT A) (q : Option Addr) (b : BT A), a.size + b.size < n → B ≤ w.heap.size → In B w p a → In B w q b → a.size + b.size ≤ 1152921504606845000 →
    Calls Try.prog 65 #[.pointer p, .pointer q] w (Ret B w (· = mrg a b)) := by
  induction n with
  | zero => intro B w p a q b h; omega
  | succ n ih =>
    intro B w p a q b hn hB ha hb hs
    cases a with
    | nil =>
      obtain rfl : p = none := ha
      have HE := Lib.hid (mrg_nil b)
      go_enter Try.func65, Try.ntmps65
      go_wp2_with fail
      go_ret
      exact RetQ.mk HE.out.symm hb (Below.refl _ _)
    | node x al ar =>
      cases b with
      | nil =>
        obtain rfl : q = none := hb
        have HE := Lib.hid (mrg_nil' (.node x al ar))
        obtain ⟨ab, pal, par, rfl, _⟩ := id ha
        go_enter Try.func65, Try.ntmps65
        go_wp2_with fail
        go_ret
        exact RetQ.mk HE.out.symm ha (Below.refl _ _)
      | node y bl br =>
        have HE := Lib.hid (mrg_node x al ar y bl br)
        obtain ⟨ab, pal, par, rfl, _, hab, hal, har⟩ := id ha
        obtain ⟨bb, pbl, pbr, rfl, _, hbb, hbl, hbr⟩ := id hb
        have kx := c0 hab
        have kal := cl hab
        have kar := cr hab
        have ky := c0 hbb
        have kbl := cl hbb
        have kbr := cr hbb
        simp only [BT.size] at hn hs
        clear hab hbb
        by_cases hlt : y < x
        · have hI := fun w hB h1 h2 => ih B w pbr br (some ⟨ab, 0, none⟩) (.node x al ar) (by simp only [BT.size]; omega) hB h1 h2 (by simp only [BT.size]; omega)
          have HI := Lib.hid hI
          have HE2 : Hid (mrg (.node x al ar) (.node y bl br) = mk y bl (mrg br (.node x al ar))) := Lib.hid (by rw [HE.out, if_pos hlt])
          have hz := size_mrg br (.node x al ar)
          simp only [BT.size] at hz
          clear hI ih HE
          go_enter Try.func65, Try.ntmps65
          go_wp2_with fail
          go_quiet (fail)
          go_wp2_with fail
          go_region_held3 (fun w' => w'.cell? ⟨bb, 0, none⟩ = some (.int .i64 y) ∧ w'.cell? ⟨bb, 3, none⟩ = some (.pointer pbl) ∧ w'.cell? ⟨bb, 4, none⟩ = some (.pointer pbr)) (first | exact ⟨ky_2, kbl_2, kbr_2⟩ | exact ⟨ky_1, kbl_1, kbr_1⟩ | exact ⟨ky, kbl, kbr⟩ | go_keep)
            (first
              | (go_at_call 65; refine (HI.out _ (by exact szle (belowDrewN w _) hB) (by exact hbr.up (belowDrewN w _)) (by exact ha.up (belowDrewN w _))).mono ?_; rintro e w1 ⟨p1, _, rfl, rfl, hp1, hb1⟩; replace hb1 := belowTrans (belowDrewN w _) hb1; have ky_1 := upc hb1 ky; have kbl_1 := upc hb1 kbl; have kbr_1 := upc hb1 kbr)
              | (go_at_call 106; refine (made_any B _ y _ bl _ _ (by exact szle hb1 hB) (by exact hbl.up hb1) (by exact hp1) (by first | omega | (simp only [BT.size]; omega))).mono ?_; rintro e w2 ⟨p2, _, rfl, rfl, hp2, hb2⟩; have ky_2 := upc hb2 ky_1; have kbl_2 := upc hb2 kbl_1; have kbr_2 := upc hb2 kbr_1))
          have hbel2 := (belowTrans hb1 hb2)
          go_wp2_with fail
          go_ret
          exact RetQ.mk HE2.out.symm hp2 hbel2
        · have hI := fun w hB h1 h2 => ih B w par ar (some ⟨bb, 0, none⟩) (.node y bl br) (by simp only [BT.size]; omega) hB h1 h2 (by simp only [BT.size]; omega)
          have HI := Lib.hid hI
          have HE2 : Hid (mrg (.node x al ar) (.node y bl br) = mk x al (mrg ar (.node y bl br))) := Lib.hid (by rw [HE.out, if_neg hlt])
          have hz := size_mrg ar (.node y bl br)
          simp only [BT.size] at hz
          clear hI ih HE
          go_enter Try.func65, Try.ntmps65
          go_wp2_with fail
          go_quiet (fail)
          go_wp2_with fail
          go_region_held3 (fun w' => w'.cell? ⟨ab, 0, none⟩ = some (.int .i64 x) ∧ w'.cell? ⟨ab, 3, none⟩ = some (.pointer pal) ∧ w'.cell? ⟨ab, 4, none⟩ = some (.pointer par)) (first | exact ⟨kx_2, kal_2, kar_2⟩ | exact ⟨kx_1, kal_1, kar_1⟩ | exact ⟨kx, kal, kar⟩ | go_keep)
            (first
              | (go_at_call 65; refine (HI.out _ (by exact szle (belowDrewN w _) hB) (by exact har.up (belowDrewN w _)) (by exact hb.up (belowDrewN w _))).mono ?_; rintro e w1 ⟨p1, _, rfl, rfl, hp1, hb1⟩; replace hb1 := belowTrans (belowDrewN w _) hb1; have kx_1 := upc hb1 kx; have kal_1 := upc hb1 kal; have kar_1 := upc hb1 kar)
              | (go_at_call 106; refine (made_any B _ x _ al _ _ (by exact szle hb1 hB) (by exact hal.up hb1) (by exact hp1) (by first | omega | (simp only [BT.size]; omega))).mono ?_; rintro e w2 ⟨p2, _, rfl, rfl, hp2, hb2⟩; have kx_2 := upc hb2 kx_1; have kal_2 := upc hb2 kal_1; have kar_2 := upc hb2 kar_1))
          have hbel2 := (belowTrans hb1 hb2)
          go_wp2_with fail
          go_ret
          exact RetQ.mk HE2.out.symm hp2 hbel2

theorem merged_any (B : Nat) (w : World) (p : Option Addr) (a : BT A) (q : Option Addr) (b : BT A) (hB : B ≤ w.heap.size) (ha : In B w p a) (hb : In B w q b) (hs : a.size + b.size ≤ 1152921504606845000) :
    Calls Try.prog 65 #[.pointer p, .pointer q] w (Ret B w (· = mrg a b)) := merged_up _ B w p a q b (Nat.lt_succ_self _) hB ha hb hs
end Go.Proofs.Ytnigadnjppeckaa.left
