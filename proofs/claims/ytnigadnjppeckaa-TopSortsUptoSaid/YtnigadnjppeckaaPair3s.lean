/- The walks of package pair, the third part: Push, Pop, Len. -/
import Derived.Test.YtnigadnjppeckaaPair2
import Derived.Test.YtnigadnjppeckaaTwo
namespace Go.Proofs.Ytnigadnjppeckaa.pair
open Go.RowKit

/-- what a call that hands back a heap leaves: a tree and a number of which Q is true -/
def RetS (B : Nat) (w : World) (Q : Int → BT A → Prop) (e : Ending) (w' : World) : Prop := ∃ p n t, e = .returned (.agg #[.pointer p, .int .i64 n]) ∧ Q n t ∧ In B w' p t ∧ Below w.heap.size w w'
def PutQ (x : Int) (n : Int) (t : BT A) (n' : Int) (t' : BT A) : Prop := t' = meet t (.node x .nil .nil) ∧ n' = n + 1
def OfQ (xs : List Int) (n : Int) (t : BT A) : Prop := t = ofList xs ∧ n = xs.length
theorem OfQ_nil : OfQ [] 0 .nil := ⟨rfl, rfl⟩
theorem OfQ_snoc {xs : List Int} {x : Int} {n n' : Int} {t t' : BT A} (h : OfQ xs n t) (hp : PutQ x n t n' t') : OfQ (xs ++ [x]) n' t' := by
  obtain ⟨rfl, rfl⟩ := h
  obtain ⟨rfl, rfl⟩ := hp
  exact ⟨by simp [ofList], by simp⟩

set_option maxHeartbeats 4000000 in
theorem Put_any (B : Nat) (w : World) (p : Option Addr) (n : Int) (t : BT A) (x : Int) (hB : B ≤ w.heap.size) (h : In B w p t) (h0 : 0 ≤ n) (hn : n ≤ 1152921504606844000) :
    Calls Try.prog 67 #[.agg #[.pointer p, .int .i64 n], .int .i64 x] w (RetS B w (PutQ x n t)) := by
  have h1 := belowTrans (belowAlloc w (.cells #[.pointer p, .int .i64 n] 85)) (belowAlloc _ (.cells #[.pointer none, .int .i64 0] 85))
  have hz := heapNew2 w (.cells #[.pointer p, .int .i64 n] 85) (.cells #[.pointer none, .int .i64 0] 85)
  have hz0 := heapNew1 w (.cells #[.pointer p, .int .i64 n] 85) (.cells #[.pointer none, .int .i64 0] 85)
  obtain ⟨W, hW⟩ : ∃ W, W = (w.alloc (.cells #[.pointer p, .int .i64 n] 85)).alloc (.cells #[.pointer none, .int .i64 0] 85) := ⟨_, rfl⟩
  rw [← hW] at h1 hz hz0
  have hB1 := szle h1 hB
  have hin := h.up h1
  have kz := two_c0 hz0
  have kn := two_c1 hz0
  have hnew := Holds.new (cs := cs) (ty := 179) (a := x) (l := .nil) (r := .nil) (pl := none) (pr := none) hB1 rfl rfl
  have hwr : IntKind.i64.wrap (n + 1) = n + 1 := IntWalk.i64_in _ (by omega)
  have HZ := Lib.hid hz
  have HW := Lib.hid hW
  have H1 := Lib.hid h1
  clear hW hz hz0 h hB h1
  have hB := hB1
  clear hB1
  go_enter Try.func67, Try.ntmps67
  go_wp2_with fail
  rw [← HW.out]
  go_region_held3 (fun w' => w'.cell? ⟨w.heap.size, 0, none⟩ = some (.pointer p) ∧ w'.cell? ⟨w.heap.size, 1, none⟩ = some (.int .i64 n)) (first | exact ⟨kz_1, kn_1⟩ | exact ⟨kz, kn⟩ | go_keep)
    (first
      | (go_at_call 68; refine (met_any B _ p t _ (.node x .nil .nil) (by exact szle (belowTrans (belowAlloc W (.cells #[.int .i64 x, .pointer none, .pointer none] 179)) (belowDrew _)) hB) (by exact hin.up (belowTrans (belowAlloc W (.cells #[.int .i64 x, .pointer none, .pointer none] 179)) (belowDrew _))) (by exact hnew.up (belowDrew _))).mono ?_; rintro e w1 ⟨p1, _, rfl, rfl, hp1, hb1⟩; replace hb1 := belowTrans (belowTrans (belowAlloc W (.cells #[.int .i64 x, .pointer none, .pointer none] 179)) (belowDrew _)) hb1; have kz_1 := upc hb1 kz; have kn_1 := upc hb1 kn; have HZ_1 := Lib.hid (upb hb1 HZ.out); have HZ_1c := two_c0 HZ_1.out; have HZ_1d := two_c1 HZ_1.out; have HZ_1f := two_f (o := 0) HZ_1.out; have HZ_1g := two_f (o := 1) HZ_1.out))
  have hbel1 := hb1
  go_wp2_with fail
  have HR := two_set (u' := .pointer p1) (v' := .int .i64 (n + 1)) HZ_1.out
  have kr0 := two_c0 HR
  have kr1 := two_c1 HR
  refine bodyPost_ret (v := .agg #[.pointer p1, .int .i64 (n + 1)]) (by simp only [results, Try.results67]; simp [go_sem, kr0, kr1]) rfl ?_
  exact ⟨p1, n + 1, _, rfl, ⟨rfl, rfl⟩, hp1.store2 HZ_1.out (by decide), belowSet2 (belowTrans H1.out hbel1) (by omega) _ _⟩

/-- what a Pop hands back, of whatever heap -/
def RetPop (w : World) (u : BT A) (e : Ending) (w' : World) : Prop := ∃ (q : Option Addr) (n' : Int) (u' : BT A) (y : Int) (hs : Bool), e = .returned (.tuple #[.int .i64 y, .agg #[.pointer q, .int .i64 n'], .bool hs]) ∧
  (if hs then y :: ints u' else []) = ints u ∧ (if hs then 1 + hsz u' else 0) = hsz u ∧ n' = (hsz u' : Int) ∧ In 0 w' q u' ∧ Below w.heap.size w w'

set_option maxHeartbeats 4000000 in
theorem Pop_any (w : World) (p : Option Addr) (n : Int) (u : BT A) (h : In 0 w p u) (hu : hsz u ≤ 17592186044416) (hnu : n = (hsz u : Int)) :
    Calls Try.prog 69 #[.agg #[.pointer p, .int .i64 n]] w (RetPop w u) := by
  have h1 := belowTrans (belowAlloc w (.cells #[.pointer p, .int .i64 n] 85)) (belowAlloc _ (.cells #[.pointer none, .int .i64 0] 85))
  have hz := heapNew2 w (.cells #[.pointer p, .int .i64 n] 85) (.cells #[.pointer none, .int .i64 0] 85)
  have hz0 := heapNew1 w (.cells #[.pointer p, .int .i64 n] 85) (.cells #[.pointer none, .int .i64 0] 85)
  cases u with
  | nil =>
    obtain rfl : p = none := h
    obtain rfl : n = 0 := hnu
    have H1 := Lib.hid h1
    clear h1 hz hz0
    go_enter Try.func69, Try.ntmps69
    go_wp2_with fail
    exact bodyPost_ret (v := .tuple #[.int .i64 0, .agg #[.pointer none, .int .i64 0], .bool false]) (by simp [results, Try.results69, go_sem]) rfl ⟨none, 0, .nil, 0, false, rfl, rfl, rfl, rfl, rfl, H1.out⟩
  | node x k r =>
    obtain ⟨b, pl, pr, rfl, _, hb, hl, hr⟩ := h
    obtain ⟨W, hW⟩ : ∃ W, W = (w.alloc (.cells #[.pointer (some ⟨b, 0, none⟩), .int .i64 n] 85)).alloc (.cells #[.pointer none, .int .i64 0] 85) := ⟨_, rfl⟩
    rw [← hW] at h1 hz hz0
    have hbW := upb h1 hb
    have k0 := c0 hbW
    have kl := cl hbW
    have hne := block_ne hbW hz (by decide)
    have hl1 := hl.up h1
    have kz := two_c0 hz0
    have kn := two_c1 hz0
    have hnk : n - 1 = (hsz (paired k) : Int) := by rw [hsz_paired, hnu]; simp only [hsz]; omega
    have hwr : IntKind.i64.wrap (n - 1) = n - 1 := IntWalk.i64_in _ (by rw [hnu]; omega)
    have Hnk := Lib.hid hnk
    clear hnk hnu
    have hsk : k.size ≤ 17592186044416 := by simp only [hsz] at hu; omega
    have HZ := Lib.hid hz
    have HW := Lib.hid hW
    have H1 := Lib.hid h1
    have Hu := Lib.hid hu
    clear hW hz hz0 h1 hb hbW hl hr hu
    go_enter Try.func69, Try.ntmps69
    go_wp2_with fail
    rw [← HW.out]
    go_region_held3 (fun w' => w'.cell? ⟨w.heap.size, 0, none⟩ = some (.pointer (some ⟨b, 0, none⟩)) ∧ w'.cell? ⟨w.heap.size, 1, none⟩ = some (.int .i64 n) ∧ w'.cell? ⟨b, 0, none⟩ = some (.int .i64 x) ∧ w'.cell? ⟨b, 1, none⟩ = some (.pointer pl)) (first | exact ⟨kz_1, kn_1, k0_1, kl_1⟩ | exact ⟨kz, kn, k0, kl⟩ | go_keep)
      (first
        | (go_at_call 107; refine (paired_any _ pl k (by exact hl1.up (belowDrew W)) (by exact hsk)).mono ?_; rintro e w1 ⟨p1, _, rfl, rfl, hp1, hb1⟩; replace hb1 := belowTrans (belowDrew W) hb1; have kz_1 := upc hb1 kz; have kn_1 := upc hb1 kn; have k0_1 := upc hb1 k0; have kl_1 := upc hb1 kl; have HZ_1 := Lib.hid (upb hb1 HZ.out); have HZ_1c := two_c0 HZ_1.out; have HZ_1d := two_c1 HZ_1.out; have HZ_1f := two_f (o := 0) HZ_1.out; have HZ_1g := two_f (o := 1) HZ_1.out))
    have hbel1 := hb1
    go_wp2_with fail
    have HR := two_set (u' := .pointer p1) (v' := .int .i64 (n - 1)) HZ_1.out
    have kr0 := two_c0 HR
    have kr1 := two_c1 HR
    refine bodyPost_ret (v := .tuple #[.int .i64 x, .agg #[.pointer p1, .int .i64 (n - 1)], .bool true]) (by simp only [results, Try.results69]; simp [go_sem, kr0, kr1]) rfl ?_
    refine ⟨p1, n - 1, _, x, true, rfl, ?_, ?_, Hnk.out, hp1.store2 HZ_1.out (by decide), belowSet2 (belowTrans H1.out hbel1) (by omega) _ _⟩
    · rw [ints_node]; rfl
    · rw [if_pos rfl, hsz_paired]; rfl
end Go.Proofs.Ytnigadnjppeckaa.pair
