/- Package bag: Put. -/
import Derived.Test.YtnebmncjohoekaaDoorBag
import Derived.Deep.RegionHeld3
namespace Go.Proofs.YtnebmncjohoekaaDoor.bag
open Go.RowKit
open pat (PT HO OOk ocnt olist oget tk I64 lk told oput odrop)

def badPut (o : Option PT) (x n : Int) : Prop := n < -1073741824 ∨ 1073741824 < n ∨ most < cnt o x + n
def RetBad (w : World) (e : Ending) (w' : World) : Prop := e = .returned (.tuple #[.agg #[.pointer none], .iface 50 (.int .i64 1)]) ∧ Below w.heap.size w w'
def RetGood (B : Nat) (w : World) (o : Option PT) (e : Ending) (w' : World) : Prop := ∃ p, e = .returned (.tuple #[.agg #[.pointer p], .nilIface]) ∧ HO B w' p o ∧ Below w.heap.size w w'

set_option maxHeartbeats 4000000 in
theorem Put_bad (B : Nat) (w : World) (p : Option Addr) (o : Option PT) (x n : Int) (h : HO B w p o) (ho : OOk o) (hx : I64 x) (hc : 0 ≤ cnt o x ∧ cnt o x ≤ most) (hb : badPut o x n) :
    Calls Tryd.prog 20 #[.agg #[.pointer p], .int .i64 x, .int .i64 n] w (RetBad w) := by
  have h1 := belowTrans (belowAlloc w (.cells #[.pointer p] 28)) (belowAlloc _ (.cells #[.pointer none] 28))
  have hz0 := heapNew1 w (.cells #[.pointer p] 28) (.cells #[.pointer none] 28)
  have hz := heapNew2 w (.cells #[.pointer p] 28) (.cells #[.pointer none] 28)
  have k0 := cell_of_one hz0
  obtain ⟨c, hcc⟩ : ∃ c, cnt o x = c := ⟨_, rfl⟩
  have HC := Lib.hid (Count_any B _ p o x (h.up h1) ho hx c hcc)
  unfold badPut most at hb
  unfold most at hc
  rw [hcc] at hb hc
  obtain ⟨c1, c2⟩ := hc
  have H1 := Lib.hid (And.intro h1 hz)
  clear h1 hz0 hz h hcc
  by_cases n1 : n < -1073741824
  · have hz := H1.out.2
    have f1 := free_of_one hz
    have kz := cell_of_one hz
    clear hb hz
    go_enter Tryd.func20, Tryd.ntmps20
    go_wp2_with fail
    refine bodyPost_ret (v := .tuple #[.agg #[.pointer none], .iface 50 (.int .i64 1)]) (by simp only [results, Tryd.results20]; simp [go_sem]) rfl ⟨rfl, H1.out.1⟩
  · by_cases n2 : 1073741824 < n
    · have hz := H1.out.2
      have f1 := free_of_one hz
      have kz := cell_of_one hz
      have n3 : -1073741824 ≤ n := by omega
      clear hb hz
      go_enter Tryd.func20, Tryd.ntmps20
      go_wp2_with fail
      refine bodyPost_ret (v := .tuple #[.agg #[.pointer none], .iface 50 (.int .i64 1)]) (by simp only [results, Tryd.results20]; simp [go_sem]) rfl ⟨rfl, H1.out.1⟩
    · have n3 : -1073741824 ≤ n := by omega
      have n4 : n ≤ 1073741824 := by omega
      have n5 : 1099511627776 < c + n := by rcases hb with hb | hb | hb <;> omega
      clear hb
      go_enter Tryd.func20, Tryd.ntmps20
      go_wp2_with fail
      refine HC.out.mono ?_
      rintro e w1 ⟨rfl, hb1⟩
      have hz := upb hb1 H1.out.2
      have f1 := free_of_one hz
      have kz := cell_of_one hz
      have hst := one_setCell (u := .pointer none) hz
      have kr := cell_of_one hst
      have HS := Lib.hid (belowSet (a := ⟨w.heap.size + 1, 0, none⟩) (belowTrans H1.out.1 hb1) (Nat.le_succ _) (.pointer none))
      clear hb1 hz hst
      go_wp2_with fail
      refine bodyPost_ret (v := .tuple #[.agg #[.pointer none], .iface 50 (.int .i64 1)]) (by simp only [results, Tryd.results20]; simp [go_sem, kr]) rfl ⟨rfl, HS.out⟩

set_option maxHeartbeats 4000000 in
theorem Put_good (B : Nat) (w : World) (p : Option Addr) (o : Option PT) (x n m : Int) (hB : B ≤ w.heap.size) (h : HO B w p o) (ho : OOk o) (hx : I64 x) (hk : ocnt o ≤ 1152921504606843999) (hc : 0 ≤ cnt o x ∧ cnt o x ≤ most) (hb : ¬ badPut o x n) (hm : cnt o x + n = m) :
    Calls Tryd.prog 20 #[.agg #[.pointer p], .int .i64 x, .int .i64 n] w (RetGood B w (withO o x m)) := by
  have h1 := belowTrans (belowAlloc w (.cells #[.pointer p] 28)) (belowAlloc _ (.cells #[.pointer none] 28))
  have hz0 := heapNew1 w (.cells #[.pointer p] 28) (.cells #[.pointer none] 28)
  have hz := heapNew2 w (.cells #[.pointer p] 28) (.cells #[.pointer none] 28)
  obtain ⟨W, hW⟩ : ∃ W, W = (w.alloc (.cells #[.pointer p] 28)).alloc (.cells #[.pointer none] 28) := ⟨_, rfl⟩
  have HW := Lib.hid hW
  have k0' := cell_of_one hz0
  rw [← hW] at h1 hz0 hz
  have k0 := cell_of_one hz0
  obtain ⟨c, hcc⟩ : ∃ c, cnt o x = c := ⟨_, rfl⟩
  unfold badPut most at hb
  unfold most at hc
  rw [hcc] at hb hc hm
  obtain ⟨c1, c2⟩ := hc
  have n3 : -1073741824 ≤ n := by omega
  have n4 : n ≤ 1073741824 := by omega
  have n5 : m ≤ 1099511627776 := by omega
  have n6 : -1073741824 ≤ m := by omega
  have n7 : c + n ≤ 1099511627776 := by omega
  have hwr : IntKind.i64.wrap (c + n) = m := by rw [← hm]; exact IntWalk.i64_in _ (by omega)
  have HC := Lib.hid (fun W' (hW' : Below W.heap.size W W') => Count_any B W' p o x ((h.up h1).up hW') ho hx c hcc)
  have HH := Lib.hid (And.intro (h.up h1) (And.intro ho (And.intro hx (And.intro hk (And.intro (szle h1 hB) hz0)))))
  have HI := Lib.hid (fun W' (hW' : Below W.heap.size W W') => with_any B W' p o x m (szle hW' HH.out.2.2.2.2.1) (HH.out.1.up hW') HH.out.2.1 HH.out.2.2.1 HH.out.2.2.2.1 (by omega))
  have H1 := Lib.hid (And.intro h1 hz)
  have HM := Lib.hid hm
  have Hwr := Lib.hid hwr
  clear h1 hz0 hz h hcc hb hW ho hx hk hB hm hwr
  go_enter Tryd.func20, Tryd.ntmps20
  go_wp2_with fail
  rw [← HW.out]
  refine (HC.out W (Below.refl _ _)).mono ?_
  rintro e w1 ⟨rfl, hb1⟩
  have HB1 := Lib.hid hb1
  have k1 := upc hb1 k0
  have hwr := Hwr.out
  clear hb1 k0 k0'
  go_wp2_with fail
  go_region_held3 (fun w' => w'.cell? ⟨w.heap.size, 0, none⟩ = some (.pointer p)) (first | exact k3 | exact k2 | exact k1 | go_keep)
    (first
    | (go_at_call 8; refine (HC.out _ (by exact belowTrans HB1.out (belowDrew w1))).mono ?_; rintro e w2 ⟨rfl, hb2⟩; replace hb2 := belowTrans (belowTrans HB1.out (belowDrew w1)) hb2; have k2 := cell_of_one (upb hb2 HH.out.2.2.2.2.2))
    | (go_at_call 35; refine (HI.out _ (by exact hb2)).mono ?_; rintro e w3 ⟨p3, rfl, hp3, hb3⟩; have hb3' := belowTrans hb2 hb3; have hz3 := upb hb3' H1.out.2; have c3 := cell_of_one hz3; have f3 := free_of_one hz3; have k3 := cell_of_one (upb hb3' HH.out.2.2.2.2.2)))
  go_wp2_with fail
  have hst := one_setCell (u := .pointer p3) hz3
  have kr := cell_of_one hst
  refine bodyPost_ret (v := .tuple #[.agg #[.pointer p3], .nilIface]) (by simp only [results, Tryd.results20]; simp [go_sem, kr]) rfl ?_
  exact ⟨p3, rfl, HO.store (k := w.heap.size + 1) (off := 0) hz3 (by decide) hp3, belowSet (a := ⟨w.heap.size + 1, 0, none⟩) (belowTrans H1.out.1 hb3') (Nat.le_succ _) _⟩
end Go.Proofs.YtnebmncjohoekaaDoor.bag
