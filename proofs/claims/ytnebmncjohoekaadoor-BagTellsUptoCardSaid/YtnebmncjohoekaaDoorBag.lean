/- Package bag: Count, with, Pairs. -/
import Derived.Test.YtnebmncjohoekaaDoorPatK
import Derived.Test.YtnebmncjohoekaaDoorPatG
import Derived.Lib.MinMax
namespace Go.Proofs.YtnebmncjohoekaaDoor.bag
open Go.RowKit
open pat (PT HO OOk ocnt olist oget tk I64 lk told oput odrop)

def most : Int := 1099511627776
def cnt (o : Option PT) (x : Int) : Int := (oget o (tk x)).getD 0
def withO (o : Option PT) (x n : Int) : Option PT := if n ≤ 0 then odrop o (tk x) else some (oput o (tk x) (min n most))
/-- what a call that hands back a bag leaves -/
def RetG (B : Nat) (w : World) (o : Option PT) (e : Ending) (w' : World) : Prop := ∃ p, e = .returned (.agg #[.pointer p]) ∧ HO B w' p o ∧ Below w.heap.size w w'

set_option maxHeartbeats 1000000 in
theorem Count_any (B : Nat) (w : World) (p : Option Addr) (o : Option PT) (x : Int) (h : HO B w p o) (ho : OOk o) (hx : I64 x) (n : Int) (hn : cnt o x = n) :
    Calls Tryd.prog 8 #[.agg #[.pointer p], .int .i64 x] w fun e w' => e = .returned (.int .i64 n) ∧ Below w.heap.size w w' := by
  have h1 := belowAlloc w (.cells #[.pointer p] 28)
  have HG := Lib.hid (pat.Get_any B _ p o x (h.up h1) ho hx _ rfl)
  have H1 := Lib.hid h1
  have hn' : (oget o (tk x)).getD 0 = n := hn
  obtain ⟨r, hr⟩ : ∃ r, oget o (tk x) = r := ⟨_, rfl⟩
  rw [hr] at hn' HG
  obtain ⟨rs, hrs⟩ : ∃ rs, r.isSome = rs := ⟨_, rfl⟩
  have HG2 : Hid (Calls Tryd.prog 22 #[.agg #[.pointer p], .int .i64 x] (w.alloc (.cells #[.pointer p] 28)) fun e w' => e = .returned (.tuple #[.int .i64 n, .bool rs]) ∧ Below (w.alloc (.cells #[.pointer p] 28)).heap.size (w.alloc (.cells #[.pointer p] 28)) w') := Lib.hid (HG.out.mono fun e w' h => by
    obtain ⟨rfl, hb⟩ := h
    rw [hn', hrs]
    exact ⟨rfl, hb⟩)
  clear h h1 hn hr hn' hrs HG
  go_enter Tryd.func8, Tryd.ntmps8
  go_wp2_with fail
  refine HG2.out.mono ?_
  rintro e w1 ⟨rfl, hb⟩
  have HB := Lib.hid (belowTrans H1.out hb)
  clear hb
  go_wp2_with fail
  go_ret
  exact ⟨rfl, HB.out⟩

set_option maxHeartbeats 1000000 in
theorem Pairs_any (B : Nat) (w : World) (p : Option Addr) (o : Option PT) (m : Nat) (h : HO B w p o) (ho : OOk o) (hm : ocnt o = m) (hn : m ≤ 8796093022208) (xs : List (Int × Int)) (hx : told o = xs) :
    Calls Tryd.prog 14 #[.agg #[.pointer p]] w fun e w' => ∃ a c, e = .returned (.slice a m c) ∧ OwnP w' w.heap.size (.slice a m c) xs ∧ Below w.heap.size w w' := by
  have h1 := belowAlloc w (.cells #[.pointer p] 28)
  have HG := Lib.hid (pat.Pairs_num B _ p o m (h.up h1) ho hm hn xs hx)
  have H1 := Lib.hid h1
  clear h h1 hn hm hx
  go_enter Tryd.func14, Tryd.ntmps14
  go_wp2_with fail
  refine HG.out.mono ?_
  rintro e w1 ⟨a, c, rfl, hown, hb⟩
  have HB := Lib.hid (And.intro (hown.lower H1.out.size) (belowTrans H1.out hb))
  clear hb hown
  go_wp2_with fail
  go_ret
  exact ⟨a, c, rfl, HB.out.1, HB.out.2⟩

set_option maxHeartbeats 4000000 in
theorem with_any (B : Nat) (w : World) (p : Option Addr) (o : Option PT) (x n : Int) (hB : B ≤ w.heap.size) (h : HO B w p o) (ho : OOk o) (hx : I64 x) (hc : ocnt o ≤ 1152921504606843999) (hn : -4611686018427387904 ≤ n ∧ n ≤ 4611686018427387904) :
    Calls Tryd.prog 35 #[.agg #[.pointer p], .int .i64 x, .int .i64 n] w (RetG B w (withO o x n)) := by
  have h1 := belowTrans (belowAlloc w (.cells #[.pointer p] 28)) (belowAlloc _ (.cells #[.pointer none] 28))
  have hz := heapNew2 w (.cells #[.pointer p] 28) (.cells #[.pointer none] 28)
  have hz0 := heapNew1 w (.cells #[.pointer p] 28) (.cells #[.pointer none] 28)
  have hh := h.up h1
  have hB2 := szle h1 hB
  have k0 := cell_of_one hz0
  have H1 := Lib.hid (And.intro h1 hz)
  obtain ⟨n1, n2⟩ := hn
  by_cases hle : n ≤ 0
  · have HC := Lib.hid (pat.Drop_any B _ p o x hB2 hh ho hx hc)
    have HW : Hid (withO o x n = odrop o (tk x)) := Lib.hid (by unfold withO; rw [if_pos hle])
    clear h1 hz hz0 h ho hx hc hh hB2 hB
    go_enter Tryd.func35, Tryd.ntmps35
    go_wp2_with fail
    refine HC.out.mono ?_
    rintro e w1 ⟨p1, rfl, hp1, hb1⟩
    have hz1 := upb hb1 H1.out.2
    have c1 := cell_of_one hz1
    have f1 := free_of_one hz1
    have hst := one_setCell (u := .pointer p1) hz1
    have kr := cell_of_one hst
    have Hp := Lib.hid (And.intro hp1 hb1)
    clear hp1 hb1
    go_wp2_with fail
    refine bodyPost_ret (v := .agg #[.pointer p1]) (by simp only [results, Tryd.results35]; simp [go_sem, kr]) rfl ?_
    exact ⟨p1, rfl, by rw [HW.out]; exact HO.store (k := w.heap.size + 1) (off := 0) hz1 (by decide) Hp.out.1, belowSet (a := ⟨w.heap.size + 1, 0, none⟩) (belowTrans H1.out.1 Hp.out.2) (Nat.le_succ _) _⟩
  · have hmin : ∃ q, q = min n most := ⟨_, rfl⟩
    obtain ⟨q, hq⟩ := hmin
    have HC := Lib.hid (pat.Put_any B _ p o x q hB2 hh ho hx hc)
    have HW : Hid (withO o x n = some (oput o (tk x) q)) := Lib.hid (by unfold withO; rw [if_neg hle, hq])
    have hq2 : min n 1099511627776 = q := hq.symm
    clear h1 hz hz0 h ho hx hc hh hB2 hB hq
    go_enter Tryd.func35, Tryd.ntmps35
    go_wp2_with fail
    refine HC.out.mono ?_
    rintro e w1 ⟨p1, rfl, hp1, hb1⟩
    have hz1 := upb hb1 H1.out.2
    have c1 := cell_of_one hz1
    have f1 := free_of_one hz1
    have hst := one_setCell (u := .pointer p1) hz1
    have kr := cell_of_one hst
    have Hp := Lib.hid (And.intro hp1 hb1)
    clear hp1 hb1
    go_wp2_with fail
    refine bodyPost_ret (v := .agg #[.pointer p1]) (by simp only [results, Tryd.results35]; simp [go_sem, kr]) rfl ?_
    exact ⟨p1, rfl, by rw [HW.out]; exact HO.store (k := w.heap.size + 1) (off := 0) hz1 (by decide) Hp.out.1, belowSet (a := ⟨w.heap.size + 1, 0, none⟩) (belowTrans H1.out.1 Hp.out.2) (Nat.le_succ _) _⟩
end Go.Proofs.YtnebmncjohoekaaDoor.bag
