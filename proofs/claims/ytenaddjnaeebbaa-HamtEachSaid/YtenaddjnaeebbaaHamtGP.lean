/- All pairs are gathered into a slice. -/
import Derived.Test.YtenaddjnaeebbaaHamtWalk
namespace Go.Proofs.Ytenaddjnaeebbaa.hamt
open Go.RowKit

/-- while pairs are gathered into the slice in block O -/
structure GP (O base : Nat) (w0 : World) (xs : PL) (W : World) : Prop where
  bel : Below w0.heap.size w0 W
  hO : w0.heap.size ≤ O
  hOb : O < base
  hb : base ≤ W.heap.size
  cO : ∃ v, W.heap[O]? = some (.cells #[v] 28 (0, 0)) ∧ W.ownsRow base 31 2 v xs.length (cellsP xs)
theorem GP.up {O base : Nat} {w0 W W' : World} {xs : PL} (h : GP O base w0 xs W) (hb : Below W.heap.size W W') : GP O base w0 xs W' := by
  obtain ⟨v, hv, ho⟩ := h.cO
  exact ⟨h.bel.trans (hb.mono h.bel.size), h.hO, h.hOb, Nat.le_trans h.hb hb.size, v, upb hb hv, rowUp ho hb⟩
theorem GP.next {O base : Nat} {w0 w w1 : World} {xs : PL} {x : Int × Int} {v v' : Value} {o : Obj} (h : GP O base w0 xs w)
    (hv : w.heap[O]? = some (.cells #[v] 28 (0, 0))) (hown : w.ownsRow base 31 2 v xs.length (cellsP xs))
    (hown' : w1.ownsRow base 31 2 v' (xs.length + 1) (cellsP xs ++ [.int .i64 x.1, .int .i64 x.2])) (hg : (w.alloc o).grownBy w1 v.ownBlock) :
    GP O base w0 (xs ++ [x]) (w1.setCell ⟨O, 0, none⟩ v') := by
  have hrow : ∀ k, v.ownBlock = some k → base ≤ k := fun k hk => (hown.lt k hk).1
  have hsz : w.heap.size + 1 ≤ w1.heap.size := by have := hg.size; simpa using this
  have hold : ∀ k, k < w.heap.size → k < base → w1.heap[k]? = w.heap[k]? := by
    intro k hk hkb
    refine (hg.block k (by simp; omega) ?_).trans (Below.heap_alloc w o k hk)
    intro e
    have := hrow k e.symm
    omega
  have hOs : O < w.heap.size := Nat.lt_of_lt_of_le h.hOb h.hb
  have bel1 : Below w0.heap.size w0 w1 := by
    refine ⟨hg.os.trans h.bel.os, hg.tape.trans h.bel.tape, hg.output.trans h.bel.output, Nat.le_trans h.bel.size (by omega), ?_⟩
    intro k hk
    exact (hold k (Nat.lt_of_lt_of_le hk h.bel.size) (Nat.lt_trans (Nat.lt_of_lt_of_le hk h.hO) h.hOb)).trans (h.bel.block k hk)
  have hO1 := (hold O hOs h.hOb).trans hv
  refine ⟨bel1.setCell (p := ⟨O, 0, none⟩) h.hO _, h.hO, h.hOb, ?_, v', one_setCell hO1, ?_⟩
  · have := h.hb
    simp [World.setCell]
    omega
  · have := ownsRow_setCell_below hown' (a := ⟨O, 0, none⟩) h.hOb v'
    rw [cellsP_append, List.length_append]
    exact this
set_option maxRecDepth 100000 in
set_option maxHeartbeats 2000000 in
theorem gather_one (O base : Nat) (w0 : World) (xs : PL) (k v : Int) (w : World) (h : GP O base w0 xs w) (hn : xs.length + 1 ≤ 8796093022208) :
    Calls Try.prog 32 #[.agg #[.int .i64 k, .int .i64 v], .pointer (some ⟨O, 0, none⟩)] w fun e w' => e = .returned (.tuple #[]) ∧ GP O base w0 (xs ++ [(k, v)]) w' := by
  have hb1 := belowAlloc w (.cells #[.int .i64 k, .int .i64 v] 31)
  have h1 := h.up hb1
  have n0 := two_c0 (heap_alloc_new w (.cells #[.int .i64 k, .int .i64 v] 31))
  have n1 := two_c1 (heap_alloc_new w (.cells #[.int .i64 k, .int .i64 v] 31))
  obtain ⟨u, hu, ho⟩ := h1.cO
  have kO := cell_of_one hu
  have lB : base ≤ w.heap.size := h.hb
  have lO : O < w.heap.size := Nat.lt_of_lt_of_le h.hOb h.hb
  have HH := Lib.hid (And.intro h1 (And.intro hu ho))
  obtain ⟨i0, hi, hz0, hz1, hz2⟩ := info_parts infoP
  have Hi := Lib.hid (And.intro hi (And.intro hz0 (And.intro hz1 hz2)))
  clear h hb1 h1 hu ho hi hz0 hz1 hz2
  go_enter Try.func32, Try.ntmps32
  go_wp2_with (at_builtin; obtain ⟨hi, hz0, hz1, hz2⟩ := Hi.out; refine wpList_append_own _ rfl _ _ 28 rfl base 31 i0 (.agg #[.int .i64 0, .int .i64 0]) 2 16 Try.underlying28 hi hz0 hz1 hz2 rfl (by decide) _ _ _ rfl (World.ownsRow.alloc HH.out.2.2 _) ⟨w.heap.size + 1, 0, none⟩ 1 1 [.int .i64 k, .int .i64 v] rfl rfl ?c1 ?c2 ?c3 ?c4 ?c5 ?_)
  case c1 => exact World.news_of_block (cs := #[.int .i64 k, .int .i64 v]) (t := 31) (fr := (0, 0)) (heapNew2 _ _ _)
  case c2 => simp [Value.oneCell']
  case c3 => unfold maxLen; omega
  case c4 => omega
  case c5 => simp; omega
  intro v5 w5 hown hgrow _
  obtain ⟨a5, q5, rfl⟩ := rowVal hown
  have hO5 : w5.heap[O]? = some (.cells #[u] 28 (0, 0)) := grow_otherP HH.out.2.2 hgrow HH.out.1.hOb HH.out.2.1
  have c5 := cell_of_one hO5
  have f5 := free_of_one hO5
  have HN := Lib.hid (HH.out.1.next (x := (k, v)) HH.out.2.1 HH.out.2.2 hown hgrow)
  clear hown hgrow hO5
  go_wp2_with fail
  go_end0
  exact ⟨rfl, HN.out⟩
theorem gp_vis (O base B : Nat) (w0 : World) : Vis 32 #[.pointer (some ⟨O, 0, none⟩)] (fun x => B ≤ x) w0 8796093022208 (GP O base w0) where
  size _ _ h := h.bel.size
  frame _ _ h x _ hl := h.bel.block x hl
  up _ _ _ h hb := h.up hb
  call xs k v W h hn := gather_one O base w0 xs k v W h hn
end Go.Proofs.Ytenaddjnaeebbaa.hamt
