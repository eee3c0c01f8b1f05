/- trie.node.counted: a copy of the node with the number of its words; none, if it has none. -/
import Derived.Test.YteglhcpochcopaaTrieM
import Derived.BigQuiet
import Derived.BigRegion
import Derived.StillTailTactics
namespace Go.Proofs.Yteglhcpochcopaa.trie
open Go.RowKit

theorem ru : Try.prog.underlying 48 = some (.map 5 24) := Try.underlying48
theorem heapAlloc1 (w : World) (o : Obj) {b : Nat} {x : Obj} (h : w.heap[b]? = some x) : (w.alloc o).heap[b]? = some x := (heap_alloc_old w o (Array.getElem?_eq_some_iff.1 h).1).trans h
theorem setBlock_at {w : World} {r : Nat} (o : Obj) (h : r < w.heap.size) : (ChangeMaps.setBlock w r o).heap[r]? = some o := by simp [ChangeMaps.setBlock, h]
theorem setBlock_ne {w : World} {r b : Nat} (o : Obj) (h : b ≠ r) : (ChangeMaps.setBlock w r o).heap[b]? = w.heap[b]? := by simp [ChangeMaps.setBlock, Ne.symm h]
theorem setBlock_size (w : World) (r : Nat) (o : Obj) : (ChangeMaps.setBlock w r o).heap.size = w.heap.size := by simp [ChangeMaps.setBlock]
theorem belowBlock {w w1 : World} {r : Nat} (h : Below w.heap.size w w1) (hr : w.heap.size ≤ r) (o : Obj) : Below w.heap.size w (ChangeMaps.setBlock w1 r o) :=
  ⟨h.1, h.2, h.3, by rw [setBlock_size]; exact h.4, fun b hb => (setBlock_ne o (by omega)).trans (h.5 b hb)⟩

/-- while the kids are gone through -/
structure Cw (w : World) (v : Option Int) (kb : Nat) (es : Array MapEntry) (cl : Nat) (k : UInt8 → TT) (seen : Array Nat) (wr : World) : Prop where
  bel : Below w.heap.size w wr
  box : wr.heap[w.heap.size]? = some (.cells (nodeC v (((if v.isSome then 1 else 0) + sumSeen (fun x => cnt (k (kbyte x))) es.toList seen : Nat) : Int) (some kb)) 50 (0, 0))
  iter : ∃ c0, cl ≤ c0 ∧ wr.heap[w.heap.size + 1]? = some (.mapIter (some kb) cl seen c0)

theorem fin_node {w wr : World} {v : Option Int} {mo : Option Nat} {f : UInt8 → Option Addr} {k : UInt8 → TT} (bel : Below w.heap.size w wr) (hm : MapAt wr f mo) (hk : ∀ c, In wr (k c) (f c))
    (box : wr.heap[w.heap.size]? = some (.cells (nodeC v (cnt (.node v k) : Nat) mo) 50 (0, 0))) (h0 : cnt (.node v k) ≠ 0) : RetT w (mk v k) (.returned (.pointer (some ⟨w.heap.size, 0, none⟩))) wr := by
  rw [mk_ne h0]
  exact ⟨_, rfl, ⟨_, mo, f, rfl, box, hm, hk⟩, bel⟩
theorem fin_nil {w wr : World} {v : Option Int} {k : UInt8 → TT} (bel : Below w.heap.size w wr) (h0 : cnt (.node v k) = 0) : RetT w (mk v k) (.returned (.pointer none)) wr := by
  unfold mk
  rw [if_pos h0]
  exact ⟨_, rfl, rfl, bel⟩
theorem cnt_leaf (v : Option Int) {k : UInt8 → TT} (hk : ∀ c, k c = .nil) : cnt (.node v k) = if v.isSome then 1 else 0 := by
  rw [cnt_node, sum_zero fun c _ => by rw [hk c, cnt_nil]]
  rfl

set_option maxRecDepth 100000 in
set_option maxHeartbeats 4000000 in
theorem counted_nil_none (w : World) (n0 : Int) (k : UInt8 → TT) (hk : ∀ c, k c = .nil) :
    Calls Try.prog 26 #[.agg #[.int .i64 0, .int .i64 n0, .bool false, .map none]] w (RetT w (mk none k)) := by
  have hz0 := heap_alloc_new w (.cells #[.int .i64 0, .int .i64 n0, .bool false, .map none] 50)
  have hrg := fun W => run_range_nilMap (P := Try.prog) W 48 _ _ ru
  have hnx := fun W ty => run_next_nilMap (P := Try.prog) W ty 0 0 #[]
  have HK := Lib.hid hk
  clear hk
  go_enter Try.func26, Try.ntmps26
  go_wp2_with fail
  obtain ⟨W, hW⟩ : ∃ W, W = w.alloc (.cells #[.int .i64 0, .int .i64 0, .bool false, .map none] 50) := ⟨_, rfl⟩
  have hb := heap_alloc_new w (.cells #[.int .i64 0, .int .i64 0, .bool false, .map none] 50)
  have hB := belowAlloc w (.cells #[.int .i64 0, .int .i64 0, .bool false, .map none] 50)
  have hs : W.heap.size = w.heap.size + 1 := by rw [hW]; simp
  rw [← hW] at hb hB ⊢
  have hnx' := hnx W
  rw [hs] at hnx'
  clear hnx hrg
  have hb2 := heapAlloc1 W (.mapIter none 0 #[] 0) hb
  have hB2 := Lib.hid (belowTrans hB (belowAlloc W (.mapIter none 0 #[] 0)))
  have c1 := nodeC1 hb2
  have HB := Lib.hid hb2
  have HW := Lib.hid hW
  clear hW hb hB hs hz0 hb2
  refine wp_loop_rounds 1 ?_
  rw [rounds_succ]
  go_wp2_with fail
  go_ret
  exact fin_nil hB2.out (by rw [cnt_leaf _ HK.out]; rfl)

set_option maxRecDepth 100000 in
set_option maxHeartbeats 4000000 in
theorem counted_nil_some (w : World) (x n0 : Int) (k : UInt8 → TT) (hk : ∀ c, k c = .nil) :
    Calls Try.prog 26 #[.agg #[.int .i64 x, .int .i64 n0, .bool true, .map none]] w (RetT w (mk (some x) k)) := by
  have hz0 := heap_alloc_new w (.cells #[.int .i64 x, .int .i64 n0, .bool true, .map none] 50)
  have hrg := fun W => run_range_nilMap (P := Try.prog) W 48 _ _ ru
  have hnx := fun W ty => run_next_nilMap (P := Try.prog) W ty 0 0 #[]
  have HK := Lib.hid hk
  clear hk
  go_enter Try.func26, Try.ntmps26
  go_wp2_with fail
  obtain ⟨W, hW⟩ : ∃ W, W = w.alloc (.cells #[.int .i64 x, .int .i64 1, .bool true, .map none] 50) := ⟨_, rfl⟩
  have hb := heap_alloc_new w (.cells #[.int .i64 x, .int .i64 1, .bool true, .map none] 50)
  have hB := belowAlloc w (.cells #[.int .i64 x, .int .i64 1, .bool true, .map none] 50)
  have hs : W.heap.size = w.heap.size + 1 := by rw [hW]; simp
  rw [← hW] at hb hB ⊢
  have hnx' := hnx W
  rw [hs] at hnx'
  clear hnx hrg
  have hb2 := heapAlloc1 W (.mapIter none 0 #[] 0) hb
  have hB2 := Lib.hid (belowTrans hB (belowAlloc W (.mapIter none 0 #[] 0)))
  have c1 := nodeC1 hb2
  have HB := Lib.hid hb2
  have HW := Lib.hid hW
  clear hW hb hB hs hz0 hb2
  refine wp_loop_rounds 1 ?_
  rw [rounds_succ]
  go_wp2_with fail
  go_ret
  exact fin_node hB2.out (f := fun _ => none) (mo := none) (fun _ => rfl) (fun c => by rw [HK.out c]; rfl) (by rw [cnt_leaf _ HK.out]; exact HB.out) (by rw [cnt_leaf _ HK.out]; exact Nat.one_ne_zero)

theorem sumSeen_le (g : MapEntry → Nat) (seen : Array Nat) : ∀ (es : List MapEntry), sumSeen g es seen ≤ (es.map g).sum
  | [] => Nat.le_refl _
  | x :: l => by
    have := sumSeen_le g seen l
    simp only [sumSeen, List.map_cons, List.sum_cons]
    split <;> omega
theorem iterSeen_at {w : World} {r : Nat} {a : Option Nat} {b : Nat} {s : Array Nat} {c : Nat} (h : w.heap[r]? = some (.mapIter a b s c)) : w.iterSeen r = s := by unfold World.iterSeen; rw [h]

set_option maxRecDepth 100000 in
set_option maxHeartbeats 4000000 in
theorem counted_map_none (w : World) (n0 : Int) (kb : Nat) (es : Array MapEntry) (cl : Nat) (f : UInt8 → Option Addr) (k : UInt8 → TT) (hb : w.heap[kb]? = some (.map es cl)) (hst : MapKept.Stamped es cl) (he : Ents es f) (hk : ∀ c, In w (k c) (f c))
    (hc : cnt (.node none k) < 9223372036854775808) :
    Calls Try.prog 26 #[.agg #[.int .i64 0, .int .i64 n0, .bool false, .map (some kb)]] w (RetT w (mk none k)) := by
  have hz0 := heap_alloc_new w (.cells #[.int .i64 0, .int .i64 n0, .bool false, .map (some kb)] 50)
  have hkl : kb < w.heap.size := (Array.getElem?_eq_some_iff.1 hb).1
  obtain ⟨W, hW⟩ : ∃ W, W = w.alloc (.cells #[.int .i64 0, .int .i64 0, .bool false, .map (some kb)] 50) := ⟨_, rfl⟩
  have hbW : W.heap[kb]? = some (.map es cl) := by rw [hW]; exact heapAlloc1 w _ hb
  have hrg := run_range_map (P := Try.prog) W 48 _ _ kb es cl ru hbW
  have hB := belowAlloc w (.cells #[.int .i64 0, .int .i64 0, .bool false, .map (some kb)] 50)
  have hx := heap_alloc_new w (.cells #[.int .i64 0, .int .i64 0, .bool false, .map (some kb)] 50)
  have hs : W.heap.size = w.heap.size + 1 := by rw [hW]; simp
  rw [← hW] at hx hB
  rw [hs] at hrg
  have hC0 : Hid (Cw w none kb es cl k #[] (W.alloc (.mapIter (some kb) cl #[] cl))) := Lib.hid ⟨belowTrans hB (belowAlloc W _), by rw [sumSeen_none]; exact heapAlloc1 W _ hx, ⟨cl, Nat.le_refl _, by rw [← hs]; exact heap_alloc_new W _⟩⟩
  have HE := Lib.hid (And.intro hb (And.intro hst (And.intro he (And.intro hk hc))))
  have HW := Lib.hid hW
  clear hW hbW hB hx hs hb hst he hk hc
  go_enter Try.func26, Try.ntmps26
  go_wp2_with fail
  rw [← HW.out]
  rw [hrg]
  simp only [Result.andThen]
  rw [Oper.upon_value]
  clear hrg
  go_wp2_with fail
  go_frame
  go_loopw [4] (fun _ wr => ∃ seen, Hid (Cw w none kb es cl k seen wr)) (fun _ wr => (leftOf es (wr.iterSeen (w.heap.size + 1))).size)
  case atStart => exact ⟨_, hC0⟩
  case round =>
    obtain ⟨seen, HC⟩ := hrel
    clear hC0
    obtain ⟨bel, box, c0, hc0, hit⟩ := HC.out
    have hbr := upb bel HE.out.1
    have hstm := HE.out.2.1
    have hhe := HE.out.2.2.1
    have hse := sum_ents hstm hhe HE.out.2.2.2.1
    have hcn := cnt_node none k
    rcases run_next_at (P := Try.prog) wr 0 (w.heap.size + 1) kb cl c0 seen es cl hit hbr hstm.1 hc0 with ⟨h0, hrun⟩ | ⟨e, hel, w1, hw1, hrun⟩
    · have hnx : ∀ ty, (Instr.next (.pointer (some ⟨w.heap.size + 1, 0, none⟩)) false ty).run Try.prog wr = _ := fun _ => hrun
      rw [sumSeen_full _ _ _ (all_seen es seen h0), hse, ← hcn] at box
      have c1 := nodeC1 box
      have HF : Hid (MapAt wr f (some kb) ∧ (∀ c, In wr (k c) (f c)) ∧ wr.heap[w.heap.size]? = some (.cells (nodeC none (cnt (.node none k) : Nat) (some kb)) 50 (0, 0)) ∧ Below w.heap.size w wr) := Lib.hid ⟨⟨es, cl, hbr, hstm, hhe⟩, fun c => (HE.out.2.2.2.1 c).up bel, box, bel⟩
      obtain ⟨N, hN⟩ : ∃ N, N = cnt (.node none k) := ⟨_, rfl⟩
      rw [← hN] at c1
      have HN := Lib.hid hN
      clear bel box hit hbr hstm hhe hse hcn hrun hN h0 HC
      cases N with
      | zero =>
        go_wp2_with fail
        go_ret
        exact fin_nil HF.out.2.2.2 HN.out.symm
      | succ N =>
        have hne : ((N : Int) + 1 == 0) = false := by
          rw [beq_eq_false_iff_ne]; omega
        go_wp2_with fail
        go_ret
        exact fin_node HF.out.2.2.2 HF.out.1 HF.out.2.1 HF.out.2.2.1 (by rw [← HN.out]; exact Nat.succ_ne_zero _)
    · have hB1 : Below w.heap.size w w1 := by rcases hw1 with rfl | rfl; exact bel; exact bel.drew
      have hbx1 : w1.heap[w.heap.size]? = wr.heap[w.heap.size]? := by rcases hw1 with rfl | rfl <;> rfl
      have hs1 : w.heap.size + 1 < w1.heap.size := by have := (Array.getElem?_eq_some_iff.1 hit).1; rcases hw1 with rfl | rfl <;> exact this
      obtain ⟨W2, hW2⟩ : ∃ W2, W2 = ChangeMaps.setBlock w1 (w.heap.size + 1) (.mapIter (some kb) cl (seen.push e.born) cl) := ⟨_, rfl⟩
      have hit2 : W2.heap[w.heap.size + 1]? = some (.mapIter (some kb) cl (seen.push e.born) cl) := by rw [hW2]; exact setBlock_at _ hs1
      have hB2 : Below w.heap.size w W2 := by rw [hW2]; exact belowBlock hB1 (Nat.le_succ _) _
      have hbx2 := (show W2.heap[w.heap.size]? = wr.heap[w.heap.size]? by rw [hW2, setBlock_ne _ (by omega), hbx1]).trans box
      have hbr2 := upb hB2 HE.out.1
      rw [← hW2] at hrun
      have hee := (mem_left hel).1
      have hen := run_entry_at (P := Try.prog) W2 (w.heap.size + 1) kb cl seen es cl e hit2 hbr2 hee hstm.2.1
      obtain ⟨c, a, hkey, hval, hfa⟩ := hhe.of e hee
      rw [hkey, hval] at hrun hen
      have hIn := HE.out.2.2.2.1 c
      rw [hfa] at hIn
      have hgc : cnt (k (kbyte e)) = cnt (k c) := by rw [kbyte_of hkey]
      have hps := sumSeen_push (fun x => cnt (k (kbyte x))) seen e (mem_left hel).2 es.toList hstm.2.1 hee
      have hle := sumSeen_le (fun x => cnt (k (kbyte x))) (seen.push e.born) es.toList
      have hlt := HE.out.2.2.2.2
      have hsh := left_shrinks es seen e hel
      simp only [hgc] at hps
      obtain ⟨M, hM⟩ : ∃ M, M = cnt (k c) := ⟨_, rfl⟩
      obtain ⟨S, hS⟩ : ∃ S, S = (if (none : Option Int).isSome then 1 else 0) + sumSeen (fun x => cnt (k (kbyte x))) es.toList seen := ⟨_, rfl⟩
      obtain ⟨b, hab, hcell⟩ : ∃ b, a = ⟨b, 0, none⟩ ∧ W2.cell? ⟨b, 1, none⟩ = some (.int .i64 (M : Nat)) := by
        rw [hM]
        cases hkc : k c with
        | nil => rw [hkc] at hIn; cases hIn
        | node v' k' =>
          rw [hkc] at hIn
          obtain ⟨b, mo', f', e', hb', _⟩ := hIn
          cases e'
          exact ⟨b, rfl, nodeC1 (upb hB2 hb')⟩
      subst hab
      rw [← hM] at hps
      rw [← hS] at hbx2
      have c1 := nodeC1 hbx2
      have f1 := nodeF (o := 1) hbx2
      have hwr : IntKind.i64.wrap ((S : Int) + (M : Int)) = ((S + M : Nat) : Int) := by rw [IntKind.wrap_i64]; omega
      have hnx : ∀ ty, (Instr.next (.pointer (some ⟨w.heap.size + 1, 0, none⟩)) false ty).run Try.prog wr = _ := fun _ => hrun
      have HN : Hid (Cw w none kb es cl k (seen.push e.born) (W2.drew.setCell ⟨w.heap.size, 1, none⟩ (.int .i64 ((S + M : Nat) : Int)))) := by
        refine Lib.hid ⟨belowSet (a := ⟨w.heap.size, 1, none⟩) hB2.drew (Nat.le_refl _) _, ?_, cl, Nat.le_refl _, ?_⟩
        · have h := nodeSet (w := W2.drew) (b := w.heap.size) (o := 1) (u := .int .i64 ((S + M : Nat) : Int)) hbx2
          rw [hps, ← Nat.add_assoc, ← hS]
          exact h
        · exact (Below.heap_setCell _ _ _ _ (by simp)).trans hit2
      have HM : Hid ((leftOf es (seen.push e.born)).size < (leftOf es (wr.iterSeen (w.heap.size + 1))).size) := Lib.hid (by rw [iterSeen_at hit]; exact hsh)
      clear hB1 hbx1 hs1 hW2 hit2 hB2 hbx2 hbr2 hee hkey hval hfa hIn hgc hps hle hlt hsh hM hS bel box hit hbr hstm hhe hse hcn hrun hw1 hel HC
      go_wp2_with fail
      go_still_tail 8, (by kernel_rfl)
      change wpList _ _ _ _ _ W2.drew
      go_wp2_with fail
      have e : (W2.setCell ⟨w.heap.size, 1, none⟩ (.int .i64 ((S : Int) + (M : Int)))).drew = W2.drew.setCell ⟨w.heap.size, 1, none⟩ (.int .i64 ((S + M : Nat) : Int)) := by rw [Int.natCast_add]; rfl
      rw [e]
      obtain ⟨c9, _, hi9⟩ := HN.out.iter
      exact ⟨⟨_, HN⟩, by rw [iterSeen_at hi9]; exact HM.out⟩

set_option maxRecDepth 100000 in
set_option maxHeartbeats 4000000 in
theorem counted_map_some (w : World) (x n0 : Int) (kb : Nat) (es : Array MapEntry) (cl : Nat) (f : UInt8 → Option Addr) (k : UInt8 → TT) (hb : w.heap[kb]? = some (.map es cl)) (hst : MapKept.Stamped es cl) (he : Ents es f) (hk : ∀ c, In w (k c) (f c))
    (hc : cnt (.node (some x) k) < 9223372036854775808) :
    Calls Try.prog 26 #[.agg #[.int .i64 x, .int .i64 n0, .bool true, .map (some kb)]] w (RetT w (mk (some x) k)) := by
  have hz0 := heap_alloc_new w (.cells #[.int .i64 x, .int .i64 n0, .bool true, .map (some kb)] 50)
  have hkl : kb < w.heap.size := (Array.getElem?_eq_some_iff.1 hb).1
  obtain ⟨W, hW⟩ : ∃ W, W = w.alloc (.cells #[.int .i64 x, .int .i64 1, .bool true, .map (some kb)] 50) := ⟨_, rfl⟩
  have hbW : W.heap[kb]? = some (.map es cl) := by rw [hW]; exact heapAlloc1 w _ hb
  have hrg := run_range_map (P := Try.prog) W 48 _ _ kb es cl ru hbW
  have hB := belowAlloc w (.cells #[.int .i64 x, .int .i64 1, .bool true, .map (some kb)] 50)
  have hx := heap_alloc_new w (.cells #[.int .i64 x, .int .i64 1, .bool true, .map (some kb)] 50)
  have hs : W.heap.size = w.heap.size + 1 := by rw [hW]; simp
  rw [← hW] at hx hB
  rw [hs] at hrg
  have hC0 : Hid (Cw w (some x) kb es cl k #[] (W.alloc (.mapIter (some kb) cl #[] cl))) := Lib.hid ⟨belowTrans hB (belowAlloc W _), by rw [sumSeen_none]; exact heapAlloc1 W _ hx, ⟨cl, Nat.le_refl _, by rw [← hs]; exact heap_alloc_new W _⟩⟩
  have HE := Lib.hid (And.intro hb (And.intro hst (And.intro he (And.intro hk hc))))
  have HW := Lib.hid hW
  clear hW hbW hB hx hs hb hst he hk hc
  go_enter Try.func26, Try.ntmps26
  go_wp2_with fail
  rw [← HW.out]
  rw [hrg]
  simp only [Result.andThen]
  rw [Oper.upon_value]
  clear hrg
  go_wp2_with fail
  go_frame
  go_loopw [4] (fun _ wr => ∃ seen, Hid (Cw w (some x) kb es cl k seen wr)) (fun _ wr => (leftOf es (wr.iterSeen (w.heap.size + 1))).size)
  case atStart => exact ⟨_, hC0⟩
  case round =>
    obtain ⟨seen, HC⟩ := hrel
    clear hC0
    obtain ⟨bel, box, c0, hc0, hit⟩ := HC.out
    have hbr := upb bel HE.out.1
    have hstm := HE.out.2.1
    have hhe := HE.out.2.2.1
    have hse := sum_ents hstm hhe HE.out.2.2.2.1
    have hcn := cnt_node (some x) k
    rcases run_next_at (P := Try.prog) wr 0 (w.heap.size + 1) kb cl c0 seen es cl hit hbr hstm.1 hc0 with ⟨h0, hrun⟩ | ⟨e, hel, w1, hw1, hrun⟩
    · have hnx : ∀ ty, (Instr.next (.pointer (some ⟨w.heap.size + 1, 0, none⟩)) false ty).run Try.prog wr = _ := fun _ => hrun
      rw [sumSeen_full _ _ _ (all_seen es seen h0), hse, ← hcn] at box
      have c1 := nodeC1 box
      have HF : Hid (MapAt wr f (some kb) ∧ (∀ c, In wr (k c) (f c)) ∧ wr.heap[w.heap.size]? = some (.cells (nodeC (some x) (cnt (.node (some x) k) : Nat) (some kb)) 50 (0, 0)) ∧ Below w.heap.size w wr) := Lib.hid ⟨⟨es, cl, hbr, hstm, hhe⟩, fun c => (HE.out.2.2.2.1 c).up bel, box, bel⟩
      obtain ⟨N, hN⟩ : ∃ N, N = cnt (.node (some x) k) := ⟨_, rfl⟩
      rw [← hN] at c1
      have HN := Lib.hid hN
      clear bel box hit hbr hstm hhe hse hcn hrun hN h0 HC
      cases N with
      | zero =>
        go_wp2_with fail
        go_ret
        exact fin_nil HF.out.2.2.2 HN.out.symm
      | succ N =>
        have hne : ((N : Int) + 1 == 0) = false := by
          rw [beq_eq_false_iff_ne]; omega
        go_wp2_with fail
        go_ret
        exact fin_node HF.out.2.2.2 HF.out.1 HF.out.2.1 HF.out.2.2.1 (by rw [← HN.out]; exact Nat.succ_ne_zero _)
    · have hB1 : Below w.heap.size w w1 := by rcases hw1 with rfl | rfl; exact bel; exact bel.drew
      have hbx1 : w1.heap[w.heap.size]? = wr.heap[w.heap.size]? := by rcases hw1 with rfl | rfl <;> rfl
      have hs1 : w.heap.size + 1 < w1.heap.size := by have := (Array.getElem?_eq_some_iff.1 hit).1; rcases hw1 with rfl | rfl <;> exact this
      obtain ⟨W2, hW2⟩ : ∃ W2, W2 = ChangeMaps.setBlock w1 (w.heap.size + 1) (.mapIter (some kb) cl (seen.push e.born) cl) := ⟨_, rfl⟩
      have hit2 : W2.heap[w.heap.size + 1]? = some (.mapIter (some kb) cl (seen.push e.born) cl) := by rw [hW2]; exact setBlock_at _ hs1
      have hB2 : Below w.heap.size w W2 := by rw [hW2]; exact belowBlock hB1 (Nat.le_succ _) _
      have hbx2 := (show W2.heap[w.heap.size]? = wr.heap[w.heap.size]? by rw [hW2, setBlock_ne _ (by omega), hbx1]).trans box
      have hbr2 := upb hB2 HE.out.1
      rw [← hW2] at hrun
      have hee := (mem_left hel).1
      have hen := run_entry_at (P := Try.prog) W2 (w.heap.size + 1) kb cl seen es cl e hit2 hbr2 hee hstm.2.1
      obtain ⟨c, a, hkey, hval, hfa⟩ := hhe.of e hee
      rw [hkey, hval] at hrun hen
      have hIn := HE.out.2.2.2.1 c
      rw [hfa] at hIn
      have hgc : cnt (k (kbyte e)) = cnt (k c) := by rw [kbyte_of hkey]
      have hps := sumSeen_push (fun x => cnt (k (kbyte x))) seen e (mem_left hel).2 es.toList hstm.2.1 hee
      have hle := sumSeen_le (fun x => cnt (k (kbyte x))) (seen.push e.born) es.toList
      have hlt := HE.out.2.2.2.2
      have hsh := left_shrinks es seen e hel
      simp only [hgc] at hps
      obtain ⟨M, hM⟩ : ∃ M, M = cnt (k c) := ⟨_, rfl⟩
      obtain ⟨S, hS⟩ : ∃ S, S = (if ((some x) : Option Int).isSome then 1 else 0) + sumSeen (fun x => cnt (k (kbyte x))) es.toList seen := ⟨_, rfl⟩
      obtain ⟨b, hab, hcell⟩ : ∃ b, a = ⟨b, 0, none⟩ ∧ W2.cell? ⟨b, 1, none⟩ = some (.int .i64 (M : Nat)) := by
        rw [hM]
        cases hkc : k c with
        | nil => rw [hkc] at hIn; cases hIn
        | node v' k' =>
          rw [hkc] at hIn
          obtain ⟨b, mo', f', e', hb', _⟩ := hIn
          cases e'
          exact ⟨b, rfl, nodeC1 (upb hB2 hb')⟩
      subst hab
      rw [← hM] at hps
      rw [← hS] at hbx2
      have c1 := nodeC1 hbx2
      have f1 := nodeF (o := 1) hbx2
      have hwr : IntKind.i64.wrap ((S : Int) + (M : Int)) = ((S + M : Nat) : Int) := by rw [IntKind.wrap_i64]; omega
      have hnx : ∀ ty, (Instr.next (.pointer (some ⟨w.heap.size + 1, 0, none⟩)) false ty).run Try.prog wr = _ := fun _ => hrun
      have HN : Hid (Cw w (some x) kb es cl k (seen.push e.born) (W2.drew.setCell ⟨w.heap.size, 1, none⟩ (.int .i64 ((S + M : Nat) : Int)))) := by
        refine Lib.hid ⟨belowSet (a := ⟨w.heap.size, 1, none⟩) hB2.drew (Nat.le_refl _) _, ?_, cl, Nat.le_refl _, ?_⟩
        · have h := nodeSet (w := W2.drew) (b := w.heap.size) (o := 1) (u := .int .i64 ((S + M : Nat) : Int)) hbx2
          rw [hps, ← Nat.add_assoc, ← hS]
          exact h
        · exact (Below.heap_setCell _ _ _ _ (by simp)).trans hit2
      have HM : Hid ((leftOf es (seen.push e.born)).size < (leftOf es (wr.iterSeen (w.heap.size + 1))).size) := Lib.hid (by rw [iterSeen_at hit]; exact hsh)
      clear hB1 hbx1 hs1 hW2 hit2 hB2 hbx2 hbr2 hee hkey hval hfa hIn hgc hps hle hlt hsh hM hS bel box hit hbr hstm hhe hse hcn hrun hw1 hel HC
      go_wp2_with fail
      go_still_tail 8, (by kernel_rfl)
      change wpList _ _ _ _ _ W2.drew
      go_wp2_with fail
      have e : (W2.setCell ⟨w.heap.size, 1, none⟩ (.int .i64 ((S : Int) + (M : Int)))).drew = W2.drew.setCell ⟨w.heap.size, 1, none⟩ (.int .i64 ((S + M : Nat) : Int)) := by rw [Int.natCast_add]; rfl
      rw [e]
      obtain ⟨c9, _, hi9⟩ := HN.out.iter
      exact ⟨⟨_, HN⟩, by rw [iterSeen_at hi9]; exact HM.out⟩

theorem counted_any (w : World) (v : Option Int) (n0 : Int) (mo : Option Nat) (f : UInt8 → Option Addr) (k : UInt8 → TT) (hm : MapAt w f mo) (hk : ∀ c, In w (k c) (f c)) (hc : cnt (.node v k) < 9223372036854775808) :
    Calls Try.prog 26 #[.agg #[.int .i64 (v.getD 0), .int .i64 n0, .bool v.isSome, .map mo]] w (RetT w (mk v k)) := by
  cases mo with
  | none =>
    have hkn : ∀ c, k c = .nil := fun c => In.isnil (by have h := hk c; rw [hm c] at h; exact h)
    cases v with
    | none => exact counted_nil_none w n0 k hkn
    | some x => exact counted_nil_some w x n0 k hkn
  | some kb =>
    obtain ⟨es, cl, hb, hst, he⟩ := hm
    cases v with
    | none => exact counted_map_none w n0 kb es cl f k hb hst he hk hc
    | some x => exact counted_map_some w x n0 kb es cl f k hb hst he hk hc

end Go.Proofs.Yteglhcpochcopaa.trie
