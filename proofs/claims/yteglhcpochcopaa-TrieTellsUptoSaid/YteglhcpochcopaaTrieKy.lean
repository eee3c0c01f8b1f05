/- maps.Keys over a trie's map: its closure's contract: each key once, in whatever order. -/
import Derived.Test.YteglhcpochcopaaTriePut
import Derived.RangeFuncBox
import Derived.RangeFuncWrites
import Derived.RangeFuncStops
import Derived.TacticsInMore
import Derived.RegionIn
import Derived.LoopNIn
import Derived.LoopIn
import Derived.OwnWalkIn
import Derived.WalkKit
namespace Go.Proofs.Yteglhcpochcopaa.trie
open Go.RowKit Go.Shelf

attribute [local go_sem] Oper.semAt_some

set_option maxHeartbeats 1000000 in
theorem keys_any (mo : Option Nat) (w : World) :
    Calls Try.prog 29 #[.map mo] w fun e w' => e = .returned (.func (.func 33) #[] #[.pointer (some ⟨w.heap.size, 0, none⟩)]) ∧ w' = w.alloc (.cells #[.map mo] 48) := by
  go_enter Try.func29, Try.ntmps29
  go_wp2_with fail
  go_ret
  exact ⟨rfl, rfl⟩

/-- which keys have come -/
def Come (es : Array MapEntry) (seen : Array Nat) (ss : List UInt8) : Prop := ss.Nodup ∧ ss.length = sumSeen (fun _ => 1) es.toList seen ∧ ∀ c, c ∈ ss ↔ ∃ x ∈ es.toList, x.key = bv c ∧ seen.contains x.born = true
theorem Come.start (es : Array MapEntry) : Come es #[] [] := ⟨List.nodup_nil, by rw [sumSeen_none]; rfl, fun c => by simp⟩
theorem Come.step {es : Array MapEntry} {cl : Nat} {seen : Array Nat} {ss : List UInt8} (h : Come es seen ss) (hst : MapKept.Stamped es cl) {e : MapEntry} (he : e ∈ es.toList) (hs : seen.contains e.born = false) {c : UInt8} (hk : e.key = bv c) : Come es (seen.push e.born) (ss ++ [c]) := by
  have hnew : c ∉ ss := by
    intro hc
    obtain ⟨x, hx, hxk, hxs⟩ := (h.2.2 c).1 hc
    obtain ⟨i, hi⟩ := List.mem_iff_getElem?.1 hx
    obtain ⟨j, hj⟩ := List.mem_iff_getElem?.1 he
    have e1 : (es.toList.map (·.key))[i]? = (es.toList.map (·.key))[j]? := by simp only [List.getElem?_map, hi, hj, Option.map_some, hxk, hk]
    have hl : i < (es.toList.map (·.key)).length := by rw [List.length_map]; exact (List.getElem?_eq_some_iff.1 hi).1
    have := (List.getElem?_inj hl hst.2.2).1 e1
    subst this
    rw [hi] at hj
    cases hj
    rw [hs] at hxs
    cases hxs
  refine ⟨?_, ?_, fun d => ?_⟩
  · rw [List.nodup_append]
    exact ⟨h.1, by simp, fun x hx y hy e => hnew (by rw [List.mem_singleton] at hy; rw [← hy, ← e]; exact hx)⟩
  · rw [sumSeen_push _ seen e hs es.toList hst.2.1 he, List.length_append, h.2.1]; rfl
  · rw [List.mem_append, List.mem_singleton, h.2.2 d]
    constructor
    · rintro (⟨x, hx, hxk, hxs⟩ | rfl)
      · exact ⟨x, hx, hxk, by rw [contains_push, hxs]; rfl⟩
      · exact ⟨e, he, hk, by rw [contains_push]; simp⟩
    · rintro ⟨x, hx, hxk, hxs⟩
      rw [contains_push] at hxs
      cases hc : seen.contains x.born with
      | true => exact .inl ⟨x, hx, hxk, hc⟩
      | false =>
        rw [hc] at hxs
        have : x.born = e.born := by simpa using hxs
        have := born_inj hst.2.1 hx he this
        subst this
        rw [hk] at hxk
        exact .inr (bv_inj hxk).symm
theorem Come.lt {es : Array MapEntry} {cl : Nat} {seen : Array Nat} {ss : List UInt8} (h : Come es seen ss) (hst : MapKept.Stamped es cl) {e : MapEntry} (he : e ∈ es.toList) (hs : seen.contains e.born = false) : ss.length < es.size := by
  have h1 := sumSeen_push (fun _ => 1) seen e hs es.toList hst.2.1 he
  have h2 : ∀ l : List MapEntry, sumSeen (fun _ => 1) l (seen.push e.born) ≤ l.length := by
    intro l
    induction l with
    | nil => exact Nat.le_refl _
    | cons x l ih => simp only [sumSeen, List.length_cons]; split <;> omega
  have h3 := h2 es.toList
  rw [h1, Array.length_toList] at h3
  rw [h.2.1]
  omega
theorem Come.all {es : Array MapEntry} {seen : Array Nat} {ss : List UInt8} (h : Come es seen ss) {f : UInt8 → Option Addr} (he : Ents es f) (h0 : (leftOf es seen).size = 0) : ss.Nodup ∧ ∀ c, c ∈ ss ↔ f c ≠ none := by
  refine ⟨h.1, fun c => ?_⟩
  rw [h.2.2 c]
  constructor
  · rintro ⟨x, hx, hk, _⟩
    obtain ⟨c', a, e1, _, e3⟩ := he.of x hx
    rw [hk] at e1
    have := bv_inj e1
    subst this
    rw [e3]
    simp
  · intro hf
    cases hfc : f c with
    | none => exact absurd hfc hf
    | some a =>
      obtain ⟨x, hx, e⟩ := he.has c a hfc
      exact ⟨x, hx, e, all_seen es seen h0 x hx⟩

set_option maxRecDepth 100000 in
set_option maxHeartbeats 4000000 in
theorem keys1_in (F : Fence) (n : Nat) (hf : F.fn 33) (hro : F.round = none) (hn : 1 ≤ n) (l Bm kb : Nat) (es : Array MapEntry) (cl : Nat) (f : UInt8 → Option Addr) (J Jx : List UInt8 → World → Prop)
    (hY : ∀ pre x W, J pre W → pre.length < es.size → YieldAt F (n - 1) Try.prog l #[bv x] W fun e W' =>
      (e = .returned (.bool true) ∧ J (pre ++ [x]) W' ∧ KeepsWalks W W') ∨ (e = .returned (.bool false) ∧ Jx (pre ++ [x]) W'))
    (W : World) (hJ : AbidesFrom W.heap.size J) (hm : W.cell? ⟨Bm, 0, none⟩ = some (.map (some kb))) (hb : W.heap[kb]? = some (.map es cl)) (hst : MapKept.Stamped es cl) (he : Ents es f) (h0 : J [] W) :
    CallsIn F n Try.prog 33 #[.func (.yield l) #[] #[], .pointer (some ⟨Bm, 0, none⟩)] W fun e W' => (∃ v, e = .returned v) ∧
      ((∃ ys : List UInt8, (ys.Nodup ∧ ∀ c, c ∈ ys ↔ f c ≠ none) ∧ J ys W') ∨ (∃ pre, True ∧ Jx pre W')) := by
  have hrg := run_range_map (P := Try.prog) W 48 _ _ kb es cl ru hb
  refine callsIn_of_wp Try.func33 rfl hf ?_ hro
  simp only [Try.ntmps33, List.size_toArray, List.length_cons, List.length_nil, Nat.reduceAdd, Nat.reduceSub, Array.replicate_succ, Array.replicate_zero, List.push_toArray, List.append_toArray, List.nil_append, List.cons_append]
  gi_wp2
  gi_loopw [3] (fun _ wr => ∃ (seen : Array Nat) (ss : List UInt8) (c0 : Nat), cl ≤ c0 ∧ wr.heap[W.heap.size]? = some (.mapIter (some kb) cl seen c0) ∧ wr.heap[kb]? = some (.map es cl) ∧ Come es seen ss ∧ J ss wr)
    (fun _ wr => (leftOf es (wr.iterSeen W.heap.size)).size)
  case atStart => exact ⟨#[], [], cl, Nat.le_refl _, heap_alloc_new W _, heapAlloc1 W _ hb, Come.start es, hJ [] W _ none h0 (World.grownBy_alloc W _ _) (fun r e => by cases e)⟩
  case round =>
    obtain ⟨seen, ss, c0, hc0, hit, hbr, hC, hJs⟩ := hrel
    clear hrg
    rcases run_next_at (P := Try.prog) wr 0 W.heap.size kb cl c0 seen es cl hit hbr hst.1 hc0 with ⟨h0, hrun⟩ | ⟨e, hel, w1, hw1, hrun⟩
    · have hnx : ∀ ty, (Instr.next (.pointer (some ⟨W.heap.size, 0, none⟩)) false ty).run Try.prog wr = _ := fun _ => hrun
      gi_wp2
      go_end0
      exact ⟨⟨_, rfl⟩, .inl ⟨ss, hC.all he h0, hJs⟩⟩
    · obtain ⟨W2, hW2⟩ : ∃ W2, W2 = ChangeMaps.setBlock w1 W.heap.size (.mapIter (some kb) cl (seen.push e.born) cl) := ⟨_, rfl⟩
      have hs1 : W.heap.size < w1.heap.size := by have := (Array.getElem?_eq_some_iff.1 hit).1; rcases hw1 with rfl | rfl <;> exact this
      have hit2 : W2.heap[W.heap.size]? = some (.mapIter (some kb) cl (seen.push e.born) cl) := by rw [hW2]; exact setBlock_at _ hs1
      have hkne : kb ≠ W.heap.size := by have := (Array.getElem?_eq_some_iff.1 hb).1; omega
      have hbr2 : W2.heap[kb]? = some (.map es cl) := by rw [hW2, setBlock_ne _ hkne]; rcases hw1 with rfl | rfl <;> exact hbr
      have hg2 : wr.grownBy W2 (some W.heap.size) := by
        rw [hW2]
        refine ⟨by rcases hw1 with rfl | rfl <;> rfl, by rcases hw1 with rfl | rfl <;> rfl, by rcases hw1 with rfl | rfl <;> rfl, by rw [setBlock_size]; rcases hw1 with rfl | rfl <;> exact Nat.le_refl _, fun i hi hne => ?_⟩
        rw [setBlock_ne _ (fun e => hne (by rw [e]))]
        rcases hw1 with rfl | rfl <;> rfl
      have hJ2 : J ss W2 := hJ ss wr W2 (some W.heap.size) hJs hg2 (fun r e => by cases e; exact ⟨Nat.le_refl _, _, hit, rfl⟩)
      rw [← hW2] at hrun
      have hee := (mem_left hel).1
      have hns := (mem_left hel).2
      have hen := run_entry_at (P := Try.prog) W2 W.heap.size kb cl seen es cl e hit2 hbr2 hee hst.2.1
      obtain ⟨c, a, hkey, hval, hfa⟩ := he.of e hee
      have hC2 := hC.step hst hee hns hkey
      have hlt := hC.lt hst hee hns
      have hsh := left_shrinks es seen e hel
      rw [hkey, hval] at hrun hen
      have hnx : ∀ ty, (Instr.next (.pointer (some ⟨W.heap.size, 0, none⟩)) false ty).run Try.prog wr = _ := fun _ => hrun
      obtain ⟨fn, tmps, assign, body, hy, hR⟩ := hY ss c W2 hJ2 hlt
      clear hs1 hW2 hg2 hw1
      gi_wp2
      refine hR.mono ?_
      rintro e3 W3 (⟨rfl, hJ3, hk3⟩ | ⟨rfl, hJx3⟩)
      · have hit3 := hk3.same _ _ hit2 rfl
        have hbr3 := hk3.same _ _ hbr2 rfl
        gi_wp2
        go_roundw
        case rel => exact ⟨_, ss ++ [c], cl, Nat.le_refl _, hit3, hbr3, hC2, hJ3⟩
        case measure => rw [iterSeen_at hit3, iterSeen_at hit]; exact hsh
      · gi_wp2
        refine bodyPost_ret (results_none rfl _ _ _) rfl ?_
        exact ⟨⟨_, rfl⟩, .inr ⟨_, trivial, hJx3⟩⟩
set_option maxRecDepth 100000 in
set_option maxHeartbeats 4000000 in
theorem keys1_nil (F : Fence) (n : Nat) (hf : F.fn 33) (hro : F.round = none) (_hn : 1 ≤ n) (l Bm : Nat) (J Jx : List UInt8 → World → Prop)
    (W : World) (hJ : AbidesFrom W.heap.size J) (hm : W.cell? ⟨Bm, 0, none⟩ = some (.map none)) (h0 : J [] W) :
    CallsIn F n Try.prog 33 #[.func (.yield l) #[] #[], .pointer (some ⟨Bm, 0, none⟩)] W fun e W' => (∃ v, e = .returned v) ∧
      ((∃ ys : List UInt8, (ys.Nodup ∧ ∀ c, c ∈ ys ↔ (none : Option Addr) ≠ none) ∧ J ys W') ∨ (∃ pre, True ∧ Jx pre W')) := by
  have hrg := run_range_nilMap (P := Try.prog) W 48 _ _ ru
  have hnx := fun ty => run_next_nilMap (P := Try.prog) W ty 0 0 #[]
  refine callsIn_of_wp Try.func33 rfl hf ?_ hro
  simp only [Try.ntmps33, List.size_toArray, List.length_cons, List.length_nil, Nat.reduceAdd, Nat.reduceSub, Array.replicate_succ, Array.replicate_zero, List.push_toArray, List.append_toArray, List.nil_append, List.cons_append]
  gi_wp2
  gi_loopw [3] (fun _ wr => wr = W.alloc (.mapIter none 0 #[] 0)) (fun _ _ => 0)
  case atStart => rfl
  case round =>
    subst hrel
    gi_wp2
    go_end0
    exact ⟨⟨_, rfl⟩, .inl ⟨[], ⟨List.nodup_nil, fun c => by simp⟩, hJ [] W _ none h0 (World.grownBy_alloc W _ _) (fun r e => by cases e)⟩⟩

/-- how many keys, at most -/
def MapN (w : World) : Option Nat → Nat
  | none => 0
  | some kb => match w.heap[kb]? with
    | some (.map es _) => es.size
    | _ => 0
theorem keys_stops (F : Fence) (n : Nat) (hf : F.fn 33) (hro : F.round = none) (hn : 1 ≤ n) (Bm : Nat) (w : World) (mo : Option Nat) (f : UInt8 → Option Addr) (hm : w.cell? ⟨Bm, 0, none⟩ = some (.map mo)) (hmap : MapAt w f mo) :
    SeqStopsK F n Try.prog 33 #[.pointer (some ⟨Bm, 0, none⟩)] (fun x : UInt8 => #[bv x]) KeepsWalks (fun ys => ys.Nodup ∧ ∀ c, c ∈ ys ↔ f c ≠ none) (fun _ => True) (MapN w mo) w := fun l J Jx W hW hJ _ hY h0 => by
  cases mo with
  | none =>
    have e : f = fun _ => none := funext hmap
    subst e
    exact keys1_nil F n hf hro hn l Bm J Jx W hJ (upc hW hm) h0
  | some kb =>
    obtain ⟨es, cl, hb, hst, he⟩ := hmap
    have e : MapN w (some kb) = es.size := by unfold MapN; simp only; rw [hb]
    rw [e] at hY
    exact keys1_in F n hf hro hn l Bm kb es cl f J Jx hY W hJ (upc hW hm) (upb hW hb) hst he h0
end Go.Proofs.Yteglhcpochcopaa.trie
