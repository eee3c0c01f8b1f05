/- Package ord: Merge: the numbers of both, rising. (Printed by om.py.) -/
import Derived.Test.YtnigadnjppeckaaOrdZ
import Derived.Test.YtnigadnjppeckaaManyO7
import Derived.Test.YtnigadnjppeckaaGrowTZ
import Derived.Test.YtnigadnjppeckaaGrowRZ
import Derived.Test.YtnigadnjppeckaaGrowCZ
import Derived.Test.YtnigadnjppeckaaKeepT
import Derived.Deep.LoopGhost
namespace Go.Proofs.Ytnigadnjppeckaa.ord
open Go.RowKit
open manyO (RetM Is q_behind findT findT_le kTM)

/-- WHILE TWO ARE MERGED: four boxes, from block b on -/
structure MSt (w : World) (b : Nat) (l : Int → Nat) (n : Nat) (po pp pa : Option Addr) (to tp ta : BT Int) (W : World) : Prop where
  bel : Below w.heap.size w W
  hb : b = w.heap.size
  hs : b + 4 ≤ W.heap.size
  b0 : W.heap[b]? = some (.cells #[.pointer po] 42 (0, 0))
  b1 : W.heap[b + 1]? = some (.cells #[.pointer pp] 42 (0, 0))
  b2 : W.heap[b + 2]? = some (.cells #[.pointer none] 42 (0, 0))
  b3 : W.heap[b + 3]? = some (.cells #[.pointer pa] 42 (0, 0))
  h0 : In 0 W po to
  h1 : In 0 W pp tp
  h3 : In 0 W pa ta
  mi : MI l ta.inorder to.inorder tp.inorder
  sz : ta.size + to.size + tp.size = n
theorem MSt.up {w : World} {b : Nat} {l : Int → Nat} {n : Nat} {po pp pa : Option Addr} {to tp ta : BT Int} {W W' : World} (h : MSt w b l n po pp pa to tp ta W) (hb : Below W.heap.size W W') : MSt w b l n po pp pa to tp ta W' :=
  ⟨belowTrans h.bel hb, h.hb, Nat.le_trans h.hs hb.size, upb hb h.b0, upb hb h.b1, upb hb h.b2, upb hb h.b3, h.h0.up hb, h.h1.up hb, h.h3.up hb, h.mi, h.sz⟩
theorem far {w : World} {k j : Nat} {v : Value} {ob : Obj} (hk : w.heap[j]? = some ob) (hne : k ≠ j) : (w.setCell ⟨k, 0, none⟩ v).heap[j]? = some ob :=
  (Below.heap_setCell w _ v j (by rintro rfl; exact hne rfl)).trans hk
theorem MSt.set (k : Nat) {w : World} {b : Nat} {l : Int → Nat} {n : Nat} {po pp pa : Option Addr} {to tp ta : BT Int} {W : World} {c : Array Value} {q : Option Addr} (h : MSt w b l n po pp pa to tp ta W) (hbk : b ≤ k) (hk : W.heap[k]? = some (.cells c 40 (0, 0))) : MSt w b l n po pp pa to tp ta (W.setCell ⟨k, 0, none⟩ (.pointer q)) := by
  have hne : ∀ j v, W.heap[j]? = some (.cells #[.pointer v] 42 (0, 0)) → k ≠ j := fun j v hj e => by
    subst e
    rw [hk] at hj
    injection hj with e1
    injection e1 with e2 e3
    exact absurd e3 (by decide)
  exact ⟨belowSet (a := ⟨k, 0, none⟩) h.bel (by have := h.hb; show w.heap.size ≤ k; omega) _, h.hb, by simpa [World.setCell] using h.hs, far h.b0 (hne _ _ h.b0), far h.b1 (hne _ _ h.b1), far h.b2 (hne _ _ h.b2), far h.b3 (hne _ _ h.b3), manyO.Holds.store1 h.h0 hk (by decide), manyO.Holds.store1 h.h1 hk (by decide), manyO.Holds.store1 h.h3 hk (by decide), h.mi, h.sz⟩
/-- the first and the second box change hands -/
theorem MSt.swap {w : World} {b : Nat} {l : Int → Nat} {n : Nat} {po pp pa : Option Addr} {to tp ta : BT Int} {W : World} (h : MSt w b l n po pp pa to tp ta W) : MSt w b l n pp po pa tp to ta ((W.setCell ⟨b, 0, none⟩ (.pointer pp)).setCell ⟨b + 1, 0, none⟩ (.pointer po)) := by
  have hb := h.hb
  have k1 : (W.setCell ⟨b, 0, none⟩ (.pointer pp)).heap[b + 1]? = some (.cells #[.pointer pp] 42 (0, 0)) := far h.b1 (by omega)
  exact ⟨belowSet (a := ⟨b + 1, 0, none⟩) (belowSet (a := ⟨b, 0, none⟩) h.bel (by show w.heap.size ≤ b; omega) _) (by show w.heap.size ≤ b + 1; omega) _, h.hb, by simpa [World.setCell] using h.hs, far (one_setCell h.b0) (by omega), one_setCell k1, far (far h.b2 (by omega)) (by omega), far (far h.b3 (by omega)) (by omega), manyO.Holds.store1 (manyO.Holds.store1 h.h1 h.b0 (by decide)) k1 (by decide), manyO.Holds.store1 (manyO.Holds.store1 h.h0 h.b0 (by decide)) k1 (by decide), manyO.Holds.store1 (manyO.Holds.store1 h.h3 h.b0 (by decide)) k1 (by decide), h.mi.swap, by have := h.sz; omega⟩
/-- the fourth and the first box are filled anew -/
theorem MSt.next {w : World} {b : Nat} {l : Int → Nat} {n : Nat} {po pp pa qo qa : Option Addr} {to tp ta uo ua : BT Int} {W : World} (h : MSt w b l n po pp pa to tp ta W) (ha : In 0 W qa ua) (ho : In 0 W qo uo) (hm : MI l ua.inorder uo.inorder tp.inorder) (hz : ua.size + uo.size + tp.size = n) : MSt w b l n qo pp qa uo tp ua ((W.setCell ⟨b + 3, 0, none⟩ (.pointer qa)).setCell ⟨b, 0, none⟩ (.pointer qo)) := by
  have hb := h.hb
  have k1 : (W.setCell ⟨b + 3, 0, none⟩ (.pointer qa)).heap[b]? = some (.cells #[.pointer po] 42 (0, 0)) := far h.b0 (by omega)
  exact ⟨belowSet (a := ⟨b, 0, none⟩) (belowSet (a := ⟨b + 3, 0, none⟩) h.bel (by show w.heap.size ≤ b + 3; omega) _) (by show w.heap.size ≤ b; omega) _, h.hb, by simpa [World.setCell] using h.hs, one_setCell k1, far (far h.b1 (by omega)) (by omega), far (far h.b2 (by omega)) (by omega), far (one_setCell h.b3) (by omega), manyO.Holds.store1 (manyO.Holds.store1 ho h.b3 (by decide)) k1 (by decide), manyO.Holds.store1 (manyO.Holds.store1 h.h1 h.b3 (by decide)) k1 (by decide), manyO.Holds.store1 (manyO.Holds.store1 ha h.b3 (by decide)) k1 (by decide), hm, hz⟩
/-- memory is kept, but for what some blocks of one type hold -/
structure Rl (ty0 : Nat) (S : Nat → Prop) (W W' : World) : Prop where
  os : W'.os = W.os
  tape : W'.tape = W.tape
  output : W'.output = W.output
  size : W.heap.size ≤ W'.heap.size
  low : ∀ k, ¬ S k → k < W.heap.size → W'.heap[k]? = W.heap[k]?
  keep : ∀ (k : Nat) (c : Array Value) (ty : Nat) (fz : Nat × Nat), W.heap[k]? = some (Obj.cells c ty fz) → ty ≠ ty0 → W'.heap[k]? = some (Obj.cells c ty fz)
  one : ∀ (k : Nat) (v : Option Addr), W.heap[k]? = some (.cells #[.pointer v] ty0 (0, 0)) → ∃ v', W'.heap[k]? = some (.cells #[.pointer v'] ty0 (0, 0))
theorem Rl.of {ty0 : Nat} {S : Nat → Prop} {W W' : World} (h : Below W.heap.size W W') : Rl ty0 S W W' :=
  ⟨h.os, h.tape, h.output, h.size, fun k _ hk => h.block k hk, fun _ _ _ _ hk _ => upb h hk, fun _ v hk => ⟨v, upb h hk⟩⟩
theorem Rl.trans {ty0 : Nat} {S : Nat → Prop} (u v x : World) (h : Rl ty0 S u v) (k : Rl ty0 S v x) : Rl ty0 S u x :=
  ⟨k.os.trans h.os, k.tape.trans h.tape, k.output.trans h.output, Nat.le_trans h.size k.size, fun b h1 h2 => (k.low b h1 (Nat.lt_of_lt_of_le h2 h.size)).trans (h.low b h1 h2), fun b c ty fz h1 h2 => k.keep b c ty fz (h.keep b c ty fz h1 h2) h2, fun b v h1 => by
    obtain ⟨v', h2⟩ := h.one b v h1
    exact k.one b v' h2⟩
theorem Rl.wide {ty0 : Nat} {S T : Nat → Prop} {W W' : World} (h : Rl ty0 S W W') (hST : ∀ k, S k → T k) : Rl ty0 T W W' :=
  ⟨h.os, h.tape, h.output, h.size, fun k hk => h.low k fun hs => hk (hST k hs), h.keep, h.one⟩
theorem Rl.set {ty0 g : Nat} {S : Nat → Prop} {W : World} {c q : Option Addr} (hg : W.heap[g]? = some (.cells #[.pointer c] ty0 (0, 0))) (hS : S g) : Rl ty0 S W (W.setCell ⟨g, 0, none⟩ (.pointer q)) := by
  refine ⟨rfl, rfl, rfl, by simp [World.setCell], fun k hk _ => Below.heap_setCell _ _ _ _ (by rintro rfl; exact hk hS), fun k c' ty fz hk hty => ?_, fun k v hk => ?_⟩
  · refine (Below.heap_setCell _ _ _ _ ?_).trans hk
    intro e
    have e' : k = g := e
    rw [e', hg] at hk
    cases hk
    exact hty rfl
  · by_cases e : k = g
    · subst e
      exact ⟨q, one_setCell hg⟩
    · exact ⟨v, (Below.heap_setCell _ _ _ _ (by show k ≠ g; exact e)).trans hk⟩
theorem lt_of_some {W : World} {k : Nat} {o : Obj} (h : W.heap[k]? = some o) : k < W.heap.size := (Array.getElem?_eq_some_iff.1 h).1
theorem Rl.blk {ty0 : Nat} {S : Nat → Prop} {W W' : World} {k : Nat} {o : Obj} (h : Rl ty0 S W W') (hk : ¬ S k) (hb : W.heap[k]? = some o) : W'.heap[k]? = some o := (h.low k hk (lt_of_some hb)).trans hb
theorem Rl.inn {ty0 : Nat} {S : Nat → Prop} {W W' : World} {p : Option Addr} {t : BT Int} (h : Rl ty0 S W W') (hne : 142 ≠ ty0) (hi : In 0 W p t) : In 0 W' p t :=
  Holds.keep (T := [ty0]) hi (fun k c ty fz hk ht => h.keep k c ty fz hk (by simpa using ht)) (by simpa using hne)
theorem MSt.rl {ty0 : Nat} {w : World} {b : Nat} {l : Int → Nat} {n : Nat} {po pp pa : Option Addr} {to tp ta : BT Int} {W W' : World} (h : MSt w b l n po pp pa to tp ta W) (hR : Rl ty0 (fun k => b + 4 ≤ k) W W') (hne : 142 ≠ ty0) : MSt w b l n po pp pa to tp ta W' :=
  have hb := h.hb
  ⟨⟨hR.os.trans h.bel.os, hR.tape.trans h.bel.tape, hR.output.trans h.bel.output, Nat.le_trans h.bel.size hR.size, fun k hk => (hR.low k (by omega) (Nat.lt_of_lt_of_le hk h.bel.size)).trans (h.bel.block k hk)⟩, h.hb, Nat.le_trans h.hs hR.size, hR.blk (by omega) h.b0, hR.blk (by omega) h.b1, hR.blk (by omega) h.b2, hR.blk (by omega) h.b3, hR.inn hne h.h0, hR.inn hne h.h1, hR.inn hne h.h3, h.mi, h.sz⟩
theorem MSt.next2 {w : World} {b : Nat} {l : Int → Nat} {n : Nat} {po pp pa qo qa : Option Addr} {to tp ta uo ua : BT Int} {W W' : World} (h : MSt w b l n po pp pa to tp ta W) (hR : Rl 42 (fun k => k = b + 3 ∨ k = b) W W') (h3 : W'.heap[b + 3]? = some (.cells #[.pointer qa] 42 (0, 0))) (h0 : W'.heap[b]? = some (.cells #[.pointer qo] 42 (0, 0))) (ha : In 0 W' qa ua) (ho : In 0 W' qo uo) (hm : MI l ua.inorder uo.inorder tp.inorder) (hz : ua.size + uo.size + tp.size = n) : MSt w b l n qo pp qa uo tp ua W' :=
  have hb := h.hb
  ⟨⟨hR.os.trans h.bel.os, hR.tape.trans h.bel.tape, hR.output.trans h.bel.output, Nat.le_trans h.bel.size hR.size, fun k hk => (hR.low k (by omega) (Nat.lt_of_lt_of_le hk h.bel.size)).trans (h.bel.block k hk)⟩, h.hb, Nat.le_trans h.hs hR.size, h0, hR.blk (by omega) h.b1, hR.blk (by omega) h.b2, h3, ho, hR.inn (by decide) h.h1, ha, hm, hz⟩
def Rs5 (b i : Nat) (W W' : World) : Prop := if i = 13 then Rl 40 (fun k => b + 4 ≤ k) W W' else Below W.heap.size W W'
theorem Rs5_of {b i : Nat} {W W' : World} (h : i ≠ 13) (hb : Below W.heap.size W W') : Rs5 b i W W' := by unfold Rs5; rw [if_neg h]; exact hb
theorem Rs5_st {b : Nat} {W W' : World} (h : Rl 40 (fun k => b + 4 ≤ k) W W') : Rs5 b 13 W W' := by unfold Rs5; rw [if_pos rfl]; exact h
theorem Rs5_below {b i : Nat} {W W' : World} (h : i ≠ 13) (hr : Rs5 b i W W') : Below W.heap.size W W' := by unfold Rs5 at hr; rw [if_neg h] at hr; exact hr
theorem Rs5_rl (b i : Nat) (W W' : World) (hr : Rs5 b i W W') : Rl 40 (fun k => b + 4 ≤ k) W W' := by
  by_cases h : i = 13
  · unfold Rs5 at hr; rw [if_pos h] at hr; exact hr
  · exact .of (Rs5_below h hr)
def Rs6 (b i : Nat) (W W' : World) : Prop := if i = 7 then Rl 42 (fun k => k = b + 3) W W' else if i = 8 then Rl 42 (fun k => k = b) W W' else Below W.heap.size W W'
theorem Rs6_of {b i : Nat} {W W' : World} (h : i ≠ 7) (h2 : i ≠ 8) (hb : Below W.heap.size W W') : Rs6 b i W W' := by unfold Rs6; rw [if_neg h, if_neg h2]; exact hb
theorem Rs6_7 {b : Nat} {W W' : World} (h : Rl 42 (fun k => k = b + 3) W W') : Rs6 b 7 W W' := by unfold Rs6; rw [if_pos rfl]; exact h
theorem Rs6_8 {b : Nat} {W W' : World} (h : Rl 42 (fun k => k = b) W W') : Rs6 b 8 W W' := by unfold Rs6; rw [if_neg (by decide), if_pos rfl]; exact h
theorem Rs6_not7 {b i : Nat} {W W' : World} (h : i ≠ 7) (hr : Rs6 b i W W') : Rl 42 (fun k => k = b) W W' := by
  unfold Rs6 at hr
  rw [if_neg h] at hr
  by_cases h2 : i = 8
  · rw [if_pos h2] at hr; exact hr
  · rw [if_neg h2] at hr; exact .of hr
theorem Rs6_not8 {b i : Nat} {W W' : World} (h : i ≠ 8) (hr : Rs6 b i W W') : Rl 42 (fun k => k = b + 3) W W' := by
  unfold Rs6 at hr
  by_cases h2 : i = 7
  · rw [if_pos h2] at hr; exact hr
  · rw [if_neg h2, if_neg h] at hr; exact .of hr
theorem Rs6_rl (b i : Nat) (W W' : World) (hr : Rs6 b i W W') : Rl 42 (fun k => k = b + 3 ∨ k = b) W W' := by
  by_cases h : i = 7
  · exact (Rs6_not8 (by omega) hr).wide fun k hk => .inl hk
  · exact (Rs6_not7 h hr).wide fun k hk => .inr hk
def kTF (Q : BT Int → Prop) (v : Value) (W : World) : Prop := ∃ q t, v = .agg #[.pointer q] ∧ Q t ∧ In 0 W q t
theorem kTF.up {ty0 : Nat} {S : Nat → Prop} {Q : BT Int → Prop} {v : Value} {W W' : World} (h : kTF Q v W) (hR : Rl ty0 S W W') (hne : 142 ≠ ty0) : kTF Q v W' := by
  obtain ⟨q, t, h1, h2, h3⟩ := h
  exact ⟨q, t, h1, h2, hR.inn hne h3⟩
def kSp (xs : List Int) (k m : Nat) (v : Value) (W : World) : Prop := ∃ q r u s, v = .tuple #[.agg #[.pointer q], .agg #[.pointer r]] ∧ Is (xs.take k) k u ∧ Is (xs.drop k) m s ∧ In 0 W q u ∧ In 0 W r s
theorem kSp.up {ty0 : Nat} {S : Nat → Prop} {xs : List Int} {k m : Nat} {v : Value} {W W' : World} (h : kSp xs k m v W) (hR : Rl ty0 S W W') (hne : 142 ≠ ty0) : kSp xs k m v W' := by
  obtain ⟨q, r, u, s, h1, h2, h3, h4, h5⟩ := h
  exact ⟨q, r, u, s, h1, h2, h3, hR.inn hne h4, hR.inn hne h5⟩
def kNew (k : Nat) (v : Value) (W : World) : Prop := ∃ g c, v = .pointer (some ⟨g, 0, none⟩) ∧ k ≤ g ∧ W.heap[g]? = some (.cells #[.pointer c] 40 (0, 0))
theorem kNew.up {S : Nat → Prop} {k : Nat} {v : Value} {W W' : World} (h : kNew k v W) (hR : Rl 40 S W W') : kNew k v W' := by
  obtain ⟨g, c, h1, h2, h3⟩ := h
  obtain ⟨c', h4⟩ := hR.one g c h3
  exact ⟨g, c', h1, h2, h4⟩
def Apart2 (u v : Value) : Prop := ∀ g g', u = .pointer (some ⟨g, 0, none⟩) → v = .pointer (some ⟨g', 0, none⟩) → g ≠ g'
theorem apart_new {k : Nat} {W : World} {u : Value} (h : kNew k u W) : Apart2 (.pointer (some ⟨W.heap.size, 0, none⟩)) u ∧ Apart2 u (.pointer (some ⟨W.heap.size, 0, none⟩)) := by
  obtain ⟨g, c, rfl, _, h3⟩ := h
  have hlt := (Array.getElem?_eq_some_iff.1 h3).1
  constructor
  · intro a b e1 e2
    cases e1
    cases e2
    omega
  · intro a b e1 e2
    cases e1
    cases e2
    omega
/-- what the first store leaves: of the first box's address -/
def Lk5 (b : Nat) (xs : List Int) (k : Nat) (v : Value) (W : World) : Prop := ∃ g q u, v = .pointer (some ⟨g, 0, none⟩) ∧ b + 4 ≤ g ∧ W.heap[g]? = some (.cells #[.pointer q] 40 (0, 0)) ∧ Is (xs.take k) k u ∧ In 0 W q u
theorem Lk5.up {b k : Nat} {xs : List Int} {v : Value} {W W' : World} (h : Lk5 b xs k v W) (hb : Below W.heap.size W W') : Lk5 b xs k v W' := by
  obtain ⟨g, q, u, h1, h2, h3, h4, h5⟩ := h
  exact ⟨g, q, u, h1, h2, upb hb h3, h4, h5.up hb⟩
def J7 (b : Nat) (xs : List Int) (n : Nat) (_ : Value) (W : World) : Prop := ∃ q u, W.heap[b + 3]? = some (.cells #[.pointer q] 42 (0, 0)) ∧ Is xs n u ∧ In 0 W q u
def J8 (b : Nat) (q : Option Addr) (_ : Value) (W : World) : Prop := W.heap[b]? = some (.cells #[.pointer q] 42 (0, 0))
/-- what Merge hands back -/
def MQ (t u : BT Int) (v : BT Int) : Prop := v.size = t.size + u.size ∧ v.inorder.Pairwise (· ≤ ·) ∧ ∀ z, v.inorder.count z = t.inorder.count z + u.inorder.count z
theorem nonempty {t : BT Int} (h : 0 < t.size) : ∃ x xs, t.inorder = x :: xs := by
  cases e : t.inorder with
  | nil =>
    have := BT.length_inorder t
    rw [e] at this
    simp at this
    omega
  | cons x xs => exact ⟨x, xs, rfl⟩

set_option maxRecDepth 100000 in
set_option maxHeartbeats 8000000 in
theorem Merge_any (w : World) (p : Option Addr) (t : BT Int) (q : Option Addr) (u : BT Int) (h : In 0 w p t) (hq : In 0 w q u) (hs : t.size + u.size ≤ 1152921504606820000) (ht : t.inorder.Pairwise (· ≤ ·)) (hu : u.inorder.Pairwise (· ≤ ·)) :
    Calls Try.prog 39 #[.agg #[.pointer p], .agg #[.pointer q]] w (RetM 0 w (MQ t u)) := by
  obtain ⟨V0, hV⟩ : ∃ V0, V0 = (((w.alloc (.cells #[.pointer p] 42)).alloc (.cells #[.pointer q] 42)).alloc (.cells #[.pointer none] 42)).alloc (.cells #[.pointer none] 42) := ⟨_, rfl⟩
  have hb2 : Below w.heap.size w ((w.alloc (.cells #[.pointer p] 42)).alloc (.cells #[.pointer q] 42)) := belowTrans (belowAlloc _ _) (belowAlloc _ _)
  have hb4 : Below ((w.alloc (.cells #[.pointer p] 42)).alloc (.cells #[.pointer q] 42)).heap.size ((w.alloc (.cells #[.pointer p] 42)).alloc (.cells #[.pointer q] 42)) V0 := by rw [hV]; exact belowTrans (belowAlloc _ _) (belowAlloc _ _)
  have hz2 : ((w.alloc (.cells #[.pointer p] 42)).alloc (.cells #[.pointer q] 42)).heap.size = w.heap.size + 2 := by simp
  have k2 := heapNew1 ((w.alloc (.cells #[.pointer p] 42)).alloc (.cells #[.pointer q] 42)) (.cells #[.pointer none] 42) (.cells #[.pointer none] 42)
  have k3 := heapNew2 ((w.alloc (.cells #[.pointer p] 42)).alloc (.cells #[.pointer q] 42)) (.cells #[.pointer none] 42) (.cells #[.pointer none] 42)
  rw [← hV, hz2] at k2 k3
  have HS0 : Hid (MSt w w.heap.size (fun z => t.inorder.count z + u.inorder.count z) (t.size + u.size) p q none t u .nil V0) := Lib.hid ⟨belowTrans hb2 hb4, rfl, by rw [hV]; simp, upb hb4 (heapNew1 w _ _), upb hb4 (heapNew2 w _ _), k2, k3, (h.up hb2).up hb4, (hq.up hb2).up hb4, rfl, ⟨List.Pairwise.nil, ht, hu, (fun _ h => by cases h), (fun _ h => by cases h), (fun z => by simp [BT.inorder])⟩, by simp [BT.size]⟩
  have HV := Lib.hid hV
  obtain ⟨N, hN⟩ : ∃ N, N = t.size + u.size := ⟨_, rfl⟩
  obtain ⟨l, hl⟩ : ∃ l, l = fun z => t.inorder.count z + u.inorder.count z := ⟨_, rfl⟩
  rw [← hN, ← hl] at HS0
  rw [← hN] at hs
  have HN := Lib.hid (And.intro hN hl)
  clear hb2 hb4 hz2 k2 k3 hV h hq ht hu hN hl
  obtain ⟨b, hb⟩ : ∃ b, b = w.heap.size := ⟨_, rfl⟩
  rw [← hb] at HS0
  have Hbw := Lib.hid hb
  go_enter Try.func39, Try.ntmps39
  go_wp2_with fail
  rw [← HV.out, ← hb]
  clear HV hb
  go_loopg [6] (t.size + u.size) (fun k _ wr => ∃ (po pp pa : Option Addr) (to tp ta : BT Int), to.size + tp.size ≤ k ∧ Hid (MSt w b l N po pp pa to tp ta wr))
  case atStart => exact ⟨p, q, none, t, u, .nil, Nat.le_refl _, HS0⟩
  case round =>
    obtain ⟨po, pp, pa, to, tp, ta, hk, HS⟩ := hrel
    clear HS0
    have hsz := HS.out.sz
    have k0 := cell_of_one HS.out.b0
    have k1 := cell_of_one HS.out.b1
    have HL1 := Lib.hid (manyO.Len_any 0 wr po to HS.out.h0)
    by_cases z1 : 0 < to.size
    · have c1 : decide ((0 : Int) < ((to.size : Nat) : Int)) = true := by simpa using z1
      go_wp2_with fail
      refine HL1.out.mono ?_
      rintro e wa ⟨rfl, hba⟩
      have HSa := Lib.hid (HS.out.up hba)
      have k1a := upc hba k1
      have HL2 := Lib.hid (manyO.Len_any 0 wa pp tp HSa.out.h1)
      clear hba HS HL1 k0 k1
      by_cases z2 : 0 < tp.size
      · have c2 : decide ((0 : Int) < ((tp.size : Nat) : Int)) = true := by simpa using z2
        go_wp2_with fail
        refine HL2.out.mono ?_
        rintro e wb ⟨rfl, hbb⟩
        have HSb := Lib.hid (HSa.out.up hbb)
        clear hbb HSa HL2 k1a c1 c2
        obtain ⟨o0, ot, ho⟩ := nonempty z1
        obtain ⟨p0, pt, hp⟩ := nonempty z2
        have HA0 := Lib.hid (fun W (hW : Below wb.heap.size wb W) => manyO.At_any 0 W po to 0 o0 (Nat.zero_le _) (HSb.out.h0.up hW) (by rw [ho]; rfl) (by omega))
        have HA1 := Lib.hid (fun W (hW : Below wb.heap.size wb W) => manyO.At_any 0 W pp tp 0 p0 (Nat.zero_le _) (HSb.out.h1.up hW) (by rw [hp]; rfl) (by omega))
        have HH := Lib.hid (And.intro ho hp)
        have m0 := cell_of_one HSb.out.b0
        have m1 := cell_of_one HSb.out.b1
        clear ho hp
        go_wp2_with fail
        refine grow.wp_grow [grow.kEq (.pointer (some ⟨b + 1, 0, none⟩)), grow.kEq (.agg #[.pointer pp]), grow.kEq (.int .i64 p0), grow.kEq (.pointer (some ⟨b, 0, none⟩)), grow.kEq (.agg #[.pointer po]), grow.kEq (.int .i64 o0), grow.kEq (.bool (decide (p0 < o0)))] (by kernel_rfl) (by kernel_rfl) (by kernel_rfl) (by kernel_rfl) ?step ?fin
        case step =>
          refine grow.Each.cons ?_ ?_
          · intro A W hB hs hJ K hK
            have s0 := hs 3 (by kernel_rfl)
            simp at s0
            rw [if_pos (by rfl)]
            clear hs hJ
            go_simp
            exact hK _ _ (Below.refl _ _) rfl
          refine grow.Each.cons ?_ ?_
          · intro A W hB hs hJ K hK
            have s0 : A.tmps.getD 18 undef = .pointer (some ⟨b + 1, 0, none⟩) := hJ 0 18 (by kernel_rfl) (by kernel_rfl)
            simp at s0
            have kk := upc hB m1
            rw [if_pos (by rfl)]
            clear hs hJ
            go_simp
            exact hK _ _ (Below.refl _ _) rfl
          refine grow.Each.cons ?_ ?_
          · intro A W hB hs hJ K hK
            have s0 : A.tmps.getD 19 undef = .agg #[.pointer pp] := hJ 1 19 (by kernel_rfl) (by kernel_rfl)
            simp at s0
            rw [if_pos (by rfl)]
            clear hs hJ
            go_simp
            go_at_call 71
            refine (HA1.out W hB).mono ?_
            rintro e W2 ⟨rfl, hbn⟩
            exact hK _ _ hbn rfl
          refine grow.Each.cons ?_ ?_
          · intro A W hB hs hJ K hK
            have s0 := hs 2 (by kernel_rfl)
            simp at s0
            rw [if_pos (by rfl)]
            clear hs hJ
            go_simp
            exact hK _ _ (Below.refl _ _) rfl
          refine grow.Each.cons ?_ ?_
          · intro A W hB hs hJ K hK
            have s0 : A.tmps.getD 21 undef = .pointer (some ⟨b, 0, none⟩) := hJ 3 21 (by kernel_rfl) (by kernel_rfl)
            simp at s0
            have kk := upc hB m0
            rw [if_pos (by rfl)]
            clear hs hJ
            go_simp
            exact hK _ _ (Below.refl _ _) rfl
          refine grow.Each.cons ?_ ?_
          · intro A W hB hs hJ K hK
            have s0 : A.tmps.getD 22 undef = .agg #[.pointer po] := hJ 4 22 (by kernel_rfl) (by kernel_rfl)
            simp at s0
            rw [if_pos (by rfl)]
            clear hs hJ
            go_simp
            go_at_call 71
            refine (HA0.out W hB).mono ?_
            rintro e W2 ⟨rfl, hbn⟩
            exact hK _ _ hbn rfl
          refine grow.Each.cons ?_ ?_
          · intro A W hB hs hJ K hK
            have s0 : A.tmps.getD 20 undef = .int .i64 p0 := hJ 2 20 (by kernel_rfl) (by kernel_rfl)
            simp at s0
            have s1 : A.tmps.getD 23 undef = .int .i64 o0 := hJ 5 23 (by kernel_rfl) (by kernel_rfl)
            simp at s1
            rw [if_pos (by rfl)]
            clear hs hJ
            go_simp
            exact hK _ _ (Below.refl _ _) rfl
          exact grow.Each.nil
        case fin =>
          intro f W hB hF
          have f0 : f 0 = .pointer (some ⟨b + 1, 0, none⟩) := hF 0 (by decide)
          have f1 : f 1 = .agg #[.pointer pp] := hF 1 (by decide)
          have f2 : f 2 = .int .i64 p0 := hF 2 (by decide)
          have f3 : f 3 = .pointer (some ⟨b, 0, none⟩) := hF 3 (by decide)
          have f4 : f 4 = .agg #[.pointer po] := hF 4 (by decide)
          have f5 : f 5 = .int .i64 o0 := hF 5 (by decide)
          have f6 : f 6 = .bool (decide (p0 < o0)) := hF 6 (by decide)
          clear hF
          generalize hA : grow.puts _ _ f _ = A'
          simp only [List.length_cons, List.length_nil, Nat.reduceAdd, grow.puts, Act.put, List.getElem?_toArray, List.getElem?_cons_zero, List.getElem?_cons_succ, Option.bind_some, List.setIfInBounds_toArray, List.set_cons_zero, List.set_cons_succ, f0, f1, f2, f3, f4, f5, f6] at hA
          subst hA
          have HSc := Lib.hid (HSb.out.up hB)
          clear hB HSb HA0 HA1 m0 m1
          by_cases hlt : p0 < o0
          · have hd : decide (p0 < o0) = true := by simpa using hlt
            have m0 := cell_of_one HSc.out.b0
            have m1 := cell_of_one HSc.out.b1
            have g0 := free_of_one HSc.out.b0
            have hz1 : (W.setCell ⟨b, 0, none⟩ (.pointer pp)).heap[b + 1]? = some (.cells #[.pointer pp] 42 (0, 0)) := far HSc.out.b1 (by omega)
            have m2 := cell_of_one hz1
            have g2 := free_of_one hz1
            obtain ⟨wx, hwx⟩ : ∃ wx, wx = (W.setCell ⟨b, 0, none⟩ (.pointer pp)).setCell ⟨b + 1, 0, none⟩ (.pointer po) := ⟨_, rfl⟩
            have HX : Hid (MSt w b l N pp po pa tp to ta wx) := Lib.hid (by rw [hwx]; exact HSc.out.swap)
            have HW := Lib.hid hwx
            have HQ : Hid (tp.inorder = p0 :: pt ∧ to.inorder = o0 :: ot ∧ p0 ≤ o0) := Lib.hid ⟨HH.out.2, HH.out.1, by omega⟩
            clear hz1 hwx HSc HH
            go_wp2_with fail
            rw [← HW.out]
            clear HW m0 m1 g0 m2 g2
            obtain ⟨kq, hkq⟩ : ∃ kq, kq = upto o0 tp.inorder := ⟨_, rfl⟩
            have hkq1 : 0 < kq := by rw [hkq, HQ.out.1]; exact upto_pos HQ.out.2.2
            have hkq2 : kq ≤ tp.size := by rw [hkq, ← BT.length_inorder]; exact upto_le _ _
            obtain ⟨M, hM⟩ : ∃ M, M = tp.size - kq := ⟨_, rfl⟩
            have hsz := HX.out.sz
            have HMI : Hid (MI l (ta.inorder ++ tp.inorder.take kq) (tp.inorder.drop kq) to.inorder) := Lib.hid (by rw [hkq]; exact HX.out.mi.step HQ.out.2.1)
            have hff := find_none o0 tp HX.out.mi.ro
            rw [← hkq] at hff
            have HA1 := Lib.hid (fun W (hW : In 0 W po to) => manyO.At_any 0 W po to 0 o0 (Nat.zero_le _) hW (by rw [HQ.out.2.1]; rfl) (by omega))
            have HF := Lib.hid (fun W (hW : In 0 W pp tp) => behind_any 0 W pp tp o0 (Nat.zero_le _) hW (by omega))
            rw [hff] at HF
            have HSp := Lib.hid (fun W (hW : In 0 W pp tp) => manyO.Split_any 0 W pp tp (kq : Nat) (Nat.zero_le _) hW (by omega) (by omega) (by omega))
            simp only [Int.toNat_natCast, ← hM] at HSp
            clear hff hkq
            go_wp2_with fail
            refine grow.wp_grow_taill 14 (Rl 40 (fun k => b + 4 ≤ k)) Rl.trans (Rs5 b) (Rs5_rl b) (fun u => .of (belowDrew u)) 11 12 Apart2 (by decide) 13 11 (Lk5 b tp.inorder kq) (fun j v W W2 hj hR h => h.up (Rs5_below hj hR)) (grow.dep_of (by kernel_rfl)) (fun _ => by decide) (fun _ => ⟨6, by kernel_rfl⟩) [grow.rEq (.pointer (some ⟨b, 0, none⟩)), grow.rEq (.agg #[.pointer pp]), grow.rEq (.agg #[.pointer pp]), grow.rEq (.pointer (some ⟨b + 1, 0, none⟩)), grow.rEq (.agg #[.pointer po]), grow.rEq (.int .i64 o0), grow.rEq (.int .i64 (kq : Nat)), kSp tp.inorder kq M, kSp tp.inorder kq M, kTF (Is (tp.inorder.take kq) kq), kTF (Is (tp.inorder.drop kq) M), kNew (b + 4), kNew (b + 4), grow.rAny] (of_decide_eq_true (by kernel_rfl)) (by kernel_rfl) (by kernel_rfl) (by kernel_rfl) (by kernel_rfl) (by kernel_rfl) ?mono ?step ?fin
            case mono =>
              intro i j v W W2 hij hR
              have hR2 := Rs5_rl b j W W2 hR
              match i with
              | 0 => exact fun h => h
              | 1 => exact fun h => h
              | 2 => exact fun h => h
              | 3 => exact fun h => h
              | 4 => exact fun h => h
              | 5 => exact fun h => h
              | 6 => exact fun h => h
              | 7 => exact fun h => kSp.up h hR2 (by decide)
              | 8 => exact fun h => kSp.up h hR2 (by decide)
              | 9 => exact fun h => kTF.up h hR2 (by decide)
              | 10 => exact fun h => kTF.up h hR2 (by decide)
              | 11 => exact fun h => kNew.up h hR2
              | 12 => exact fun h => kNew.up h hR2
              | 13 => exact fun _ => trivial
              | i + 14 => exact fun _ => trivial
            case step =>
              refine grow.EachT.cons ?_ ?_
              · intro A W hB hs hJ K hK
                have s0 := hs 2 (by kernel_rfl)
                simp at s0
                rw [if_pos (by rfl)]
                clear hs hJ
                go_simp
                exact hK _ _ (Rs5_of (by decide) (Below.refl _ _)) rfl (fun h => absurd h (by decide)) (fun h => absurd h (by decide)) (fun h => absurd h (by decide))
              refine grow.EachT.cons ?_ ?_
              · intro A W hB hs hJ K hK
                have s0 : A.tmps.getD 28 undef = .pointer (some ⟨b, 0, none⟩) := hJ 0 28 (by kernel_rfl) (by kernel_rfl)
                simp at s0
                have kk := cell_of_one (hB.blk (by omega) HX.out.b0)
                rw [if_pos (by rfl)]
                clear hs hJ
                go_simp
                exact hK _ _ (Rs5_of (by decide) (Below.refl _ _)) rfl (fun h => absurd h (by decide)) (fun h => absurd h (by decide)) (fun h => absurd h (by decide))
              refine grow.EachT.cons ?_ ?_
              · intro A W hB hs hJ K hK
                have s0 := hs 2 (by kernel_rfl)
                simp at s0
                have kk := cell_of_one (hB.blk (by omega) HX.out.b0)
                rw [if_pos (by rfl)]
                clear hs hJ
                go_simp
                exact hK _ _ (Rs5_of (by decide) (Below.refl _ _)) rfl (fun h => absurd h (by decide)) (fun h => absurd h (by decide)) (fun h => absurd h (by decide))
              refine grow.EachT.cons ?_ ?_
              · intro A W hB hs hJ K hK
                have s0 := hs 3 (by kernel_rfl)
                simp at s0
                rw [if_pos (by rfl)]
                clear hs hJ
                go_simp
                exact hK _ _ (Rs5_of (by decide) (Below.refl _ _)) rfl (fun h => absurd h (by decide)) (fun h => absurd h (by decide)) (fun h => absurd h (by decide))
              refine grow.EachT.cons ?_ ?_
              · intro A W hB hs hJ K hK
                have s0 : A.tmps.getD 31 undef = .pointer (some ⟨b + 1, 0, none⟩) := hJ 3 31 (by kernel_rfl) (by kernel_rfl)
                simp at s0
                have kk := cell_of_one (hB.blk (by omega) HX.out.b1)
                rw [if_pos (by rfl)]
                clear hs hJ
                go_simp
                exact hK _ _ (Rs5_of (by decide) (Below.refl _ _)) rfl (fun h => absurd h (by decide)) (fun h => absurd h (by decide)) (fun h => absurd h (by decide))
              refine grow.EachT.cons ?_ ?_
              · intro A W hB hs hJ K hK
                have s0 : A.tmps.getD 32 undef = .agg #[.pointer po] := hJ 4 32 (by kernel_rfl) (by kernel_rfl)
                simp at s0
                rw [if_pos (by rfl)]
                clear hs hJ
                go_simp
                go_at_call 71
                refine (HA1.out W (hB.inn (by decide) HX.out.h1)).mono ?_
                rintro e W2 ⟨rfl, hbn⟩
                exact hK _ _ (Rs5_of (by decide) hbn) rfl (fun h => absurd h (by decide)) (fun h => absurd h (by decide)) (fun h => absurd h (by decide))
              refine grow.EachT.cons ?_ ?_
              · intro A W hB hs hJ K hK
                have s0 : A.tmps.getD 30 undef = .agg #[.pointer pp] := hJ 2 30 (by kernel_rfl) (by kernel_rfl)
                simp at s0
                have s1 : A.tmps.getD 33 undef = .int .i64 o0 := hJ 5 33 (by kernel_rfl) (by kernel_rfl)
                simp at s1
                rw [if_pos (by rfl)]
                clear hs hJ
                go_simp
                go_at_call 46
                refine (HF.out W (hB.inn (by decide) HX.out.h0)).mono ?_
                rintro e W2 ⟨rfl, hbn⟩
                exact hK _ _ (Rs5_of (by decide) hbn) rfl (fun h => absurd h (by decide)) (fun h => absurd h (by decide)) (fun h => absurd h (by decide))
              refine grow.EachT.cons ?_ ?_
              · intro A W hB hs hJ K hK
                have s0 : A.tmps.getD 29 undef = .agg #[.pointer pp] := hJ 1 29 (by kernel_rfl) (by kernel_rfl)
                simp at s0
                have s1 : A.tmps.getD 34 undef = .int .i64 (kq : Nat) := hJ 6 34 (by kernel_rfl) (by kernel_rfl)
                simp at s1
                rw [if_pos (by rfl)]
                clear hs hJ
                go_simp
                go_at_call 72
                refine (HSp.out W (hB.inn (by decide) HX.out.h0)).mono ?_
                rintro e W2 ⟨q1, r1, u1, s1, rfl, i1, i2, j1, j2, hbn⟩
                exact hK _ _ (Rs5_of (by decide) hbn) ⟨q1, r1, u1, s1, rfl, i1, i2, j1, j2⟩ (fun h => absurd h (by decide)) (fun h => absurd h (by decide)) (fun h => absurd h (by decide))
              refine grow.EachT.cons ?_ ?_
              · intro A W hB hs hJ K hK
                obtain ⟨q1, r1, u1, s1, s0, i1, i2, j1, j2⟩ := hJ 7 35 (by kernel_rfl) (by kernel_rfl)
                simp at s0
                rw [if_pos (by rfl)]
                clear hs hJ
                go_simp
                exact hK _ _ (Rs5_of (by decide) (Below.refl _ _)) ⟨q1, r1, u1, s1, rfl, i1, i2, j1, j2⟩ (fun h => absurd h (by decide)) (fun h => absurd h (by decide)) (fun h => absurd h (by decide))
              refine grow.EachT.cons ?_ ?_
              · intro A W hB hs hJ K hK
                obtain ⟨q1, r1, u1, s1, s0, i1, i2, j1, j2⟩ := hJ 8 27 (by kernel_rfl) (by kernel_rfl)
                simp at s0
                rw [if_pos (by rfl)]
                clear hs hJ
                go_simp
                exact hK _ _ (Rs5_of (by decide) (Below.refl _ _)) ⟨q1, u1, rfl, i1, j1⟩ (fun h => absurd h (by decide)) (fun h => absurd h (by decide)) (fun h => absurd h (by decide))
              refine grow.EachT.cons ?_ ?_
              · intro A W hB hs hJ K hK
                obtain ⟨q1, r1, u1, s1, s0, i1, i2, j1, j2⟩ := hJ 8 27 (by kernel_rfl) (by kernel_rfl)
                simp at s0
                rw [if_pos (by rfl)]
                clear hs hJ
                go_simp
                exact hK _ _ (Rs5_of (by decide) (Below.refl _ _)) ⟨r1, s1, rfl, i2, j2⟩ (fun h => absurd h (by decide)) (fun h => absurd h (by decide)) (fun h => absurd h (by decide))
              refine grow.EachT.cons ?_ ?_
              · intro A W hB hs hJ K hK
                rw [if_pos (by rfl)]
                clear hs hJ
                go_simp
                exact hK _ _ (Rs5_of (by decide) (belowAlloc _ _)) ⟨_, none, rfl, by have h1 := hB.size; have h2 := HX.out.hs; omega, heap_alloc_new _ _⟩ (fun _ u hu => (apart_new (show kNew (b + 4) u W from hu)).1) (fun h => absurd h (by decide)) (fun h => absurd h (by decide))
              refine grow.EachT.cons ?_ ?_
              · intro A W hB hs hJ K hK
                rw [if_pos (by rfl)]
                clear hs hJ
                go_simp
                exact hK _ _ (Rs5_of (by decide) (belowAlloc _ _)) ⟨_, none, rfl, by have h1 := hB.size; have h2 := HX.out.hs; omega, heap_alloc_new _ _⟩ (fun h => absurd h (by decide)) (fun _ u hu => (apart_new (show kNew (b + 4) u W from hu)).2) (fun h => absurd h (by decide))
              refine grow.EachT.cons ?_ ?_
              · intro A W hB hs hJ K hK
                obtain ⟨g, cg, s0, hg, hz⟩ := hJ 11 6 (by kernel_rfl) (by kernel_rfl)
                simp at s0
                obtain ⟨q1, u1, s1, i1, j1⟩ := hJ 9 36 (by kernel_rfl) (by kernel_rfl)
                simp at s1
                have hzz := hz
                have k0 := cell_of_one hz
                have f0 := free_of_one hz
                rw [if_pos (by rfl)]
                clear hs hJ
                go_simp
                exact hK undef _ (Rs5_st (Rl.set hzz hg)) trivial (fun h => absurd h (by decide)) (fun h => absurd h (by decide)) (fun _ d hd => by have e : some d = some 6 := hd.symm.trans (by kernel_rfl); cases e; exact ⟨g, q1, u1, by simpa using s0, hg, one_setCell hzz, i1, manyO.Holds.store1 j1 hzz (by decide)⟩)
              exact grow.EachT.nil
            case fin =>
              intro f W hB hF hP hL
              have f0 : f 0 = .pointer (some ⟨b, 0, none⟩) := hF 0 (by decide)
              have f1 : f 1 = .agg #[.pointer pp] := hF 1 (by decide)
              have f2 : f 2 = .agg #[.pointer pp] := hF 2 (by decide)
              have f3 : f 3 = .pointer (some ⟨b + 1, 0, none⟩) := hF 3 (by decide)
              have f4 : f 4 = .agg #[.pointer po] := hF 4 (by decide)
              have f5 : f 5 = .int .i64 o0 := hF 5 (by decide)
              have f6 : f 6 = .int .i64 (kq : Nat) := hF 6 (by decide)
              obtain ⟨q1_7, r1_7, u1_7, s1_7, f7, i1_7, i2_7, j1_7, j2_7⟩ := hF 7 (by decide)
              obtain ⟨q1_8, r1_8, u1_8, s1_8, f8, i1_8, i2_8, j1_8, j2_8⟩ := hF 8 (by decide)
              obtain ⟨q1_9, u1_9, f9, i1_9, j1_9⟩ := hF 9 (by decide)
              obtain ⟨q1_10, u1_10, f10, i1_10, j1_10⟩ := hF 10 (by decide)
              obtain ⟨g_11, cg_11, f11, hg_11, hz_11⟩ := hF 11 (by decide)
              obtain ⟨g_12, cg_12, f12, hg_12, hz_12⟩ := hF 12 (by decide)
              have hst13 := hF 13 (by decide)
              clear hF
              intro A hA
              simp only [grow.puts, Act.put, List.getElem?_toArray, List.getElem?_cons_zero, List.getElem?_cons_succ, Option.bind_some, List.setIfInBounds_toArray, List.set_cons_zero, List.set_cons_succ, f0, f1, f2, f3, f4, f5, f6, f7, f8, f9, f10, f11, f12] at hA
              subst hA
              simp only [List.drop_succ_cons, List.drop_zero]
              obtain ⟨ga, qa, ua, ea, hga, hza, ia, ja⟩ := hL (by decide)
              have hne : ga ≠ g_12 := hP (by decide) (by decide) _ _ ea f12
              obtain rfl : g_11 = ga := by
                have h := f11.symm.trans ea
                cases h
                rfl
              have hX := HX.out.rl hB (by decide)
              clear hP hL f0 f1 f2 f3 f4 f5 f6 f7 f8 f9 f10 f11 f12 hst13 ea
              obtain ⟨gb, hgb⟩ : ∃ g, g = g_12 := ⟨_, rfl⟩
              obtain ⟨ga, hga2⟩ : ∃ g, g = g_11 := ⟨_, rfl⟩
              rw [← hgb] at hg_12 hz_12 hne ⊢
              rw [← hga2] at hga hza hne ⊢
              obtain ⟨qb, hqb⟩ : ∃ q, q = q1_10 := ⟨_, rfl⟩
              obtain ⟨ub, hub⟩ : ∃ q, q = u1_10 := ⟨_, rfl⟩
              rw [← hqb, ← hub] at j1_10
              rw [← hub] at i1_10
              rw [← hqb]
              have r1 := cell_of_one hz_12
              have f1 := free_of_one hz_12
              obtain ⟨X, hX2⟩ : ∃ X, X = W.setCell ⟨gb, 0, none⟩ (.pointer qb) := ⟨_, rfl⟩
              have hM : MSt w b l N pp po pa tp to ta X := by rw [hX2]; exact hX.set gb (by omega) hz_12
              have HG : Hid (X.heap[ga]? = some (.cells #[.pointer qa] 40 (0, 0)) ∧ X.heap[gb]? = some (.cells #[.pointer qb] 40 (0, 0)) ∧ In 0 X qa ua ∧ In 0 X qb ub) := Lib.hid (by rw [hX2]; exact ⟨far hza (Ne.symm hne), one_setCell hz_12, manyO.Holds.store1 ja hz_12 (by decide), manyO.Holds.store1 j1_10 hz_12 (by decide)⟩)
              have hlo1 : b + 4 ≤ ga := hga
              have hlo2 : b + 4 ≤ gb := hg_12
              have HM := Lib.hid hM
              have HX2 := Lib.hid hX2
              have HI := Lib.hid (And.intro ia i1_10)
              clear hX hgb hga2 hqb hub j1_10 i1_10 j1_9 i1_9 hza ia ja hz_11 hz_12 hM hX2 hg_11 hg_12 hga i1_7 i2_7 j1_7 j2_7 i1_8 i2_8 j1_8 j2_8 hB HX HF HSp HA1
              go_wp2_with fail
              rw [← HX2.out]
              clear HX2 r1 f1 hne
              go_wp2_with fail
              refine grow.wp_grow_ini (Rl 42 (fun k => k = b + 3 ∨ k = b)) Rl.trans (fun u => .of (belowDrew u)) (Rs6 b) (Rs6_rl b) [] (fun _ W => W.heap[b + 3]? = some (.cells #[.pointer pa] 42 (0, 0))) (fun _ => 7) (fun r j W W2 hj hR h => (Rs6_not7 (Ne.symm hj) hR).blk (by omega) h) (fun _ => upb (belowDrew _) HM.out.b3) [grow.rEq (.pointer (some ⟨b + 3, 0, none⟩)), grow.rEq (.agg #[.pointer pa]), grow.rEq (.agg #[.pointer qa]), kTF (Is (ta.inorder ++ ua.inorder) (ta.size + ua.size)), kTF (Is (ta.inorder ++ ua.inorder) (ta.size + ua.size)), grow.rEq (.agg #[.pointer qb]), grow.rEq (.agg #[.pointer qb]), J7 b (ta.inorder ++ ua.inorder) (ta.size + ua.size), J8 b qb] (by kernel_rfl) (by kernel_rfl) (by kernel_rfl) (by kernel_rfl) ?mono ?step ?fin
              case mono =>
                intro i v W W2 ⟨j, hji, _, hR⟩
                have hR2 := Rs6_rl b j W W2 hR
                match i with
                | 0 => exact fun h => h
                | 1 => exact fun h => h
                | 2 => exact fun h => h
                | 3 => exact fun h => kTF.up h hR2 (by decide)
                | 4 => exact fun h => kTF.up h hR2 (by decide)
                | 5 => exact fun h => h
                | 6 => exact fun h => h
                | 7 => exact fun ⟨q1, u1, h3, i1, j1⟩ => ⟨q1, u1, (Rs6_not7 hji hR).blk (by omega) h3, i1, hR2.inn (by decide) j1⟩
                | 8 => exact fun h => (Rs6_not8 hji hR).blk (by omega) h
                | i + 9 => exact fun h => h
              case step =>
                refine grow.EachI.cons ?_ ?_
                · intro A W hB hs hJ hI K hK
                  have s0 := hs 5 (by kernel_rfl)
                  simp at s0
                  rw [if_pos (by rfl)]
                  clear hs hJ
                  go_simp
                  exact hK _ _ (Rs6_of (by decide) (by decide) (Below.refl _ _)) rfl
                refine grow.EachI.cons ?_ ?_
                · intro A W hB hs hJ hI K hK
                  have s0 : A.tmps.getD 38 undef = .pointer (some ⟨b + 3, 0, none⟩) := hJ 0 38 (by kernel_rfl) (by kernel_rfl)
                  simp at s0
                  have kk := cell_of_one (show W.heap[b + 3]? = some (.cells #[.pointer pa] 42 (0, 0)) from hI 0 1 (by kernel_rfl))
                  rw [if_pos (by rfl)]
                  clear hs hJ
                  go_simp
                  exact hK _ _ (Rs6_of (by decide) (by decide) (Below.refl _ _)) rfl
                refine grow.EachI.cons ?_ ?_
                · intro A W hB hs hJ hI K hK
                  have s0 := hs 6 (by kernel_rfl)
                  simp at s0
                  have kk := cell_of_one (hB.blk (by omega) HG.out.1)
                  rw [if_pos (by rfl)]
                  clear hs hJ
                  go_simp
                  exact hK _ _ (Rs6_of (by decide) (by decide) (Below.refl _ _)) rfl
                refine grow.EachI.cons ?_ ?_
                · intro A W hB hs hJ hI K hK
                  have s0 : A.tmps.getD 39 undef = .agg #[.pointer pa] := hJ 1 39 (by kernel_rfl) (by kernel_rfl)
                  simp at s0
                  have s1 : A.tmps.getD 40 undef = .agg #[.pointer qa] := hJ 2 40 (by kernel_rfl) (by kernel_rfl)
                  simp at s1
                  rw [if_pos (by rfl)]
                  clear hs hJ
                  go_simp
                  go_at_call 73
                  refine (manyO.Join_any' 0 W pa qa ta ua (Nat.zero_le _) (hB.inn (by decide) HM.out.h3) (hB.inn (by decide) HG.out.2.2.1) (by rw [HI.out.1.2]; omega)).mono ?_
                  rintro e W2 ⟨q2, u2, rfl, i2, j2, hbn⟩
                  exact hK _ _ (Rs6_of (by decide) (by decide) hbn) ⟨q2, u2, rfl, i2, j2⟩
                refine grow.EachI.cons ?_ ?_
                · intro A W hB hs hJ hI K hK
                  obtain ⟨q1, u1, s0, i1, j1⟩ := hJ 3 41 (by kernel_rfl) (by kernel_rfl)
                  simp at s0
                  rw [if_pos (by rfl)]
                  clear hs hJ
                  go_simp
                  exact hK _ _ (Rs6_of (by decide) (by decide) (Below.refl _ _)) ⟨q1, u1, rfl, i1, j1⟩
                refine grow.EachI.cons ?_ ?_
                · intro A W hB hs hJ hI K hK
                  have s0 := hs 7 (by kernel_rfl)
                  simp at s0
                  have kk := cell_of_one (hB.blk (by omega) HG.out.2.1)
                  rw [if_pos (by rfl)]
                  clear hs hJ
                  go_simp
                  exact hK _ _ (Rs6_of (by decide) (by decide) (Below.refl _ _)) rfl
                refine grow.EachI.cons ?_ ?_
                · intro A W hB hs hJ hI K hK
                  have s0 : A.tmps.getD 43 undef = .agg #[.pointer qb] := hJ 5 43 (by kernel_rfl) (by kernel_rfl)
                  simp at s0
                  rw [if_pos (by rfl)]
                  clear hs hJ
                  go_simp
                  exact hK _ _ (Rs6_of (by decide) (by decide) (Below.refl _ _)) rfl
                refine grow.EachI.cons ?_ ?_
                · intro A W hB hs hJ hI K hK
                  have s0 := hs 5 (by kernel_rfl)
                  simp at s0
                  obtain ⟨q1, u1, s1, i1, j1⟩ := hJ 4 42 (by kernel_rfl) (by kernel_rfl)
                  simp at s1
                  have hz : W.heap[b + 3]? = some (.cells #[.pointer pa] 42 (0, 0)) := hI 0 0 (by kernel_rfl)
                  have k0 := cell_of_one hz
                  have f0 := free_of_one hz
                  rw [if_pos (by rfl)]
                  clear hs hJ
                  go_simp
                  exact hK undef _ (Rs6_7 (Rl.set hz rfl)) ⟨q1, u1, one_setCell hz, i1, manyO.Holds.store1 j1 hz (by decide)⟩
                refine grow.EachI.cons ?_ ?_
                · intro A W hB hs hJ hI K hK
                  have s0 := hs 2 (by kernel_rfl)
                  simp at s0
                  have s1 : A.tmps.getD 44 undef = .agg #[.pointer qb] := hJ 6 44 (by kernel_rfl) (by kernel_rfl)
                  simp at s1
                  obtain ⟨c0, hz⟩ := hB.one b _ HM.out.b0
                  have k0 := cell_of_one hz
                  have f0 := free_of_one hz
                  rw [if_pos (by rfl)]
                  clear hs hJ
                  go_simp
                  exact hK undef _ (Rs6_8 (Rl.set hz rfl)) (one_setCell hz)
                exact grow.EachI.nil
              case fin =>
                intro f W hB hF
                have f0 : f 0 = .pointer (some ⟨b + 3, 0, none⟩) := hF 0 (by decide) rfl
                have f1 : f 1 = .agg #[.pointer pa] := hF 1 (by decide) rfl
                have f2 : f 2 = .agg #[.pointer qa] := hF 2 (by decide) rfl
                obtain ⟨q1_3, u1_3, f3, i1_3, j1_3⟩ := hF 3 (by decide) rfl
                obtain ⟨q1_4, u1_4, f4, i1_4, j1_4⟩ := hF 4 (by decide) rfl
                have f5 : f 5 = .agg #[.pointer qb] := hF 5 (by decide) rfl
                have f6 : f 6 = .agg #[.pointer qb] := hF 6 (by decide) rfl
                have hst7 := hF 7 (by decide) rfl
                have hst8 := hF 8 (by decide) rfl
                clear hF
                intro A hA
                simp only [List.length_cons, List.length_nil, Nat.reduceAdd, grow.puts, Act.put, List.getElem?_toArray, List.getElem?_cons_zero, List.getElem?_cons_succ, Option.bind_some, List.setIfInBounds_toArray, List.set_cons_zero, List.set_cons_succ, f0, f1, f2, f3, f4, f5, f6] at hA
                subst hA
                obtain ⟨qc, uc, h3, ic, jc⟩ := hst7
                have hM2 : MSt w b l N qb po qc ub to uc W := by
                  refine HM.out.next2 hB h3 hst8 jc (hB.inn (by decide) HG.out.2.2.2) ?_ ?_
                  · rw [ic.1, HI.out.1.1, HI.out.2.1]
                    exact HMI.out
                  · have h2 := HM.out.sz
                    rw [ic.2, HI.out.1.2, HI.out.2.2]
                    omega
                have HM2 := Lib.hid hM2
                have hzb : ub.size = M := HI.out.2.2
                clear h3 ic jc hst8 i1_3 j1_3 i1_4 j1_4 hM2 hB HM HG HI f0 f1 f2 f3 f4 f5 f6
                go_wp2_with fail
                go_roundg (M + to.size)
                case measure => omega
                case rel => exact ⟨qb, po, qc, ub, to, uc, by omega, HM2⟩
          · have hd : decide (p0 < o0) = false := by simpa using hlt
            obtain ⟨wx, hwx⟩ : ∃ wx, wx = W := ⟨_, rfl⟩
            have HX : Hid (MSt w b l N po pp pa to tp ta wx) := Lib.hid (by rw [hwx]; exact HSc.out)
            have HQ : Hid (to.inorder = o0 :: ot ∧ tp.inorder = p0 :: pt ∧ o0 ≤ p0) := Lib.hid ⟨HH.out.1, HH.out.2, by omega⟩
            rw [← hwx]
            clear hwx HSc HH
            go_wp2_with fail
            obtain ⟨kq, hkq⟩ : ∃ kq, kq = upto p0 to.inorder := ⟨_, rfl⟩
            have hkq1 : 0 < kq := by rw [hkq, HQ.out.1]; exact upto_pos HQ.out.2.2
            have hkq2 : kq ≤ to.size := by rw [hkq, ← BT.length_inorder]; exact upto_le _ _
            obtain ⟨M, hM⟩ : ∃ M, M = to.size - kq := ⟨_, rfl⟩
            have hsz := HX.out.sz
            have HMI : Hid (MI l (ta.inorder ++ to.inorder.take kq) (to.inorder.drop kq) tp.inorder) := Lib.hid (by rw [hkq]; exact HX.out.mi.step HQ.out.2.1)
            have hff := find_none p0 to HX.out.mi.ro
            rw [← hkq] at hff
            have HA1 := Lib.hid (fun W (hW : In 0 W pp tp) => manyO.At_any 0 W pp tp 0 p0 (Nat.zero_le _) hW (by rw [HQ.out.2.1]; rfl) (by omega))
            have HF := Lib.hid (fun W (hW : In 0 W po to) => behind_any 0 W po to p0 (Nat.zero_le _) hW (by omega))
            rw [hff] at HF
            have HSp := Lib.hid (fun W (hW : In 0 W po to) => manyO.Split_any 0 W po to (kq : Nat) (Nat.zero_le _) hW (by omega) (by omega) (by omega))
            simp only [Int.toNat_natCast, ← hM] at HSp
            clear hff hkq
            go_wp2_with fail
            refine grow.wp_grow_taill 14 (Rl 40 (fun k => b + 4 ≤ k)) Rl.trans (Rs5 b) (Rs5_rl b) (fun u => .of (belowDrew u)) 11 12 Apart2 (by decide) 13 11 (Lk5 b to.inorder kq) (fun j v W W2 hj hR h => h.up (Rs5_below hj hR)) (grow.dep_of (by kernel_rfl)) (fun _ => by decide) (fun _ => ⟨6, by kernel_rfl⟩) [grow.rEq (.pointer (some ⟨b, 0, none⟩)), grow.rEq (.agg #[.pointer po]), grow.rEq (.agg #[.pointer po]), grow.rEq (.pointer (some ⟨b + 1, 0, none⟩)), grow.rEq (.agg #[.pointer pp]), grow.rEq (.int .i64 p0), grow.rEq (.int .i64 (kq : Nat)), kSp to.inorder kq M, kSp to.inorder kq M, kTF (Is (to.inorder.take kq) kq), kTF (Is (to.inorder.drop kq) M), kNew (b + 4), kNew (b + 4), grow.rAny] (of_decide_eq_true (by kernel_rfl)) (by kernel_rfl) (by kernel_rfl) (by kernel_rfl) (by kernel_rfl) (by kernel_rfl) ?mono ?step ?fin
            case mono =>
              intro i j v W W2 hij hR
              have hR2 := Rs5_rl b j W W2 hR
              match i with
              | 0 => exact fun h => h
              | 1 => exact fun h => h
              | 2 => exact fun h => h
              | 3 => exact fun h => h
              | 4 => exact fun h => h
              | 5 => exact fun h => h
              | 6 => exact fun h => h
              | 7 => exact fun h => kSp.up h hR2 (by decide)
              | 8 => exact fun h => kSp.up h hR2 (by decide)
              | 9 => exact fun h => kTF.up h hR2 (by decide)
              | 10 => exact fun h => kTF.up h hR2 (by decide)
              | 11 => exact fun h => kNew.up h hR2
              | 12 => exact fun h => kNew.up h hR2
              | 13 => exact fun _ => trivial
              | i + 14 => exact fun _ => trivial
            case step =>
              refine grow.EachT.cons ?_ ?_
              · intro A W hB hs hJ K hK
                have s0 := hs 2 (by kernel_rfl)
                simp at s0
                rw [if_pos (by rfl)]
                clear hs hJ
                go_simp
                exact hK _ _ (Rs5_of (by decide) (Below.refl _ _)) rfl (fun h => absurd h (by decide)) (fun h => absurd h (by decide)) (fun h => absurd h (by decide))
              refine grow.EachT.cons ?_ ?_
              · intro A W hB hs hJ K hK
                have s0 : A.tmps.getD 28 undef = .pointer (some ⟨b, 0, none⟩) := hJ 0 28 (by kernel_rfl) (by kernel_rfl)
                simp at s0
                have kk := cell_of_one (hB.blk (by omega) HX.out.b0)
                rw [if_pos (by rfl)]
                clear hs hJ
                go_simp
                exact hK _ _ (Rs5_of (by decide) (Below.refl _ _)) rfl (fun h => absurd h (by decide)) (fun h => absurd h (by decide)) (fun h => absurd h (by decide))
              refine grow.EachT.cons ?_ ?_
              · intro A W hB hs hJ K hK
                have s0 := hs 2 (by kernel_rfl)
                simp at s0
                have kk := cell_of_one (hB.blk (by omega) HX.out.b0)
                rw [if_pos (by rfl)]
                clear hs hJ
                go_simp
                exact hK _ _ (Rs5_of (by decide) (Below.refl _ _)) rfl (fun h => absurd h (by decide)) (fun h => absurd h (by decide)) (fun h => absurd h (by decide))
              refine grow.EachT.cons ?_ ?_
              · intro A W hB hs hJ K hK
                have s0 := hs 3 (by kernel_rfl)
                simp at s0
                rw [if_pos (by rfl)]
                clear hs hJ
                go_simp
                exact hK _ _ (Rs5_of (by decide) (Below.refl _ _)) rfl (fun h => absurd h (by decide)) (fun h => absurd h (by decide)) (fun h => absurd h (by decide))
              refine grow.EachT.cons ?_ ?_
              · intro A W hB hs hJ K hK
                have s0 : A.tmps.getD 31 undef = .pointer (some ⟨b + 1, 0, none⟩) := hJ 3 31 (by kernel_rfl) (by kernel_rfl)
                simp at s0
                have kk := cell_of_one (hB.blk (by omega) HX.out.b1)
                rw [if_pos (by rfl)]
                clear hs hJ
                go_simp
                exact hK _ _ (Rs5_of (by decide) (Below.refl _ _)) rfl (fun h => absurd h (by decide)) (fun h => absurd h (by decide)) (fun h => absurd h (by decide))
              refine grow.EachT.cons ?_ ?_
              · intro A W hB hs hJ K hK
                have s0 : A.tmps.getD 32 undef = .agg #[.pointer pp] := hJ 4 32 (by kernel_rfl) (by kernel_rfl)
                simp at s0
                rw [if_pos (by rfl)]
                clear hs hJ
                go_simp
                go_at_call 71
                refine (HA1.out W (hB.inn (by decide) HX.out.h1)).mono ?_
                rintro e W2 ⟨rfl, hbn⟩
                exact hK _ _ (Rs5_of (by decide) hbn) rfl (fun h => absurd h (by decide)) (fun h => absurd h (by decide)) (fun h => absurd h (by decide))
              refine grow.EachT.cons ?_ ?_
              · intro A W hB hs hJ K hK
                have s0 : A.tmps.getD 30 undef = .agg #[.pointer po] := hJ 2 30 (by kernel_rfl) (by kernel_rfl)
                simp at s0
                have s1 : A.tmps.getD 33 undef = .int .i64 p0 := hJ 5 33 (by kernel_rfl) (by kernel_rfl)
                simp at s1
                rw [if_pos (by rfl)]
                clear hs hJ
                go_simp
                go_at_call 46
                refine (HF.out W (hB.inn (by decide) HX.out.h0)).mono ?_
                rintro e W2 ⟨rfl, hbn⟩
                exact hK _ _ (Rs5_of (by decide) hbn) rfl (fun h => absurd h (by decide)) (fun h => absurd h (by decide)) (fun h => absurd h (by decide))
              refine grow.EachT.cons ?_ ?_
              · intro A W hB hs hJ K hK
                have s0 : A.tmps.getD 29 undef = .agg #[.pointer po] := hJ 1 29 (by kernel_rfl) (by kernel_rfl)
                simp at s0
                have s1 : A.tmps.getD 34 undef = .int .i64 (kq : Nat) := hJ 6 34 (by kernel_rfl) (by kernel_rfl)
                simp at s1
                rw [if_pos (by rfl)]
                clear hs hJ
                go_simp
                go_at_call 72
                refine (HSp.out W (hB.inn (by decide) HX.out.h0)).mono ?_
                rintro e W2 ⟨q1, r1, u1, s1, rfl, i1, i2, j1, j2, hbn⟩
                exact hK _ _ (Rs5_of (by decide) hbn) ⟨q1, r1, u1, s1, rfl, i1, i2, j1, j2⟩ (fun h => absurd h (by decide)) (fun h => absurd h (by decide)) (fun h => absurd h (by decide))
              refine grow.EachT.cons ?_ ?_
              · intro A W hB hs hJ K hK
                obtain ⟨q1, r1, u1, s1, s0, i1, i2, j1, j2⟩ := hJ 7 35 (by kernel_rfl) (by kernel_rfl)
                simp at s0
                rw [if_pos (by rfl)]
                clear hs hJ
                go_simp
                exact hK _ _ (Rs5_of (by decide) (Below.refl _ _)) ⟨q1, r1, u1, s1, rfl, i1, i2, j1, j2⟩ (fun h => absurd h (by decide)) (fun h => absurd h (by decide)) (fun h => absurd h (by decide))
              refine grow.EachT.cons ?_ ?_
              · intro A W hB hs hJ K hK
                obtain ⟨q1, r1, u1, s1, s0, i1, i2, j1, j2⟩ := hJ 8 27 (by kernel_rfl) (by kernel_rfl)
                simp at s0
                rw [if_pos (by rfl)]
                clear hs hJ
                go_simp
                exact hK _ _ (Rs5_of (by decide) (Below.refl _ _)) ⟨q1, u1, rfl, i1, j1⟩ (fun h => absurd h (by decide)) (fun h => absurd h (by decide)) (fun h => absurd h (by decide))
              refine grow.EachT.cons ?_ ?_
              · intro A W hB hs hJ K hK
                obtain ⟨q1, r1, u1, s1, s0, i1, i2, j1, j2⟩ := hJ 8 27 (by kernel_rfl) (by kernel_rfl)
                simp at s0
                rw [if_pos (by rfl)]
                clear hs hJ
                go_simp
                exact hK _ _ (Rs5_of (by decide) (Below.refl _ _)) ⟨r1, s1, rfl, i2, j2⟩ (fun h => absurd h (by decide)) (fun h => absurd h (by decide)) (fun h => absurd h (by decide))
              refine grow.EachT.cons ?_ ?_
              · intro A W hB hs hJ K hK
                rw [if_pos (by rfl)]
                clear hs hJ
                go_simp
                exact hK _ _ (Rs5_of (by decide) (belowAlloc _ _)) ⟨_, none, rfl, by have h1 := hB.size; have h2 := HX.out.hs; omega, heap_alloc_new _ _⟩ (fun _ u hu => (apart_new (show kNew (b + 4) u W from hu)).1) (fun h => absurd h (by decide)) (fun h => absurd h (by decide))
              refine grow.EachT.cons ?_ ?_
              · intro A W hB hs hJ K hK
                rw [if_pos (by rfl)]
                clear hs hJ
                go_simp
                exact hK _ _ (Rs5_of (by decide) (belowAlloc _ _)) ⟨_, none, rfl, by have h1 := hB.size; have h2 := HX.out.hs; omega, heap_alloc_new _ _⟩ (fun h => absurd h (by decide)) (fun _ u hu => (apart_new (show kNew (b + 4) u W from hu)).2) (fun h => absurd h (by decide))
              refine grow.EachT.cons ?_ ?_
              · intro A W hB hs hJ K hK
                obtain ⟨g, cg, s0, hg, hz⟩ := hJ 11 6 (by kernel_rfl) (by kernel_rfl)
                simp at s0
                obtain ⟨q1, u1, s1, i1, j1⟩ := hJ 9 36 (by kernel_rfl) (by kernel_rfl)
                simp at s1
                have hzz := hz
                have k0 := cell_of_one hz
                have f0 := free_of_one hz
                rw [if_pos (by rfl)]
                clear hs hJ
                go_simp
                exact hK undef _ (Rs5_st (Rl.set hzz hg)) trivial (fun h => absurd h (by decide)) (fun h => absurd h (by decide)) (fun _ d hd => by have e : some d = some 6 := hd.symm.trans (by kernel_rfl); cases e; exact ⟨g, q1, u1, by simpa using s0, hg, one_setCell hzz, i1, manyO.Holds.store1 j1 hzz (by decide)⟩)
              exact grow.EachT.nil
            case fin =>
              intro f W hB hF hP hL
              have f0 : f 0 = .pointer (some ⟨b, 0, none⟩) := hF 0 (by decide)
              have f1 : f 1 = .agg #[.pointer po] := hF 1 (by decide)
              have f2 : f 2 = .agg #[.pointer po] := hF 2 (by decide)
              have f3 : f 3 = .pointer (some ⟨b + 1, 0, none⟩) := hF 3 (by decide)
              have f4 : f 4 = .agg #[.pointer pp] := hF 4 (by decide)
              have f5 : f 5 = .int .i64 p0 := hF 5 (by decide)
              have f6 : f 6 = .int .i64 (kq : Nat) := hF 6 (by decide)
              obtain ⟨q1_7, r1_7, u1_7, s1_7, f7, i1_7, i2_7, j1_7, j2_7⟩ := hF 7 (by decide)
              obtain ⟨q1_8, r1_8, u1_8, s1_8, f8, i1_8, i2_8, j1_8, j2_8⟩ := hF 8 (by decide)
              obtain ⟨q1_9, u1_9, f9, i1_9, j1_9⟩ := hF 9 (by decide)
              obtain ⟨q1_10, u1_10, f10, i1_10, j1_10⟩ := hF 10 (by decide)
              obtain ⟨g_11, cg_11, f11, hg_11, hz_11⟩ := hF 11 (by decide)
              obtain ⟨g_12, cg_12, f12, hg_12, hz_12⟩ := hF 12 (by decide)
              have hst13 := hF 13 (by decide)
              clear hF
              intro A hA
              simp only [grow.puts, Act.put, List.getElem?_toArray, List.getElem?_cons_zero, List.getElem?_cons_succ, Option.bind_some, List.setIfInBounds_toArray, List.set_cons_zero, List.set_cons_succ, f0, f1, f2, f3, f4, f5, f6, f7, f8, f9, f10, f11, f12] at hA
              subst hA
              simp only [List.drop_succ_cons, List.drop_zero]
              obtain ⟨ga, qa, ua, ea, hga, hza, ia, ja⟩ := hL (by decide)
              have hne : ga ≠ g_12 := hP (by decide) (by decide) _ _ ea f12
              obtain rfl : g_11 = ga := by
                have h := f11.symm.trans ea
                cases h
                rfl
              have hX := HX.out.rl hB (by decide)
              clear hP hL f0 f1 f2 f3 f4 f5 f6 f7 f8 f9 f10 f11 f12 hst13 ea
              obtain ⟨gb, hgb⟩ : ∃ g, g = g_12 := ⟨_, rfl⟩
              obtain ⟨ga, hga2⟩ : ∃ g, g = g_11 := ⟨_, rfl⟩
              rw [← hgb] at hg_12 hz_12 hne ⊢
              rw [← hga2] at hga hza hne ⊢
              obtain ⟨qb, hqb⟩ : ∃ q, q = q1_10 := ⟨_, rfl⟩
              obtain ⟨ub, hub⟩ : ∃ q, q = u1_10 := ⟨_, rfl⟩
              rw [← hqb, ← hub] at j1_10
              rw [← hub] at i1_10
              rw [← hqb]
              have r1 := cell_of_one hz_12
              have f1 := free_of_one hz_12
              obtain ⟨X, hX2⟩ : ∃ X, X = W.setCell ⟨gb, 0, none⟩ (.pointer qb) := ⟨_, rfl⟩
              have hM : MSt w b l N po pp pa to tp ta X := by rw [hX2]; exact hX.set gb (by omega) hz_12
              have HG : Hid (X.heap[ga]? = some (.cells #[.pointer qa] 40 (0, 0)) ∧ X.heap[gb]? = some (.cells #[.pointer qb] 40 (0, 0)) ∧ In 0 X qa ua ∧ In 0 X qb ub) := Lib.hid (by rw [hX2]; exact ⟨far hza (Ne.symm hne), one_setCell hz_12, manyO.Holds.store1 ja hz_12 (by decide), manyO.Holds.store1 j1_10 hz_12 (by decide)⟩)
              have hlo1 : b + 4 ≤ ga := hga
              have hlo2 : b + 4 ≤ gb := hg_12
              have HM := Lib.hid hM
              have HX2 := Lib.hid hX2
              have HI := Lib.hid (And.intro ia i1_10)
              clear hX hgb hga2 hqb hub j1_10 i1_10 j1_9 i1_9 hza ia ja hz_11 hz_12 hM hX2 hg_11 hg_12 hga i1_7 i2_7 j1_7 j2_7 i1_8 i2_8 j1_8 j2_8 hB HX HF HSp HA1
              go_wp2_with fail
              rw [← HX2.out]
              clear HX2 r1 f1 hne
              go_wp2_with fail
              refine grow.wp_grow_ini (Rl 42 (fun k => k = b + 3 ∨ k = b)) Rl.trans (fun u => .of (belowDrew u)) (Rs6 b) (Rs6_rl b) [] (fun _ W => W.heap[b + 3]? = some (.cells #[.pointer pa] 42 (0, 0))) (fun _ => 7) (fun r j W W2 hj hR h => (Rs6_not7 (Ne.symm hj) hR).blk (by omega) h) (fun _ => upb (belowDrew _) HM.out.b3) [grow.rEq (.pointer (some ⟨b + 3, 0, none⟩)), grow.rEq (.agg #[.pointer pa]), grow.rEq (.agg #[.pointer qa]), kTF (Is (ta.inorder ++ ua.inorder) (ta.size + ua.size)), kTF (Is (ta.inorder ++ ua.inorder) (ta.size + ua.size)), grow.rEq (.agg #[.pointer qb]), grow.rEq (.agg #[.pointer qb]), J7 b (ta.inorder ++ ua.inorder) (ta.size + ua.size), J8 b qb] (by kernel_rfl) (by kernel_rfl) (by kernel_rfl) (by kernel_rfl) ?mono ?step ?fin
              case mono =>
                intro i v W W2 ⟨j, hji, _, hR⟩
                have hR2 := Rs6_rl b j W W2 hR
                match i with
                | 0 => exact fun h => h
                | 1 => exact fun h => h
                | 2 => exact fun h => h
                | 3 => exact fun h => kTF.up h hR2 (by decide)
                | 4 => exact fun h => kTF.up h hR2 (by decide)
                | 5 => exact fun h => h
                | 6 => exact fun h => h
                | 7 => exact fun ⟨q1, u1, h3, i1, j1⟩ => ⟨q1, u1, (Rs6_not7 hji hR).blk (by omega) h3, i1, hR2.inn (by decide) j1⟩
                | 8 => exact fun h => (Rs6_not8 hji hR).blk (by omega) h
                | i + 9 => exact fun h => h
              case step =>
                refine grow.EachI.cons ?_ ?_
                · intro A W hB hs hJ hI K hK
                  have s0 := hs 5 (by kernel_rfl)
                  simp at s0
                  rw [if_pos (by rfl)]
                  clear hs hJ
                  go_simp
                  exact hK _ _ (Rs6_of (by decide) (by decide) (Below.refl _ _)) rfl
                refine grow.EachI.cons ?_ ?_
                · intro A W hB hs hJ hI K hK
                  have s0 : A.tmps.getD 38 undef = .pointer (some ⟨b + 3, 0, none⟩) := hJ 0 38 (by kernel_rfl) (by kernel_rfl)
                  simp at s0
                  have kk := cell_of_one (show W.heap[b + 3]? = some (.cells #[.pointer pa] 42 (0, 0)) from hI 0 1 (by kernel_rfl))
                  rw [if_pos (by rfl)]
                  clear hs hJ
                  go_simp
                  exact hK _ _ (Rs6_of (by decide) (by decide) (Below.refl _ _)) rfl
                refine grow.EachI.cons ?_ ?_
                · intro A W hB hs hJ hI K hK
                  have s0 := hs 6 (by kernel_rfl)
                  simp at s0
                  have kk := cell_of_one (hB.blk (by omega) HG.out.1)
                  rw [if_pos (by rfl)]
                  clear hs hJ
                  go_simp
                  exact hK _ _ (Rs6_of (by decide) (by decide) (Below.refl _ _)) rfl
                refine grow.EachI.cons ?_ ?_
                · intro A W hB hs hJ hI K hK
                  have s0 : A.tmps.getD 39 undef = .agg #[.pointer pa] := hJ 1 39 (by kernel_rfl) (by kernel_rfl)
                  simp at s0
                  have s1 : A.tmps.getD 40 undef = .agg #[.pointer qa] := hJ 2 40 (by kernel_rfl) (by kernel_rfl)
                  simp at s1
                  rw [if_pos (by rfl)]
                  clear hs hJ
                  go_simp
                  go_at_call 73
                  refine (manyO.Join_any' 0 W pa qa ta ua (Nat.zero_le _) (hB.inn (by decide) HM.out.h3) (hB.inn (by decide) HG.out.2.2.1) (by rw [HI.out.1.2]; omega)).mono ?_
                  rintro e W2 ⟨q2, u2, rfl, i2, j2, hbn⟩
                  exact hK _ _ (Rs6_of (by decide) (by decide) hbn) ⟨q2, u2, rfl, i2, j2⟩
                refine grow.EachI.cons ?_ ?_
                · intro A W hB hs hJ hI K hK
                  obtain ⟨q1, u1, s0, i1, j1⟩ := hJ 3 41 (by kernel_rfl) (by kernel_rfl)
                  simp at s0
                  rw [if_pos (by rfl)]
                  clear hs hJ
                  go_simp
                  exact hK _ _ (Rs6_of (by decide) (by decide) (Below.refl _ _)) ⟨q1, u1, rfl, i1, j1⟩
                refine grow.EachI.cons ?_ ?_
                · intro A W hB hs hJ hI K hK
                  have s0 := hs 7 (by kernel_rfl)
                  simp at s0
                  have kk := cell_of_one (hB.blk (by omega) HG.out.2.1)
                  rw [if_pos (by rfl)]
                  clear hs hJ
                  go_simp
                  exact hK _ _ (Rs6_of (by decide) (by decide) (Below.refl _ _)) rfl
                refine grow.EachI.cons ?_ ?_
                · intro A W hB hs hJ hI K hK
                  have s0 : A.tmps.getD 43 undef = .agg #[.pointer qb] := hJ 5 43 (by kernel_rfl) (by kernel_rfl)
                  simp at s0
                  rw [if_pos (by rfl)]
                  clear hs hJ
                  go_simp
                  exact hK _ _ (Rs6_of (by decide) (by decide) (Below.refl _ _)) rfl
                refine grow.EachI.cons ?_ ?_
                · intro A W hB hs hJ hI K hK
                  have s0 := hs 5 (by kernel_rfl)
                  simp at s0
                  obtain ⟨q1, u1, s1, i1, j1⟩ := hJ 4 42 (by kernel_rfl) (by kernel_rfl)
                  simp at s1
                  have hz : W.heap[b + 3]? = some (.cells #[.pointer pa] 42 (0, 0)) := hI 0 0 (by kernel_rfl)
                  have k0 := cell_of_one hz
                  have f0 := free_of_one hz
                  rw [if_pos (by rfl)]
                  clear hs hJ
                  go_simp
                  exact hK undef _ (Rs6_7 (Rl.set hz rfl)) ⟨q1, u1, one_setCell hz, i1, manyO.Holds.store1 j1 hz (by decide)⟩
                refine grow.EachI.cons ?_ ?_
                · intro A W hB hs hJ hI K hK
                  have s0 := hs 2 (by kernel_rfl)
                  simp at s0
                  have s1 : A.tmps.getD 44 undef = .agg #[.pointer qb] := hJ 6 44 (by kernel_rfl) (by kernel_rfl)
                  simp at s1
                  obtain ⟨c0, hz⟩ := hB.one b _ HM.out.b0
                  have k0 := cell_of_one hz
                  have f0 := free_of_one hz
                  rw [if_pos (by rfl)]
                  clear hs hJ
                  go_simp
                  exact hK undef _ (Rs6_8 (Rl.set hz rfl)) (one_setCell hz)
                exact grow.EachI.nil
              case fin =>
                intro f W hB hF
                have f0 : f 0 = .pointer (some ⟨b + 3, 0, none⟩) := hF 0 (by decide) rfl
                have f1 : f 1 = .agg #[.pointer pa] := hF 1 (by decide) rfl
                have f2 : f 2 = .agg #[.pointer qa] := hF 2 (by decide) rfl
                obtain ⟨q1_3, u1_3, f3, i1_3, j1_3⟩ := hF 3 (by decide) rfl
                obtain ⟨q1_4, u1_4, f4, i1_4, j1_4⟩ := hF 4 (by decide) rfl
                have f5 : f 5 = .agg #[.pointer qb] := hF 5 (by decide) rfl
                have f6 : f 6 = .agg #[.pointer qb] := hF 6 (by decide) rfl
                have hst7 := hF 7 (by decide) rfl
                have hst8 := hF 8 (by decide) rfl
                clear hF
                intro A hA
                simp only [List.length_cons, List.length_nil, Nat.reduceAdd, grow.puts, Act.put, List.getElem?_toArray, List.getElem?_cons_zero, List.getElem?_cons_succ, Option.bind_some, List.setIfInBounds_toArray, List.set_cons_zero, List.set_cons_succ, f0, f1, f2, f3, f4, f5, f6] at hA
                subst hA
                obtain ⟨qc, uc, h3, ic, jc⟩ := hst7
                have hM2 : MSt w b l N qb pp qc ub tp uc W := by
                  refine HM.out.next2 hB h3 hst8 jc (hB.inn (by decide) HG.out.2.2.2) ?_ ?_
                  · rw [ic.1, HI.out.1.1, HI.out.2.1]
                    exact HMI.out
                  · have h2 := HM.out.sz
                    rw [ic.2, HI.out.1.2, HI.out.2.2]
                    omega
                have HM2 := Lib.hid hM2
                have hzb : ub.size = M := HI.out.2.2
                clear h3 ic jc hst8 i1_3 j1_3 i1_4 j1_4 hM2 hB HM HG HI f0 f1 f2 f3 f4 f5 f6
                go_wp2_with fail
                go_roundg (M + tp.size)
                case measure => omega
                case rel => exact ⟨qb, pp, qc, ub, tp, uc, by omega, HM2⟩
      · have c2 : decide ((0 : Int) < ((tp.size : Nat) : Int)) = false := by simp; omega
        go_wp2_with fail
        refine HL2.out.mono ?_
        rintro e wb ⟨rfl, hbb⟩
        have HE := Lib.hid (HSa.out.up hbb)
        have HEnd : Hid (to.inorder = [] ∨ tp.inorder = []) := Lib.hid (.inr (List.eq_nil_of_length_eq_zero (by rw [BT.length_inorder]; omega)))
        clear hbb HSa HL2 k1a
        have c0 := cell_of_one HE.out.b0
        have c1 := cell_of_one HE.out.b1
        have c3 := cell_of_one HE.out.b3
        go_wp2_with fail
        refine grow.wp_grow_tail 9 [grow.kEq (.pointer (some ⟨b + 3, 0, none⟩)), grow.kEq (.agg #[.pointer pa]), grow.kEq (.pointer (some ⟨b, 0, none⟩)), grow.kEq (.agg #[.pointer po]), kTM 0 (Is (ta.inorder ++ to.inorder) (ta.size + to.size)), grow.kEq (.pointer (some ⟨b + 1, 0, none⟩)), grow.kEq (.agg #[.pointer pp]), kTM 0 (Is (ta.inorder ++ to.inorder ++ tp.inorder) (ta.size + to.size + tp.size)), kTM 0 (Is (ta.inorder ++ to.inorder ++ tp.inorder) (ta.size + to.size + tp.size))] (of_decide_eq_true (by kernel_rfl)) (by kernel_rfl) (by kernel_rfl) (by kernel_rfl) (by kernel_rfl) (by kernel_rfl) ?step ?fin
        case step =>
          refine grow.EachT.cons ?_ ?_
          · intro A W hB hs hJ K hK
            have s0 := hs 5 (by kernel_rfl)
            simp at s0
            rw [if_pos (by rfl)]
            clear hs hJ
            go_simp
            exact hK _ _ (Below.refl _ _) rfl
          refine grow.EachT.cons ?_ ?_
          · intro A W hB hs hJ K hK
            have s0 : A.tmps.getD 45 undef = .pointer (some ⟨b + 3, 0, none⟩) := hJ 0 45 (by kernel_rfl) (by kernel_rfl)
            simp at s0
            have kk := upc hB c3
            rw [if_pos (by rfl)]
            clear hs hJ
            go_simp
            exact hK _ _ (Below.refl _ _) rfl
          refine grow.EachT.cons ?_ ?_
          · intro A W hB hs hJ K hK
            have s0 := hs 2 (by kernel_rfl)
            simp at s0
            rw [if_pos (by rfl)]
            clear hs hJ
            go_simp
            exact hK _ _ (Below.refl _ _) rfl
          refine grow.EachT.cons ?_ ?_
          · intro A W hB hs hJ K hK
            have s0 : A.tmps.getD 47 undef = .pointer (some ⟨b, 0, none⟩) := hJ 2 47 (by kernel_rfl) (by kernel_rfl)
            simp at s0
            have kk := upc hB c0
            rw [if_pos (by rfl)]
            clear hs hJ
            go_simp
            exact hK _ _ (Below.refl _ _) rfl
          refine grow.EachT.cons ?_ ?_
          · intro A W hB hs hJ K hK
            have s0 : A.tmps.getD 46 undef = .agg #[.pointer pa] := hJ 1 46 (by kernel_rfl) (by kernel_rfl)
            simp at s0
            have s1 : A.tmps.getD 48 undef = .agg #[.pointer po] := hJ 3 48 (by kernel_rfl) (by kernel_rfl)
            simp at s1
            rw [if_pos (by rfl)]
            clear hs hJ
            go_simp
            go_at_call 73
            refine (manyO.Join_any' 0 W pa po ta to (Nat.zero_le _) (HE.out.h3.up hB) (HE.out.h0.up hB) (by omega)).mono ?_
            rintro e W2 ⟨q2, u2, rfl, i2, j2, hbn⟩
            exact hK _ _ hbn ⟨q2, u2, rfl, i2, j2⟩
          refine grow.EachT.cons ?_ ?_
          · intro A W hB hs hJ K hK
            have s0 := hs 3 (by kernel_rfl)
            simp at s0
            rw [if_pos (by rfl)]
            clear hs hJ
            go_simp
            exact hK _ _ (Below.refl _ _) rfl
          refine grow.EachT.cons ?_ ?_
          · intro A W hB hs hJ K hK
            have s0 : A.tmps.getD 50 undef = .pointer (some ⟨b + 1, 0, none⟩) := hJ 5 50 (by kernel_rfl) (by kernel_rfl)
            simp at s0
            have kk := upc hB c1
            rw [if_pos (by rfl)]
            clear hs hJ
            go_simp
            exact hK _ _ (Below.refl _ _) rfl
          refine grow.EachT.cons ?_ ?_
          · intro A W hB hs hJ K hK
            obtain ⟨q1, u1, s0, i1, j1⟩ := hJ 4 49 (by kernel_rfl) (by kernel_rfl)
            simp at s0
            have s1 : A.tmps.getD 51 undef = .agg #[.pointer pp] := hJ 6 51 (by kernel_rfl) (by kernel_rfl)
            simp at s1
            rw [if_pos (by rfl)]
            clear hs hJ
            go_simp
            go_at_call 73
            refine (manyO.Join_any' 0 W q1 pp u1 tp (Nat.zero_le _) j1 (HE.out.h1.up hB) (by rw [i1.2]; omega)).mono ?_
            rintro e W2 ⟨q2, u2, rfl, i2, j2, hbn⟩
            exact hK _ _ hbn ⟨q2, u2, rfl, by rw [i1.1, i1.2] at i2; exact i2, j2⟩
          refine grow.EachT.cons ?_ ?_
          · intro A W hB hs hJ K hK
            obtain ⟨q1, u1, s0, i1, j1⟩ := hJ 7 52 (by kernel_rfl) (by kernel_rfl)
            simp at s0
            rw [if_pos (by rfl)]
            clear hs hJ
            go_simp
            exact hK _ _ (Below.refl _ _) ⟨q1, u1, rfl, i1, j1⟩
          exact grow.EachT.nil
        case fin =>
          intro f W hB hF
          have f0 : f 0 = .pointer (some ⟨b + 3, 0, none⟩) := hF 0 (by decide)
          have f1 : f 1 = .agg #[.pointer pa] := hF 1 (by decide)
          have f2 : f 2 = .pointer (some ⟨b, 0, none⟩) := hF 2 (by decide)
          have f3 : f 3 = .agg #[.pointer po] := hF 3 (by decide)
          obtain ⟨q1_4, u1_4, f4, i1_4, j1_4⟩ := hF 4 (by decide)
          have f5 : f 5 = .pointer (some ⟨b + 1, 0, none⟩) := hF 5 (by decide)
          have f6 : f 6 = .agg #[.pointer pp] := hF 6 (by decide)
          obtain ⟨q1_7, u1_7, f7, i1_7, j1_7⟩ := hF 7 (by decide)
          obtain ⟨q1_8, u1_8, f8, i1_8, j1_8⟩ := hF 8 (by decide)
          clear hF
          intro A hA
          simp only [grow.puts, Act.put, List.getElem?_toArray, List.getElem?_cons_zero, List.getElem?_cons_succ, Option.bind_some, List.setIfInBounds_toArray, List.set_cons_zero, List.set_cons_succ, f0, f1, f2, f3, f4, f5, f6, f7, f8] at hA
          subst hA
          simp only [List.drop_succ_cons, List.drop_zero]
          have hE2 := HE.out.up hB
          have e2 := cell_of_one hE2.b2
          have f2 := free_of_one hE2.b2
          have HE2 := Lib.hid hE2
          have HI := Lib.hid (And.intro i1_8 j1_8)
          clear hE2 hB HE i1_8 j1_8
          go_wp2_with fail
          have hr1 := one_setCell (u := .pointer q1_8) HE2.out.b2
          have e3 := cell_of_one hr1
          refine bodyPost_ret (v := .agg #[.pointer q1_8]) (by simp [results, Try.results39, go_sem, e3]) rfl ⟨q1_8, u1_8, rfl, ?_, manyO.Holds.store1 HI.out.2 HE2.out.b2 (by decide), ?_⟩
          · have hf := HE2.out.mi.fin HEnd.out
            rw [← HI.out.1.1] at hf
            exact ⟨by rw [HI.out.1.2, HE2.out.sz, HN.out.1], hf.1, fun z => by rw [hf.2 z, HN.out.2]⟩
          · exact belowSet (a := ⟨b + 2, 0, none⟩) HE2.out.bel (by have := HE2.out.hb; show w.heap.size ≤ b + 2; omega) _
    · have c1 : decide ((0 : Int) < ((to.size : Nat) : Int)) = false := by simp; omega
      go_wp2_with fail
      refine HL1.out.mono ?_
      rintro e wb ⟨rfl, hbb⟩
      have HE := Lib.hid (HS.out.up hbb)
      have HEnd : Hid (to.inorder = [] ∨ tp.inorder = []) := Lib.hid (.inl (List.eq_nil_of_length_eq_zero (by rw [BT.length_inorder]; omega)))
      clear hbb HS HL1 k0 k1
      have c0 := cell_of_one HE.out.b0
      have c1 := cell_of_one HE.out.b1
      have c3 := cell_of_one HE.out.b3
      go_wp2_with fail
      refine grow.wp_grow_tail 9 [grow.kEq (.pointer (some ⟨b + 3, 0, none⟩)), grow.kEq (.agg #[.pointer pa]), grow.kEq (.pointer (some ⟨b, 0, none⟩)), grow.kEq (.agg #[.pointer po]), kTM 0 (Is (ta.inorder ++ to.inorder) (ta.size + to.size)), grow.kEq (.pointer (some ⟨b + 1, 0, none⟩)), grow.kEq (.agg #[.pointer pp]), kTM 0 (Is (ta.inorder ++ to.inorder ++ tp.inorder) (ta.size + to.size + tp.size)), kTM 0 (Is (ta.inorder ++ to.inorder ++ tp.inorder) (ta.size + to.size + tp.size))] (of_decide_eq_true (by kernel_rfl)) (by kernel_rfl) (by kernel_rfl) (by kernel_rfl) (by kernel_rfl) (by kernel_rfl) ?step ?fin
      case step =>
        refine grow.EachT.cons ?_ ?_
        · intro A W hB hs hJ K hK
          have s0 := hs 5 (by kernel_rfl)
          simp at s0
          rw [if_pos (by rfl)]
          clear hs hJ
          go_simp
          exact hK _ _ (Below.refl _ _) rfl
        refine grow.EachT.cons ?_ ?_
        · intro A W hB hs hJ K hK
          have s0 : A.tmps.getD 45 undef = .pointer (some ⟨b + 3, 0, none⟩) := hJ 0 45 (by kernel_rfl) (by kernel_rfl)
          simp at s0
          have kk := upc hB c3
          rw [if_pos (by rfl)]
          clear hs hJ
          go_simp
          exact hK _ _ (Below.refl _ _) rfl
        refine grow.EachT.cons ?_ ?_
        · intro A W hB hs hJ K hK
          have s0 := hs 2 (by kernel_rfl)
          simp at s0
          rw [if_pos (by rfl)]
          clear hs hJ
          go_simp
          exact hK _ _ (Below.refl _ _) rfl
        refine grow.EachT.cons ?_ ?_
        · intro A W hB hs hJ K hK
          have s0 : A.tmps.getD 47 undef = .pointer (some ⟨b, 0, none⟩) := hJ 2 47 (by kernel_rfl) (by kernel_rfl)
          simp at s0
          have kk := upc hB c0
          rw [if_pos (by rfl)]
          clear hs hJ
          go_simp
          exact hK _ _ (Below.refl _ _) rfl
        refine grow.EachT.cons ?_ ?_
        · intro A W hB hs hJ K hK
          have s0 : A.tmps.getD 46 undef = .agg #[.pointer pa] := hJ 1 46 (by kernel_rfl) (by kernel_rfl)
          simp at s0
          have s1 : A.tmps.getD 48 undef = .agg #[.pointer po] := hJ 3 48 (by kernel_rfl) (by kernel_rfl)
          simp at s1
          rw [if_pos (by rfl)]
          clear hs hJ
          go_simp
          go_at_call 73
          refine (manyO.Join_any' 0 W pa po ta to (Nat.zero_le _) (HE.out.h3.up hB) (HE.out.h0.up hB) (by omega)).mono ?_
          rintro e W2 ⟨q2, u2, rfl, i2, j2, hbn⟩
          exact hK _ _ hbn ⟨q2, u2, rfl, i2, j2⟩
        refine grow.EachT.cons ?_ ?_
        · intro A W hB hs hJ K hK
          have s0 := hs 3 (by kernel_rfl)
          simp at s0
          rw [if_pos (by rfl)]
          clear hs hJ
          go_simp
          exact hK _ _ (Below.refl _ _) rfl
        refine grow.EachT.cons ?_ ?_
        · intro A W hB hs hJ K hK
          have s0 : A.tmps.getD 50 undef = .pointer (some ⟨b + 1, 0, none⟩) := hJ 5 50 (by kernel_rfl) (by kernel_rfl)
          simp at s0
          have kk := upc hB c1
          rw [if_pos (by rfl)]
          clear hs hJ
          go_simp
          exact hK _ _ (Below.refl _ _) rfl
        refine grow.EachT.cons ?_ ?_
        · intro A W hB hs hJ K hK
          obtain ⟨q1, u1, s0, i1, j1⟩ := hJ 4 49 (by kernel_rfl) (by kernel_rfl)
          simp at s0
          have s1 : A.tmps.getD 51 undef = .agg #[.pointer pp] := hJ 6 51 (by kernel_rfl) (by kernel_rfl)
          simp at s1
          rw [if_pos (by rfl)]
          clear hs hJ
          go_simp
          go_at_call 73
          refine (manyO.Join_any' 0 W q1 pp u1 tp (Nat.zero_le _) j1 (HE.out.h1.up hB) (by rw [i1.2]; omega)).mono ?_
          rintro e W2 ⟨q2, u2, rfl, i2, j2, hbn⟩
          exact hK _ _ hbn ⟨q2, u2, rfl, by rw [i1.1, i1.2] at i2; exact i2, j2⟩
        refine grow.EachT.cons ?_ ?_
        · intro A W hB hs hJ K hK
          obtain ⟨q1, u1, s0, i1, j1⟩ := hJ 7 52 (by kernel_rfl) (by kernel_rfl)
          simp at s0
          rw [if_pos (by rfl)]
          clear hs hJ
          go_simp
          exact hK _ _ (Below.refl _ _) ⟨q1, u1, rfl, i1, j1⟩
        exact grow.EachT.nil
      case fin =>
        intro f W hB hF
        have f0 : f 0 = .pointer (some ⟨b + 3, 0, none⟩) := hF 0 (by decide)
        have f1 : f 1 = .agg #[.pointer pa] := hF 1 (by decide)
        have f2 : f 2 = .pointer (some ⟨b, 0, none⟩) := hF 2 (by decide)
        have f3 : f 3 = .agg #[.pointer po] := hF 3 (by decide)
        obtain ⟨q1_4, u1_4, f4, i1_4, j1_4⟩ := hF 4 (by decide)
        have f5 : f 5 = .pointer (some ⟨b + 1, 0, none⟩) := hF 5 (by decide)
        have f6 : f 6 = .agg #[.pointer pp] := hF 6 (by decide)
        obtain ⟨q1_7, u1_7, f7, i1_7, j1_7⟩ := hF 7 (by decide)
        obtain ⟨q1_8, u1_8, f8, i1_8, j1_8⟩ := hF 8 (by decide)
        clear hF
        intro A hA
        simp only [grow.puts, Act.put, List.getElem?_toArray, List.getElem?_cons_zero, List.getElem?_cons_succ, Option.bind_some, List.setIfInBounds_toArray, List.set_cons_zero, List.set_cons_succ, f0, f1, f2, f3, f4, f5, f6, f7, f8] at hA
        subst hA
        simp only [List.drop_succ_cons, List.drop_zero]
        have hE2 := HE.out.up hB
        have e2 := cell_of_one hE2.b2
        have f2 := free_of_one hE2.b2
        have HE2 := Lib.hid hE2
        have HI := Lib.hid (And.intro i1_8 j1_8)
        clear hE2 hB HE i1_8 j1_8
        go_wp2_with fail
        have hr1 := one_setCell (u := .pointer q1_8) HE2.out.b2
        have e3 := cell_of_one hr1
        refine bodyPost_ret (v := .agg #[.pointer q1_8]) (by simp [results, Try.results39, go_sem, e3]) rfl ⟨q1_8, u1_8, rfl, ?_, manyO.Holds.store1 HI.out.2 HE2.out.b2 (by decide), ?_⟩
        · have hf := HE2.out.mi.fin HEnd.out
          rw [← HI.out.1.1] at hf
          exact ⟨by rw [HI.out.1.2, HE2.out.sz, HN.out.1], hf.1, fun z => by rw [hf.2 z, HN.out.2]⟩
        · exact belowSet (a := ⟨b + 2, 0, none⟩) HE2.out.bel (by have := HE2.out.hb; show w.heap.size ≤ b + 2; omega) _
end Go.Proofs.Ytnigadnjppeckaa.ord
