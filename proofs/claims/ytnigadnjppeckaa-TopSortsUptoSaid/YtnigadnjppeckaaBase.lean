/- Small lemmas on worlds, trees that lie in memory, and slices of integers: no program stands here. -/
import Derived.WalkKit
import Derived.WalkSpells
import Derived.WalkLawsBesides
import Derived.Deep.RegionHeld3
import Derived.Deep.AppendLies
import Derived.Lib.Hide
namespace Go.Proofs.Ytnigadnjppeckaa
open Go.RowKit

/-- what was there in w is there in w' -/
theorem upc {w w' : World} (h : Below w.heap.size w w') {a : Addr} {v : Value} (hc : w.cell? a = some v) : w'.cell? a = some v :=
  (h.cell (World.block_lt_of_cell? w a hc)).trans hc
theorem upb {w w' : World} (h : Below w.heap.size w w') {b : Nat} {o : Obj} (hc : w.heap[b]? = some o) : w'.heap[b]? = some o :=
  (h.block b (Array.getElem?_eq_some_iff.1 hc).1).trans hc
theorem szle {w w' : World} {B : Nat} (h : Below w.heap.size w w') (hB : B ≤ w.heap.size) : B ≤ w'.heap.size := Nat.le_trans hB h.size
theorem belowTrans {w w1 w2 : World} (h : Below w.heap.size w w1) (h' : Below w1.heap.size w1 w2) : Below w.heap.size w w2 := h.trans (h'.mono h.size)
theorem belowDrew (w : World) : Below w.heap.size w w.drew := (Below.refl _ _).drew
theorem belowDrewN (w : World) (n : Nat) : Below w.heap.size w (w.drewN n) := by
  induction n with
  | zero => exact Below.refl _ _
  | succ n ih => exact ⟨rfl, rfl, rfl, Nat.le_refl _, fun _ _ => rfl⟩
theorem belowAlloc (w : World) (o : Obj) : Below w.heap.size w (w.alloc o) := (Below.refl _ _).alloc (Nat.le_refl _) o

/-- a callee that leaves the world alone, in a region that only reads -/
theorem quietOf {P : Program} {f : FuncId} {args : Array Value} {w : World} {n : Nat} {v : Value} (h : Calls P f args (w.drewN n) fun e w' => e = .returned v ∧ w.drewN n = w') :
    Calls P f args (w.drewN n) fun e w'' => e = .returned v ∧ ∃ m, w'' = w.drewN m := h.mono fun _ _ ⟨he, hm⟩ => ⟨he, n, hm.symm⟩

theorem quietOf2 {P : Program} {f : FuncId} {args : Array Value} {w : World} {a n : Nat} {v : Value} (h : Calls P f args (w.drewN (a + n)) fun e w' => e = .returned v ∧ w.drewN (a + n) = w') :
    Calls P f args (w.drewN (a + n)) fun e w'' => e = .returned v ∧ ∃ m, w'' = w.drewN (a + m) := h.mono fun _ _ ⟨he, hm⟩ => ⟨he, n, hm.symm⟩

/-- binary trees -/
inductive BT (α : Type) where
  | nil
  | node (a : α) (l r : BT α)
def BT.size {α : Type} : BT α → Nat
  | .nil => 0
  | .node _ l r => 1 + l.size + r.size

/-- p leads to a copy of t in w: each node is a block of its own, from block B on; what stands in it ahead of the two pointers is cs of it -/
def Holds {α : Type} (cs : α → BT α → BT α → List Value) (ty B : Nat) (w : World) : Option Addr → BT α → Prop
  | p, .nil => p = none
  | p, .node a l r => ∃ b pl pr, p = some ⟨b, 0, none⟩ ∧ B ≤ b ∧ w.heap[b]? = some (.cells (cs a l r ++ [Value.pointer pl, Value.pointer pr]).toArray ty (0, 0)) ∧
      Holds cs ty B w pl l ∧ Holds cs ty B w pr r

section
variable {α : Type} {cs : α → BT α → BT α → List Value} {ty B : Nat} {w w' : World} {p : Option Addr} {t : BT α}
theorem Holds.frame (h : Holds cs ty B w p t) (hw : ∀ b, B ≤ b → b < w.heap.size → w'.heap[b]? = w.heap[b]?) : Holds cs ty B w' p t := by
  induction t generalizing p with
  | nil => exact h
  | node a l r ihl ihr =>
    obtain ⟨b, pl, pr, rfl, hB, hc, hl, hr⟩ := h
    exact ⟨b, pl, pr, rfl, hB, (hw b hB (Array.getElem?_eq_some_iff.1 hc).1).trans hc, ihl hl, ihr hr⟩
theorem Holds.up (h : Holds cs ty B w p t) (hb : Below w.heap.size w w') : Holds cs ty B w' p t :=
  h.frame fun k _ hk => hb.block k hk
theorem Holds.lower {B' : Nat} (hB : B' ≤ B) (h : Holds cs ty B w p t) : Holds cs ty B' w p t := by
  induction t generalizing p with
  | nil => exact h
  | node a l r ihl ihr =>
    obtain ⟨b, pl, pr, rfl, hb, hc, hl, hr⟩ := h
    exact ⟨b, pl, pr, rfl, Nat.le_trans hB hb, hc, ihl hl, ihr hr⟩
theorem Holds.new {a : α} {l r : BT α} {pl pr : Option Addr} (hB : B ≤ w.heap.size) (hl : Holds cs ty B w pl l) (hr : Holds cs ty B w pr r) :
    Holds cs ty B (w.alloc (.cells (cs a l r ++ [Value.pointer pl, Value.pointer pr]).toArray ty (0, 0))) (some ⟨w.heap.size, 0, none⟩) (.node a l r) :=
  ⟨w.heap.size, pl, pr, rfl, hB, heap_alloc_new w _, hl.up (belowAlloc w _), hr.up (belowAlloc w _)⟩
end

/-- what a call that hands back a tree leaves: some tree of which Q is true -/
def RetQ {α : Type} (cs : α → BT α → BT α → List Value) (ty B : Nat) (w : World) (Q : BT α → Prop) (e : Ending) (w' : World) : Prop :=
  ∃ p t, e = .returned (.pointer p) ∧ Q t ∧ Holds cs ty B w' p t ∧ Below w.heap.size w w'
theorem RetQ.imp {α : Type} {cs : α → BT α → BT α → List Value} {ty B : Nat} {w : World} {Q Q' : BT α → Prop} (hq : ∀ t, Q t → Q' t) {e : Ending} {w' : World} (h : RetQ cs ty B w Q e w') : RetQ cs ty B w Q' e w' := by
  obtain ⟨p, t, he, ht, hh, hb⟩ := h
  exact ⟨p, t, he, hq t ht, hh, hb⟩
theorem RetQ.mk {α : Type} {cs : α → BT α → BT α → List Value} {ty B : Nat} {w : World} {Q : BT α → Prop} {w' : World} {p : Option Addr} {t : BT α} (ht : Q t) (hh : Holds cs ty B w' p t) (hb : Below w.heap.size w w') : RetQ cs ty B w Q (.returned (.pointer p)) w' :=
  ⟨p, t, rfl, ht, hh, hb⟩

/-- a slice that reads as a list of ints -/
def Reads (w : World) (a : Option Addr) (xs : List Int) : Prop :=
  xs = [] ∨ ∃ b o, a = some ⟨b, o, none⟩ ∧ ∀ i, i < xs.length → w.cell? ⟨b, o + i, none⟩ = some (.int .i64 (xs.getD i 0))
theorem Reads.up {w w' : World} {a : Option Addr} {xs : List Int} (h : Reads w a xs) (hb : Below w.heap.size w w') : Reads w' a xs := by
  rcases h with h | ⟨b, o, ha, h⟩
  · exact .inl h
  · exact .inr ⟨b, o, ha, fun i hi => upc hb (h i hi)⟩
end Go.Proofs.Ytnigadnjppeckaa
