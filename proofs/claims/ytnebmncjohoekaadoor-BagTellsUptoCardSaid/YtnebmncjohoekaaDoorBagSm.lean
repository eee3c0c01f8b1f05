/- Bags that are not great: contracts with all that is known of each by one word. -/
import Derived.Test.YtnebmncjohoekaaDoorBagFill
namespace Go.Proofs.YtnebmncjohoekaaDoor.bag
open Go.RowKit
open pat (PT HO OOk ocnt olist oget tk I64 lk told oput odrop ounion)

/-- a bag that is well, of no more than so many numbers -/
structure Sm (k : Nat) (o : Option PT) : Prop where
  ok : OOk o
  bnd : Bnd o
  n : ocnt o ≤ k
theorem Sm.met {k l : Nat} {x y : Option PT} (g : Int → Int → Int) (hx : Sm k x) (hy : Sm l y) : Sm (k + l) (metO g x y) := by
  obtain ⟨h1, h2, h3⟩ := metO_ok g hx.ok hy.ok
  exact ⟨h1, h2, Nat.le_trans h3 (Nat.add_le_add hx.n hy.n)⟩
theorem Sm.cnt {k : Nat} {o : Option PT} (h : Sm k o) (x : Int) : 0 ≤ cnt o x ∧ cnt o x ≤ most := cnt_bnd h.ok h.bnd x
theorem cntm {k l : Nat} {x y : Option PT} (g : Int → Int → Int) (hg : g 0 0 ≤ 0) (hx : Sm k x) (hy : Sm l y) {i : Int} (hi : I64 i) : cnt (metO g x y) i = clamp (g (cnt x i) (cnt y i)) := cnt_met g hg hx.ok hy.ok hi
theorem sm_same {k l : Nat} {x y : Option PT} (hx : Sm k x) (hy : Sm l y) (h : ∀ i, I64 i → cnt x i = cnt y i) : told x = told y := same_bag hx.ok hx.bnd hy.ok hy.bnd h
theorem Add_sm (B : Nat) (w : World) (p q : Option Addr) (x y : Option PT) {k l : Nat} (hB : B ≤ w.heap.size) (hx : HO B w p x) (hy : HO B w q y) (sx : Sm k x) (sy : Sm l y) (hc : k + l ≤ 8796093022208) :
    Calls Tryd.prog 9 #[.agg #[.pointer p], .agg #[.pointer q]] w (RetG B w (metO fAdd x y)) :=
  Add_any B w p q x y hB hx hy sx.ok sy.ok sx.bnd sy.bnd (Nat.le_trans (Nat.add_le_add sx.n sy.n) hc)
theorem Less_sm (B : Nat) (w : World) (p q : Option Addr) (x y : Option PT) {k l : Nat} (hB : B ≤ w.heap.size) (hx : HO B w p x) (hy : HO B w q y) (sx : Sm k x) (sy : Sm l y) (hc : k + l ≤ 8796093022208) :
    Calls Tryd.prog 10 #[.agg #[.pointer p], .agg #[.pointer q]] w (RetG B w (metO fLess x y)) :=
  Less_any B w p q x y hB hx hy sx.ok sy.ok sx.bnd sy.bnd (Nat.le_trans (Nat.add_le_add sx.n sy.n) hc)
theorem Join_sm (B : Nat) (w : World) (p q : Option Addr) (x y : Option PT) {k l : Nat} (hB : B ≤ w.heap.size) (hx : HO B w p x) (hy : HO B w q y) (sx : Sm k x) (sy : Sm l y) (hc : k + l ≤ 8796093022208) :
    Calls Tryd.prog 11 #[.agg #[.pointer p], .agg #[.pointer q]] w (RetG B w (metO fJoin x y)) :=
  Join_any B w p q x y hB hx hy sx.ok sy.ok sx.bnd sy.bnd (Nat.le_trans (Nat.add_le_add sx.n sy.n) hc)
theorem Meet_sm (B : Nat) (w : World) (p q : Option Addr) (x y : Option PT) {k l : Nat} (hB : B ≤ w.heap.size) (hx : HO B w p x) (hy : HO B w q y) (sx : Sm k x) (sy : Sm l y) (hc : k + l ≤ 8796093022208) :
    Calls Tryd.prog 12 #[.agg #[.pointer p], .agg #[.pointer q]] w (RetG B w (metO fMeet x y)) :=
  Meet_any B w p q x y hB hx hy sx.ok sy.ok sx.bnd sy.bnd (Nat.le_trans (Nat.add_le_add sx.n sy.n) hc)
theorem In_sm (B : Nat) (w : World) (p q : Option Addr) (x y : Option PT) {k l : Nat} (hB : B ≤ w.heap.size) (hx : HO B w p x) (hy : HO B w q y) (sx : Sm k x) (sy : Sm l y) (hc : k + l ≤ 8796093022208) (b : Bool) (hb : decide (ocnt (metO fLess x y) = 0) = b) :
    Calls Tryd.prog 15 #[.agg #[.pointer p], .agg #[.pointer q]] w fun e w' => e = .returned (.bool b) ∧ Below w.heap.size w w' :=
  In_any B w p q x y hB hx hy sx.ok sy.ok sx.bnd sy.bnd (Nat.le_trans (Nat.add_le_add sx.n sy.n) hc) b hb
/-- a bag has none -/
theorem none_iff {k : Nat} {o : Option PT} (h : Sm k o) : ocnt o = 0 ↔ ∀ i, I64 i → cnt o i = 0 := by
  constructor
  · intro h0 i _
    cases o with
    | none => rfl
    | some t =>
      have : 0 < t.cnt := by
        induction t with
        | leaf k v => exact Nat.one_pos
        | node key n l r ihl _ =>
          have e : (PT.node key n l r).cnt = l.cnt + r.cnt := rfl
          have h1 : ∀ t : PT, 0 < t.cnt := fun t => by
            induction t with
            | leaf k v => exact Nat.one_pos
            | node key n l r ihl _ => have e : (PT.node key n l r).cnt = l.cnt + r.cnt := rfl; omega
          have := h1 l
          omega
      have e : ocnt (some t) = t.cnt := rfl
      omega
  · intro hz
    have e : told o = told none := same_bag h.ok h.bnd (o' := none) trivial bnd_none fun i hi => by rw [hz i hi]; rfl
    exact told_ocnt e
theorem in_iff {k l : Nat} {x y : Option PT} (hx : Sm k x) (hy : Sm l y) : ocnt (metO fLess x y) = 0 ↔ ∀ i, I64 i → cnt x i ≤ cnt y i := by
  rw [none_iff (Sm.met fLess hx hy)]
  constructor
  · intro h i hi
    have h1 := h i hi
    rw [cntm fLess zeroLess hx hy hi] at h1
    have h2 := hx.cnt i
    have h3 := hy.cnt i
    have hm : most = 1099511627776 := rfl
    unfold clamp fLess at h1
    split at h1 <;> omega
  · intro h i hi
    have h1 := h i hi
    rw [cntm fLess zeroLess hx hy hi]
    unfold clamp fLess
    rw [if_pos (by omega)]
/-- three bags in boxes -/
structure Bx (w : World) (G : Nat) (x : Option PT) (p : Option Addr) (W : World) : Prop where
  bel : Below w.heap.size w W
  b : W.heap[G]? = some (.cells #[.pointer p] 28 (0, 0))
  h : HO w.heap.size W p x
theorem Bx.up {w : World} {G : Nat} {x : Option PT} {p : Option Addr} {W W' : World} (h : Bx w G x p W) (hb : Below W.heap.size W W') : Bx w G x p W' := ⟨h.bel.trans (hb.mono h.bel.size), upb hb h.b, h.h.up hb⟩
end Go.Proofs.YtnebmncjohoekaaDoor.bag
