/- What regions keep of bags: 'next, err := b.Put(..)'. -/
import Derived.Test.YtnebmncjohoekaaDoorBagMet
import Derived.Test.YtnebmncjohoekaaDoorGrow3
namespace Go.Proofs.YtnebmncjohoekaaDoor.bag
open Go.RowKit
open pat (PT HO OOk ocnt olist oget tk I64 lk told oput odrop ounion)

/-- a new box -/
def kNew (B : Nat) : grow.Kept := ⟨fun v W => ∃ b, v = .pointer (some ⟨b, 0, none⟩) ∧ B ≤ b ∧ W.heap[b]? = some (.cells #[.pointer none] 28 (0, 0)), fun _ _ _ hb ⟨b, e, h1, h2⟩ => ⟨b, e, h1, upb hb h2⟩⟩
/-- a bag and an error -/
def kTup (B : Nat) (o : Option PT) (er : Value) : grow.Kept := ⟨fun v W => ∃ p, v = .tuple #[.agg #[.pointer p], er] ∧ HO B W p o, fun _ _ _ hb ⟨p, e, h⟩ => ⟨p, e, h.up hb⟩⟩
def kTupF (er : Value) : grow.Kept := ⟨fun v _ => ∃ p, v = .tuple #[.agg #[.pointer p], er], fun _ _ _ _ h => h⟩
/-- a bag in a new box -/
def pvBag (D B : Nat) (o : Option PT) (u v : Value) (W : World) : Prop := ∃ p b, u = .agg #[.pointer p] ∧ v = .pointer (some ⟨b, 0, none⟩) ∧ D ≤ b ∧ W.heap[b]? = some (.cells #[.pointer p] 28 (0, 0)) ∧ HO B W p o
theorem pvBag_up (D B : Nat) (o : Option PT) : ∀ u v (W W' : World), Below W.heap.size W W' → pvBag D B o u v W → pvBag D B o u v W' := fun _ _ _ _ hb ⟨p, b, e1, e2, h1, h2, h3⟩ => ⟨p, b, e1, e2, h1, upb hb h2, h3.up hb⟩
end Go.Proofs.YtnebmncjohoekaaDoor.bag
