/- What a call that hands back a set leaves, said of sizes: package red. -/
import Derived.Test.YtcjhbpnmkahkeaaRed4
import Derived.Test.YtcjhbpnmkahkeaaMore
namespace Go.Proofs.Ytcjhbpnmkahkeaa.red
open Go.RowKit

/-- what a call that hands back a set leaves: a tree of which Q is true -/
def RetS (B : Nat) (w : World) (Q : BT A → Prop) (e : Ending) (w' : World) : Prop := ∃ p t, e = .returned (.agg #[.pointer p]) ∧ Q t ∧ In B w' p t ∧ Below w.heap.size w w'
/-- what a put makes of a tree; and a tree of so many numbers -/
def PutQ (_x : Int) (t t' : BT A) : Prop := t'.size ≤ t.size + 1 ∧ 0 < t'.size
def OfQ (xs : List Int) (t : BT A) : Prop := t.size ≤ xs.length ∧ (xs ≠ [] → 0 < t.size)
theorem OfQ_nil : OfQ [] .nil := ⟨Nat.le_refl _, fun h => absurd rfl h⟩
theorem OfQ_snoc {xs : List Int} {x : Int} {t t' : BT A} (h : OfQ xs t) (hp : PutQ x t t') : OfQ (xs ++ [x]) t' := by
  obtain ⟨h1, h2⟩ := hp
  refine ⟨?_, fun _ => h2⟩
  have := h.1
  simp
  omega
theorem OfQ_size {xs : List Int} {t : BT A} (h : OfQ xs t) : t.size ≤ xs.length := h.1
theorem OfQ_one {x : Int} {t : BT A} (h : OfQ [x] t) : t.size = 1 := by
  have h1 := h.1
  have h2 := h.2 (by simp)
  simp at h1
  omega

/-- the tree is stored into the result's box -/
theorem RetS.mk {B k : Nat} {w w' : World} {Q : BT A → Prop} {p : Option Addr} {t : BT A} {c : Array Value} (hq : Q t) (hp : In B w' p t) (hb : Below w.heap.size w w') (hk : w'.heap[k]? = some (.cells c 61 (0, 0))) (hkw : w.heap.size ≤ k) :
    RetS B w Q (.returned (.agg #[.pointer p])) (w'.setCell ⟨k, 0, none⟩ (.pointer p)) :=
  ⟨p, t, rfl, hq, hp.store (off := 0) hk (by decide), belowSet (a := ⟨k, 0, none⟩) hb hkw _⟩

end Go.Proofs.Ytcjhbpnmkahkeaa.red
