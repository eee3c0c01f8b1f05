/- Package pat: contracts that name numbers; what regions keep of maps and rows. -/
import Derived.Test.YtenaddjnaeebbaaPatL
import Derived.Test.YtenaddjnaeebbaaGrow
namespace Go.Proofs.Ytenaddjnaeebbaa.pat
open Go.RowKit

theorem telled {o : Option PT} {n : Nat} (h : ocnt o = n) : (told o).length = n := by rw [told_length, h]
/-- Pairs, the number by a name -/
theorem Pairs_num (B : Nat) (w : World) (p : Option Addr) (o : Option PT) (m : Nat) (h : HO B w p o) (ho : OOk o) (hm : ocnt o = m) (hn : m ≤ 8796093022208) (xs : List (Int × Int)) (hx : told o = xs) :
    Calls Try.prog 26 #[.agg #[.pointer p]] w fun e w' => ∃ a c, e = .returned (.slice a m c) ∧ OwnP w' w.heap.size (.slice a m c) xs ∧ Below w.heap.size w w' := by
  subst hx
  have h := pairs_any B w p o h ho (by omega)
  unfold RetPs at h
  rw [telled hm] at h
  exact h

/-- what is known of a map's value, of a row's -/
def kMap (B : Nat) (o : Option PT) : grow.Kept := ⟨fun v W => ∃ p, v = .agg #[.pointer p] ∧ HO B W p o, fun _ _ _ hb ⟨p, e, h⟩ => ⟨p, e, h.up hb⟩⟩
def kRow (m : Nat) (xs : List (Int × Int)) : grow.Kept := ⟨fun v W => ∃ a c, v = .slice a m c ∧ ReadsP W a xs, fun _ _ _ hb ⟨a, c, e, h⟩ => ⟨a, c, e, h.up hb⟩⟩

def kOwnR (B m : Nat) (xs : List (Int × Int)) : grow.Kept := ⟨fun v W => ∃ a c, v = .slice a m c ∧ OwnP W B (.slice a m c) xs, fun _ _ _ hb ⟨a, c, e, h⟩ => ⟨a, c, e, h.up hb⟩⟩
/-- pairs that are read -/
structure Row (w : World) (a : Option Addr) (n : Nat) (l : List (Int × Int)) : Prop where
  r : ReadsP w a l
  len : l.length = n
  i : ∀ p ∈ l, I64 p.1
  le : n ≤ 1048576
theorem Len_num (B : Nat) (w : World) (p : Option Addr) (o : Option PT) (k : Nat) (h : HO B w p o) (hk : ocnt o = k) :
    Calls Try.prog 28 #[.agg #[.pointer p]] w fun e w' => e = .returned (.int .i64 (k : Nat)) ∧ Below w.heap.size w w' := by
  subst hk
  exact Len_any B w p o h
end Go.Proofs.Ytenaddjnaeebbaa.pat
