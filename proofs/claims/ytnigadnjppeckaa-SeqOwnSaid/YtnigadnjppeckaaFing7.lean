/- finger: what the law is told. -/
import Derived.Test.YtnigadnjppeckaaFing6
namespace Go.Proofs.Ytnigadnjppeckaa.finger
open Go.RowKit Go

/-- p leads to a tree that holds these numbers -/
def TIn (B : Nat) (w : World) (p : Option Addr) (t : List Int) : Prop := ∃ v : LT, Lv w B p v ∧ v.ints = t
theorem TIn.up {B : Nat} {w w' : World} {p : Option Addr} {t : List Int} (h : TIn B w p t) (hb : Below w.heap.size w w') : TIn B w' p t := by
  obtain ⟨v, h1, h2⟩ := h
  exact ⟨v, h1.up' hb, h2⟩
theorem TIn.frame {B : Nat} {w w' : World} {p : Option Addr} {t : List Int} (hf : Fr w w' B) (h : TIn B w p t) : TIn B w' p t := by
  obtain ⟨v, h1, h2⟩ := h
  exact ⟨v, h1.frame hf, h2⟩
theorem ints_all (B : Nat) (w : World) (p : Option Addr) (t : List Int) (h : TIn B w p t) (hn : t.length ≤ 17592186044416) :
    Calls Try.prog 12 #[.agg #[.pointer p]] w (RetI 3 w t) := by
  obtain ⟨v, h1, rfl⟩ := h
  exact ints_any B w p v h1 hn
def RetA (w : World) (B : Nat) (t : List Int) (e : Ending) (w' : World) : Prop := ∃ p, e = .returned (.agg #[.pointer p]) ∧ TIn B w' p t ∧ Below w.heap.size w w'
theorem Of_all (w : World) (a : Option Addr) (c : Nat) (l : List Int) (hn : l.length ≤ 17592186044416) (hr : Reads w a l) : Calls Try.prog 10 #[.slice a l.length c] w (RetA w (w.heap.size + 2) l) :=
  (Of_any w a c l hn hr).mono fun _ _ ⟨p, h1, h2, h3⟩ => ⟨p, h1, ⟨bld l, h2, (bld_ints l).1⟩, h3⟩
theorem Of_five (w : World) (b : Nat) (h : w.heap[b]? = some (.cells #[.int .i64 5] 3 (0, 0))) :
    Calls Try.prog 10 #[.slice (some ⟨b, 0, none⟩) 1 1] w (RetTr w (w.heap.size + 2) (.one (.leaf 5))) := by
  refine Of_any w (some ⟨b, 0, none⟩) 1 [5] (by simp) (.inr ⟨b, 0, rfl, ?_⟩)
  intro i hi
  obtain rfl : i = 0 := by simpa using hi
  simpa using cell_of_one h
theorem nOf (W : World) (n s l m z : Int) : Sem.run Try.prog (Instr.field 29 (.agg #[.int .i64 n, .int .i64 s, .int .i64 l, .int .i64 m, .int .i64 z]) 0) W = .ok (.int .i64 n) W := by kernel_rfl
end Go.Proofs.Ytnigadnjppeckaa.finger
