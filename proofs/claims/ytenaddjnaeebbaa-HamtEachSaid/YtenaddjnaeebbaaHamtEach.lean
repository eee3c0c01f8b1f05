/- What a function makes of each pair: (hamt.Map).Each. -/
import Derived.Test.YtenaddjnaeebbaaHamtKW
import Derived.Test.YtenaddjnaeebbaaGrow
namespace Go.Proofs.Ytenaddjnaeebbaa.hamt
open Go.RowKit
open pat (PT OOk ocnt olist oput odrop oget tk I64 tk_lt tk_inj lk told Yes fill fill_snoc fill_ok fill_cnt)

def mkE (f : Int → Int → Int) (xs : PL) : PL := xs.map fun p => (p.1, f p.1 p.2)
def eo (f : Int → Int → Int) (xs : PL) : Option PT := fill none (mkE f xs)
theorem eo_snoc (f : Int → Int → Int) (xs : PL) (k v : Int) : eo f (xs ++ [(k, v)]) = some (oput (eo f xs) (tk k) (f k v)) := by
  unfold eo mkE
  rw [List.map_append, List.map_singleton, fill_snoc]
theorem eo_ok (f : Int → Int → Int) (xs : PL) (h : ∀ p ∈ xs, I64 p.1) : OOk (eo f xs) :=
  fill_ok _ _ trivial (fun p hp => by
    obtain ⟨q, hq, rfl⟩ := List.mem_map.1 hp
    exact h q hq)
theorem eo_cnt (f : Int → Int → Int) (xs : PL) : ocnt (eo f xs) ≤ xs.length := by
  have h := fill_cnt (mkE f xs) none
  have e : ocnt none = 0 := rfl
  unfold eo
  rw [show (mkE f xs).length = xs.length from List.length_map _] at h
  omega
/-- a function value: its code, what it has caught; what it makes of two numbers -/
def Fun (w0 : World) (g : Nat) (caps : Array Value) (f : Int → Int → Int) : Prop :=
  ∀ k v W, Below w0.heap.size w0 W → Calls Try.prog g (#[.int .i64 k, .int .i64 v] ++ caps) W (fun e W' => e = .returned (.int .i64 (f k v)) ∧ Below W.heap.size W W')
/-- while the pairs are walked: the map in block O, the function in block F -/
structure EI (O F B g : Nat) (caps : Array Value) (f : Int → Int → Int) (w0 : World) (xs : PL) (W : World) : Prop where
  bel : Below w0.heap.size w0 W
  hO : w0.heap.size ≤ O
  OF : O ≠ F
  hB : B ≤ w0.heap.size
  cO : ∃ p, W.heap[O]? = some (.cells #[.pointer p] 25 (0, 0)) ∧ HO B W p (eo f xs)
  cF : W.heap[F]? = some (.cells #[.func (.func g) #[] caps] 36 (0, 0))
  ks : ∀ p ∈ xs, I64 p.1
theorem EI.up {O F B g : Nat} {caps : Array Value} {f : Int → Int → Int} {w0 : World} {xs : PL} {W W' : World} (h : EI O F B g caps f w0 xs W) (hb : Below W.heap.size W W') : EI O F B g caps f w0 xs W' := by
  obtain ⟨p, h1, h2⟩ := h.cO
  exact ⟨h.bel.trans (hb.mono h.bel.size), h.hO, h.OF, h.hB, ⟨p, upb hb h1, h2.up hb⟩, upb hb h.cF, h.ks⟩
theorem EI.next {O F B g : Nat} {caps : Array Value} {f : Int → Int → Int} {w0 : World} {xs : PL} {W : World} (h : EI O F B g caps f w0 xs W) {k v : Int} (hk : I64 k) {q : Option Addr} (hq : HO B W q (some (oput (eo f xs) (tk k) (f k v)))) :
    EI O F B g caps f w0 (xs ++ [(k, v)]) (W.setCell ⟨O, 0, none⟩ (.pointer q)) := by
  obtain ⟨p, h1, h2⟩ := h.cO
  refine ⟨h.bel.setCell (p := ⟨O, 0, none⟩) h.hO _, h.hO, h.OF, h.hB, ⟨q, one_setCell h1, ?_⟩, (Below.heap_setCell W ⟨O, 0, none⟩ _ F (fun e => h.OF e.symm)).trans h.cF, fun p hp => ?_⟩
  · rw [eo_snoc]
    exact HO.store (k := O) (off := 0) h1 (by decide) hq
  · rcases List.mem_append.1 hp with hp | hp
    · exact h.ks p hp
    · have : p = (k, v) := by simpa using hp
      rw [this]; exact hk

end Go.Proofs.Ytenaddjnaeebbaa.hamt
