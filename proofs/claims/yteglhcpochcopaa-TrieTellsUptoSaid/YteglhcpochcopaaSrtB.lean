/- Rows of bytes that are sorted in place: what a call leaves; an exchange of two; which of two is less. -/
import Derived.Test.YteglhcpochcopaaMore
import Derived.Test.YteglhcpochcopaaProg
import Derived.Sort.LotA
import Derived.BigQuiet
import Derived.BigRegion
import Derived.RegionTactic
import Derived.StillTailTactics
import Derived.Laws.OwnMore
namespace Go.Proofs.Yteglhcpochcopaa.srt
open Go.RowKit
open Go.Sort (swp)

def lt (x y : Nat) : Bool := decide (x < y)
theorem swo : Go.Sort.SWO lt where
  irrefl x := by simp [lt]
  trans x y z h1 h2 := by simp only [lt, decide_eq_true_eq] at *; omega
  ntrans x y z h1 h2 := by simp only [lt, decide_eq_false_iff_not] at *; omega
abbrev nv (x : Nat) : Value := .int .u8 (x : Int)
/-- block b holds these bytes, and may be written -/
structure Rw (w : World) (b : Nat) (d : Array Nat) : Prop where
  lt : b < w.heap.size
  c : ∀ i, i < d.size → w.cell? ⟨b, i, none⟩ = some (nv d[i]!)
  f : ∀ i, w.frozen? ⟨b, i, none⟩ = false
/-- all but block b is as it was -/
structure On (b : Nat) (w w' : World) : Prop where
  os : w'.os = w.os
  tape : w'.tape = w.tape
  output : w'.output = w.output
  size : w.heap.size ≤ w'.heap.size
  block : ∀ k, k < w.heap.size → k ≠ b → w'.heap[k]? = w.heap[k]?
theorem On.refl (b : Nat) (w : World) : On b w w := ⟨rfl, rfl, rfl, Nat.le_refl _, fun _ _ _ => rfl⟩
theorem On.trans {b : Nat} {w w1 w2 : World} (h : On b w w1) (h' : On b w1 w2) : On b w w2 :=
  ⟨h'.os.trans h.os, h'.tape.trans h.tape, h'.output.trans h.output, Nat.le_trans h.size h'.size, fun k hk hp => (h'.block k (Nat.lt_of_lt_of_le hk h.size) hp).trans (h.block k hk hp)⟩
theorem On.set (b o : Nat) (w : World) (v : Value) : On b w (w.setCell ⟨b, o, none⟩ v) :=
  ⟨rfl, rfl, rfl, by simp [World.setCell], fun k _ hp => Below.heap_setCell _ _ _ _ hp⟩
theorem On.below {b : Nat} {w w' : World} (h : Below w.heap.size w w') : On b w w' := ⟨h.os, h.tape, h.output, h.size, fun k hk _ => h.block k hk⟩
theorem On.drew (b : Nat) (w : World) : On b w w.drew := .below (belowDrew w)
theorem On.to {b : Nat} {w0 w w' : World} (h : On b w w') (hb : Below w0.heap.size w0 w) (hp : w0.heap.size ≤ b) : Below w0.heap.size w0 w' :=
  ⟨h.os.trans hb.os, h.tape.trans hb.tape, h.output.trans hb.output, Nat.le_trans hb.size h.size, fun k hk => (h.block k (Nat.lt_of_lt_of_le hk hb.size) (by omega)).trans (hb.block k hk)⟩
theorem Rw.up {w w' : World} {b : Nat} {d : Array Nat} (h : Rw w b d) (hb : Below w.heap.size w w') : Rw w' b d := by
  have e := hb.block b h.lt
  refine ⟨Nat.lt_of_lt_of_le h.lt hb.size, fun i hi => upc hb (h.c i hi), fun i => ?_⟩
  have := h.f i
  unfold World.frozen? at this ⊢
  rw [e]
  exact this
theorem Rw.drew {w : World} {b : Nat} {d : Array Nat} (h : Rw w b d) : Rw w.drew b d := h.up (belowDrew w)
theorem Rw.drewN {w : World} {b : Nat} {d : Array Nat} (h : Rw w b d) (n : Nat) : Rw (w.drewN n) b d := h.up (belowDrewN w n)
theorem frozenSet (w : World) (b i j : Nat) (v : Value) : (w.setCell ⟨b, i, none⟩ v).frozen? ⟨b, j, none⟩ = w.frozen? ⟨b, j, none⟩ := by
  cases hb : w.heap[b]? with
  | none => simp [World.frozen?, World.setCell, Array.getElem?_modify, hb]
  | some o => cases o <;> simp [World.frozen?, World.setCell, Array.getElem?_modify, hb]
theorem cellSet_ne (w : World) (b i j : Nat) (v : Value) (h : i ≠ j) : (w.setCell ⟨b, i, none⟩ v).cell? ⟨b, j, none⟩ = w.cell? ⟨b, j, none⟩ := by
  cases hb : w.heap[b]? with
  | none => simp [World.cell?, World.setCell, Array.getElem?_modify, hb]
  | some o => cases o <;> simp [World.cell?, World.setCell, Array.getElem?_modify, hb, h]
theorem cellSet_eq (w : World) (b i : Nat) (v u : Value) (h : w.cell? ⟨b, i, none⟩ = some u) : (w.setCell ⟨b, i, none⟩ v).cell? ⟨b, i, none⟩ = some v := by
  cases hb : w.heap[b]? with
  | none => simp [World.cell?, hb] at h
  | some o =>
    cases o <;> simp [World.cell?, hb] at h
    rename_i cs t fz
    have hlt : i < cs.size := by
      rcases Nat.lt_or_ge i cs.size with hl | hl
      · exact hl
      · simp [Array.getElem?_eq_none hl] at h
    simp [World.cell?, World.setCell, Array.getElem?_modify, hb, hlt]
/-- one byte written -/
theorem Rw.set {w : World} {b : Nat} {d : Array Nat} (h : Rw w b d) {i : Nat} (hi : i < d.size) (x : Nat) : Rw (w.setCell ⟨b, i, none⟩ (nv x)) b (d.setIfInBounds i x) := by
  refine ⟨by simp [World.setCell, h.lt], fun j hj => ?_, fun j => (frozenSet ..).trans (h.f j)⟩
  rw [Array.size_setIfInBounds] at hj
  by_cases e : i = j
  · subst e
    rw [cellSet_eq _ _ _ _ _ (h.c i hi)]
    simp [hi]
  · rw [cellSet_ne _ _ _ _ _ e, h.c j hj]
    simp [e, hj]
/-- two exchanged -/
theorem Rw.swp {w : World} {b : Nat} {d : Array Nat} (h : Rw w b d) {i j : Nat} (hi : i < d.size) (hj : j < d.size) : Rw (((w.setCell ⟨b, i, none⟩ (nv d[j]!)).setCell ⟨b, j, none⟩ (nv d[i]!)).drew) b (Go.Sort.swp d i j) :=
  ((h.set hi _).set (by simpa using hj) _).drew
theorem On.swp (b : Nat) (w : World) (i j : Nat) (u v : Value) : On b w (((w.setCell ⟨b, i, none⟩ u).setCell ⟨b, j, none⟩ v).drew) :=
  ((On.set b i w u).trans (On.set b j _ v)).trans (On.drew b _)
/-- the cell that is stored at second -/
theorem Rw.mid {w : World} {b : Nat} {d : Array Nat} (h : Rw w b d) {i j : Nat} (hj : j < d.size) (u : Value) : ∃ z, (w.setCell ⟨b, i, none⟩ u).cell? ⟨b, j, none⟩ = some z := by
  by_cases e : i = j
  · subst e; exact ⟨_, cellSet_eq _ _ _ _ _ (h.c i hj)⟩
  · exact ⟨_, (cellSet_ne _ _ _ _ _ e).trans (h.c j hj)⟩

/-- what a call that sorts leaves -/
def Srt (w : World) (b : Nat) (d : Array Nat) (e : Ending) (w' : World) : Prop := e = .returned (.tuple #[]) ∧ On b w w' ∧ Rw w' b d

set_option maxHeartbeats 1000000 in
theorem isNaN_any (x : Nat) (w : World) : Calls Try.prog 54 #[nv x] w fun e w' => e = .returned (.bool false) ∧ w = w' := by
  go_enter Try.func54, Try.ntmps54
  go_wp2_with fail
  go_ret
  exact ⟨rfl, rfl⟩
set_option maxHeartbeats 1000000 in
theorem Less_any (x y : Nat) (w : World) : Calls Try.prog 44 #[nv x, nv y] w fun e w' => e = .returned (.bool (lt x y)) ∧ w = w' := by
  unfold lt
  go_enter Try.func44, Try.ntmps44
  go_wp2_with fail
  refine (isNaN_any x _).mono ?_
  rintro e w' ⟨rfl, rfl⟩
  go_wp2_with fail
  go_ret
  exact ⟨rfl, rfl⟩
end Go.Proofs.Yteglhcpochcopaa.srt
