/- Package bino in memory: forests of trees; link. -/
import Derived.Test.YtnigadnjppeckaaMore
import Derived.Test.YtnigadnjppeckaaTwo
import Derived.Test.YtnigadnjppeckaaRows
import Derived.Test.YtnigadnjppeckaaGather
import Derived.Test.YtnigadnjppeckaaAppRow
import Derived.Deep.QuietTactic
import Derived.Deep.RegionWith
import Derived.BigQuiet
import Derived.BigGuard
import Derived.ArgAppend
import Derived.Deep.Upon
import Derived.Lib.AppendZeros
import Derived.Test.YtnigadnjppeckaaGrow2
namespace Go.Proofs.Ytnigadnjppeckaa.bino
open Go.RowKit

theorem infoT : (Try.prog.info? 168).map (fun i => (i.zero, i.size, i.bytes)) = some (some (.pointer none), 1, 8) := by kernel_rfl
/-- a slice that reads as pointers -/
def RowR (B : Nat) (W : World) (v : Value) (ps : List (Option Addr)) : Prop :=
  ∃ a c, v = .slice a ps.length c ∧ ((a = none → c = 0) ∧ ps.length ≤ c) ∧ (ps = [] ∨ ∃ b o, a = some ⟨b, o, none⟩ ∧ (B ≤ b ∧ ∃ cs fz, W.heap[b]? = some (.cells cs 168 fz)) ∧ ∀ i, i < ps.length → W.cell? ⟨b, o + i, none⟩ = some (.pointer (ps.getD i none)))
theorem RowR.up {B : Nat} {W W' : World} {v : Value} {ps : List (Option Addr)} (h : RowR B W v ps) (hb : Below W.heap.size W W') : RowR B W' v ps := by
  obtain ⟨a, c, h1, h2, h3⟩ := h
  refine ⟨a, c, h1, h2, ?_⟩
  rcases h3 with h3 | ⟨b, o, h4, h5, h6⟩
  · exact .inl h3
  · exact .inr ⟨b, o, h4, ⟨h5.1, h5.2.imp fun cs h => h.imp fun fz h => upb hb h⟩, fun i hi => upc hb (h6 i hi)⟩
/-- a forest: (number, rank) of the first tree, its kids, the others -/
abbrev F := BT (Int × Int)
/-- these pointers lead to this forest, in blocks from B on -/
def Fo (B : Nat) (W : World) : List (Option Addr) → F → Prop
  | ps, .nil => ps = []
  | ps, .node a k s => ∃ b rest v kps, ps = some ⟨b, 0, none⟩ :: rest ∧ B ≤ b ∧ W.heap[b]? = some (.cells #[.int .i64 a.1, .int .i64 a.2, v] 170 (0, 0)) ∧ RowR B W v kps ∧ Fo B W kps k ∧ Fo B W rest s
theorem Fo.up {B : Nat} {W W' : World} (hb : Below W.heap.size W W') : ∀ {t : F} {ps : List (Option Addr)}, Fo B W ps t → Fo B W' ps t
  | .nil, _, h => h
  | .node _ _ _, _, ⟨b, rest, v, kps, h1, h2, h3, h4, h5, h6⟩ => ⟨b, rest, v, kps, h1, h2, upb hb h3, h4.up hb, Fo.up hb h5, Fo.up hb h6⟩
/-- how many trees -/
def flen : F → Nat
  | .nil => 0
  | .node _ _ s => flen s + 1
theorem Fo.len {B : Nat} {W : World} : ∀ {t : F} {ps : List (Option Addr)}, Fo B W ps t → ps.length = flen t
  | .nil, _, h => by rw [show _ = [] from h]; rfl
  | .node _ _ s, _, ⟨b, rest, v, kps, h1, _, _, _, _, h6⟩ => by rw [h1, List.length_cons, Fo.len h6]; rfl
theorem flen_size : ∀ t : F, flen t ≤ t.size
  | .nil => Nat.le_refl _
  | .node _ k s => by have := flen_size s; simp only [flen, BT.size]; omega
/-- one over the other -/
def over (a : Int × Int) (k : F) (a' : Int × Int) (k' : F) : F := .node (a.1, IntKind.i64.wrap (a.2 + 1)) (.node a' k' k) .nil
def lk (a : Int × Int) (k : F) (a' : Int × Int) (k' : F) : F := if a'.1 < a.1 then over a' k' a k else over a k a' k'
theorem lk_size (a : Int × Int) (k : F) (a' : Int × Int) (k' : F) : (lk a k a' k').size = k.size + k'.size + 2 := by
  unfold lk over
  split <;> simp only [BT.size] <;> omega
theorem lk_flen (a : Int × Int) (k : F) (a' : Int × Int) (k' : F) : flen (lk a k a' k') = 1 := by
  unfold lk over
  split <;> rfl

theorem addr_add (b o i : Nat) : (⟨b, o, none⟩ : Addr).add i = ⟨b, o + i, none⟩ := by unfold Addr.add; split <;> simp_all
theorem below_grown {W W' : World} (h : W.grownBy W' none) : Below W.heap.size W W' := ⟨h.os, h.tape, h.output, h.size, fun k hk => h.block k hk (by intro e; cases e)⟩
/-- append([]*tree{u}, v...): a row of the call's own, without room -/
theorem app_one (B : Nat) (W : World) (g : Nat) (u : Option Addr) (ps : List (Option Addr)) (v : Value) (ty : Nat) (hg : W.heap[g]? = some (.cells #[.pointer u] 168 (0, 0))) (hBg : B ≤ g) (hr : RowR B W v ps) (hn : ps.length ≤ 17592186044400) :
    ∃ v' W', (Builtin.append_ #[73, 73] ty #[.slice (some ⟨g, 0, none⟩) 1 1, v]).run Try.prog W = .ok v' W' ∧ RowR B W' v' (u :: ps) ∧ Below W.heap.size W W' := by
  obtain ⟨i0, hi, hz0, hz1, hz2⟩ := info_parts infoT
  have hgs : g < W.heap.size := (Array.getElem?_eq_some_iff.1 hg).1
  obtain ⟨a, c, rfl, ⟨hnone, hlc⟩, hrow⟩ := hr
  have c0 : W.cell? ⟨g, 0, none⟩ = some (.pointer u) := by simp [World.cell?, hg]
  by_cases hps : ps = []
  · subst hps
    have hs : Src Try.prog i0.size 73 (.slice a 0 c) 0 [] W := by
      cases a with
      | none => exact Src.ofNil (P := Try.prog) (w := W) Try.underlying73 c
      | some x => exact Src.ofSlice (P := Try.prog) (w := W) Try.underlying73 x 0 c [] (by simp) (fun j u h => by simp at h) (fun u h => by simp at h)
    refine ⟨_, _, run_append_nothing (P := Try.prog) W 73 73 ty 168 i0 Try.underlying73 hi (some ⟨g, 0, none⟩) 1 1 (Nat.le_refl _) (.slice a 0 c) hs, ⟨_, _, rfl, ⟨(fun h => by cases h), Nat.le_refl _⟩, .inr ⟨g, 0, rfl, ⟨hBg, _, _, hg⟩, fun i hi => ?_⟩⟩, Below.refl _ _⟩
    obtain rfl : i = 0 := by simpa using hi
    exact c0
  · rcases hrow with h | ⟨b, o, rfl, hBb, hc⟩
    · exact absurd h hps
    · have hpos : 0 < ps.length := List.length_pos_iff.2 hps
      have hnews : ∀ j y, (ps.map Value.pointer)[j]? = some y → W.cell? ((⟨b, o, none⟩ : Addr).add j) = some y := fun j y hj => by
        have hl : j < ps.length := by have := (List.getElem?_eq_some_iff.1 hj).1; simpa using this
        rw [addr_add, hc j hl]
        rw [List.getElem?_map, List.getElem?_eq_getElem hl] at hj
        simpa [List.getD_eq_getElem?_getD, hl] using hj
      obtain ⟨v', W', h1, h2, h3⟩ := run_append_arg_grows (P := Try.prog) (w := W) 73 ty 168 i0 (.pointer none) 1 8 Try.underlying73 hi hz0 hz1 hz2 rfl (by decide) ⟨g, 0, none⟩ 1 1 [.pointer u] rfl
        (fun j y hj => by
          cases j with
          | zero => rw [addr_add]; simp at hj; rw [← hj]; exact c0
          | succ j => simp at hj) ⟨b, o, none⟩ ps.length c (ps.map Value.pointer) (by simp) hnews (by omega) (by unfold maxLen; omega) (by omega)
      refine ⟨v', W', h1, ?_, below_grown h3⟩
      rcases h2.2 with ⟨_, h0⟩ | ⟨g', cap, cur, hv, hg', hk', hle, _, _, _⟩
      · omega
      · have hBg' : B ≤ g' := by omega
        refine ⟨some ⟨g', 0, none⟩, cap, by rw [hv, List.length_cons, Nat.add_comm], ⟨(fun h => by cases h), by rw [List.length_cons]; omega⟩, .inr ⟨g', 0, rfl, ⟨hBg', _, _, hk'⟩, fun i hi => ?_⟩⟩
        have hcell := World.ownsRow.cells h2 (g := g') (by rw [hv]; rfl) i (.pointer ((u :: ps).getD i none)) (by
          cases i with
          | zero => rfl
          | succ i =>
            have hl : i < ps.length := by simpa using hi
            simp [List.getD_eq_getElem?_getD, hl])
        rw [addr_add] at hcell
        exact hcell
end Go.Proofs.Ytnigadnjppeckaa.bino
