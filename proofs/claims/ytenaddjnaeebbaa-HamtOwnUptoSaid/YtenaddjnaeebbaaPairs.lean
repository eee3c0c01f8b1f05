/- The pairs of a list: each number with its place; a loop that writes into a row of pairs. -/
import Derived.Test.YtenaddjnaeebbaaKeyed
import Derived.Laws.OwnMore
namespace Go.Proofs.Ytenaddjnaeebbaa
open Go.RowKit

def pairsF : Nat → List Int → List (Int × Int)
  | _, [] => []
  | i, x :: t => (x, (i : Int) + 1) :: pairsF (i + 1) t
theorem pairsF_snoc (l : List Int) (x : Int) : ∀ i, pairsF i (l ++ [x]) = pairsF i l ++ [(x, ((i + l.length : Nat) : Int) + 1)] := by
  induction l with
  | nil => intro i; rfl
  | cons y t ih =>
    intro i
    simp only [List.cons_append, pairsF, ih, List.length_cons]
    rw [show i + 1 + t.length = i + (t.length + 1) by omega]
def pairsOf (l : List Int) : List (Int × Int) := pairsF 0 l
theorem pairsF_length (l : List Int) : ∀ i, (pairsF i l).length = l.length := by
  induction l with
  | nil => intro i; rfl
  | cons y t ih => intro i; simp only [pairsF, List.length_cons, ih]
theorem pairsOf_length (l : List Int) : (pairsOf l).length = l.length := pairsF_length l 0
theorem pairsOf_snoc (l : List Int) (j : Nat) (h : j < l.length) : pairsOf (l.take (j + 1)) = pairsOf (l.take j) ++ [(l.getD j 0, (j : Int) + 1)] := by
  unfold pairsOf
  rw [List.take_succ_eq_append_getElem h, pairsF_snoc, List.length_take, Nat.min_eq_left (Nat.le_of_lt h)]
  simp [List.getD_eq_getElem?_getD, h]
theorem pairsF_keys (l : List Int) (t : Int → Prop) (h : ∀ x ∈ l, t x) : ∀ i, ∀ p ∈ pairsF i l, t p.1 := by
  induction l with
  | nil => intro i p hp; cases hp
  | cons y l ih =>
    intro i p hp
    rcases List.mem_cons.1 hp with rfl | hp
    · exact h _ List.mem_cons_self
    · exact ih (fun x hx => h x (List.mem_cons_of_mem _ hx)) _ p hp

set_option maxHeartbeats 2000000 in
theorem pairs_row (a : Option Addr) (c n : Nat) (l : List Int) (w : World) (hl : l.length = n) (hn : n ≤ 4398046511104) (hr : Reads w a l) :
    Calls Try.prog 11 #[.slice a n c] w (RetL w n (pairsOf l)) := by
  obtain ⟨i0, hi, hz0, hz1, hz2⟩ := info_parts infoP
  have HR := Lib.hid (And.intro hr hl)
  have Hi := Lib.hid (And.intro hi (And.intro hz0 (And.intro hz1 hz2)))
  have HS0 : Hid (Gath w (.slice none 0 0) (pairsOf (l.take 0)) w) := Lib.hid (Gath.start w)
  clear hr hl hi hz0 hz1 hz2
  go_enter Try.func11, Try.ntmps11
  go_wp2_with fail
  go_loopw [3, 4] (fun ov iv wr => ∃ (j : Nat) (ow : Value), ow = ov ∧ iv = .int .i64 j ∧ j ≤ n ∧ Hid (Gath w ow (pairsOf (l.take j)) wr)) (fun _ iv _ => n - (intOf iv).toNat)
  case atStart => exact ⟨0, _, rfl, rfl, Nat.zero_le _, HS0⟩
  case round =>
    obtain ⟨j, ow, rfl, rfl, hj, HG⟩ := hrel
    have j0 : (0 : Int) ≤ (j : Int) := by omega
    by_cases hlt : j < n
    · obtain ⟨b, o, rfl, q1⟩ : ∃ b o, a = some ⟨b, o, none⟩ ∧ wr.cell? ⟨b, o + j, none⟩ = some (.int .i64 (l.getD j 0)) := by
        rcases HR.out.1.up HG.out.bel with h | ⟨b, o, ha, hc⟩
        · have h2 := HR.out.2; rw [h] at h2; simp at h2; omega
        · exact ⟨b, o, ha, hc j (by rw [HR.out.2]; exact hlt)⟩
      have j1 : (j : Int) < (n : Int) := by omega
      have hsn := pairsOf_snoc l j (by rw [HR.out.2]; exact hlt)
      obtain ⟨y, hy⟩ : ∃ y, y = l.getD j 0 := ⟨_, rfl⟩
      rw [← hy] at q1 hsn
      obtain ⟨ys, hys⟩ : ∃ ys, ys = pairsOf (l.take j) := ⟨_, rfl⟩
      have hln : ys.length ≤ j := by rw [hys, pairsOf_length]; exact List.length_take_le _ _
      rw [← hys] at HG hsn
      have HS := Lib.hid hsn
      have q1' := upc (belowAlloc wr (.cells #[.int .i64 y, .int .i64 ((j : Int) + 1)] 31)) q1
      have hown : wr.ownsRow w.heap.size 31 2 ow ys.length (cellsP ys) := HG.out.own
      have Ho := Lib.hid hown
      have Hb := Lib.hid HG.out.bel
      clear hown hsn hys hy
      go_wp2_with (at_builtin; obtain ⟨hi, hz0, hz1, hz2⟩ := Hi.out; refine wpList_append_own _ rfl (.tmp 11) (.tmp 19) 28 rfl w.heap.size 31 i0 (.agg #[.int .i64 0, .int .i64 0]) 2 16 Try.underlying28 hi hz0 hz1 hz2 rfl (by decide) ow _ _ rfl (Ho.out.alloc _) ⟨wr.heap.size, 0, none⟩ 1 1 [.int .i64 y, .int .i64 ((j : Int) + 1)] rfl rfl ?c1 ?c2 ?c3 ?c4 ?c5 ?_)
      case c1 => exact World.news_of_block (cs := #[.int .i64 y, .int .i64 ((j : Int) + 1)]) (t := 31) (fr := (0, 0)) (heap_alloc_new _ _)
      case c2 => simp [Value.oneCell']
      case c3 => unfold maxLen; omega
      case c4 => omega
      case c5 => have := Hb.out.size; simp; omega
      intro v' w1 hown1 hgrow _
      have HG1 := Lib.hid (HG.out.app (p := (y, (j : Int) + 1)) hown1 hgrow)
      clear hown1 hgrow q1' q1
      go_wp2_with fail
      go_roundw
      case rel => exact ⟨j + 1, _, rfl, by go_num, hlt, by rw [HS.out]; exact HG1⟩
      case measure => simp [intOf]; omega
    · obtain rfl : n = j := by omega
      have HF : Hid (Gath w ow (pairsOf l) wr) := by
        have h := HG.out
        rw [List.take_of_length_le (by rw [HR.out.2]; exact Nat.le_refl _)] at h
        exact Lib.hid h
      clear HG
      have HN : Hid ((pairsOf l).length = n) := Lib.hid (by rw [pairsOf_length]; exact HR.out.2)
      go_wp2_with fail
      go_ret
      exact RetL.mk HF.out HN.out

/-- wr is w but for what the own row v holds -/
structure FilledR (E s B : Nat) (v : Value) (n : Nat) (w wr : World) : Prop where
  os : wr.os = w.os
  tape : wr.tape = w.tape
  output : wr.output = w.output
  size : wr.heap.size = w.heap.size
  block : ∀ b, v.ownBlock ≠ some b → wr.heap[b]? = w.heap[b]?
  own : ∃ ys, wr.ownsRow B E s v n ys
theorem FilledR.start {E s B : Nat} {v : Value} {n : Nat} {w : World} {ys : List Value} (h : w.ownsRow B E s v n ys) : FilledR E s B v n w w := ⟨rfl, rfl, rfl, rfl, fun _ _ => rfl, ys, h⟩
theorem FilledR.step {E s B g c : Nat} {n : Nat} {w wr : World} (h : FilledR E s B (.slice (some ⟨g, 0, none⟩) n c) n w wr) (k : Nat) (u : Value) : FilledR E s B (.slice (some ⟨g, 0, none⟩) n c) n w (wr.setCell ⟨g, k, none⟩ u) := by
  obtain ⟨ys, ho⟩ := h.own
  refine ⟨h.os, h.tape, h.output, by rw [← h.size]; simp [World.setCell], fun b hb => ?_, _, (ho.stored k u).1⟩
  rw [Below.heap_setCell _ _ _ _ (fun e => hb (by rw [e]; rfl))]
  exact h.block b hb
theorem FilledR.cell {E s B g c : Nat} {n : Nat} {w wr : World} (h : FilledR E s B (.slice (some ⟨g, 0, none⟩) n c) n w wr) (k : Nat) (hk : k < n * s) : ∃ u, wr.cell? ⟨g, k, none⟩ = some u ∧ wr.frozen? ⟨g, k, none⟩ = false := by
  obtain ⟨ys, ho⟩ := h.own
  have h1 := ho.cellAt k hk
  have h2 : k < ys.length := by rw [ho.1]; exact hk
  exact ⟨ys[k], by rw [h1]; simp [h2], ho.frozenAt k⟩
theorem FilledR.below {E s B D n : Nat} {v : Value} {w0 w wr : World} (h : FilledR E s B v n w wr) (hb : Below D w0 w) (hv : ∀ b, v.ownBlock = some b → D ≤ b) : Below D w0 wr :=
  ⟨h.os.trans hb.os, h.tape.trans hb.tape, h.output.trans hb.output, by rw [h.size]; exact hb.size, fun k hk => (h.block k (fun e => by have := hv k e; omega)).trans (hb.block k hk)⟩
theorem FilledR.old {E s B n : Nat} {v : Value} {w wr : World} (h : FilledR E s B v n w wr) (w0 : World) (hb : Below w0.heap.size w0 w) (hv : ∀ b, v.ownBlock = some b → w0.heap.size ≤ b) : Below w0.heap.size w0 wr := h.below hb hv
end Go.Proofs.Ytenaddjnaeebbaa
