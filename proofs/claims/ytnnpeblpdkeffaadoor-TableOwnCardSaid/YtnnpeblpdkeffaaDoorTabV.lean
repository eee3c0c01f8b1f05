/- Package table: New. (Printed by nw.py.) -/
import Derived.Test.YtnnpeblpdkeffaaDoorTabW
import Derived.Laws.AppendOwn
import Derived.RangeFuncBox
namespace Go.Proofs.YtnnpeblpdkeffaaDoor.table
open Go.RowKit Go

theorem infoRow : (Tryd.prog.info? 22).map (fun i => (i.zero, i.size, i.bytes)) = some (some (.slice none 0 0), 1, 24) := by kernel_rfl
def Rws (W : World) (n0 : Nat) (xL : List Value) (rows : List (List Nat)) : Prop := xL.length = rows.length ∧ ∀ (j : Nat) (row : List Nat), rows[j]? = some row → ∃ (va : Option Addr) (vc : Nat), xL[j]? = some (Value.slice va row.length vc) ∧ W.ownsRow n0 3 1 (.slice va row.length vc) row.length (intsV row)
def GoodK (n k : Nat) (rows : List (List Nat)) : Prop := rows.length = k ∧ ∀ (j : Nat) (row : List Nat), rows[j]? = some row → row.length = n + 1 - 2 ^ j ∧ ∀ x ∈ row, x < n
/-- a row of places -/
structure LW (n0 n q : Nat) (va : Option Addr) (vc : Nat) (rl : List Nat) (W : World) : Prop where
  len : rl.length = q
  own : W.ownsRow n0 3 1 (.slice va q vc) q (intsV rl)
  lt : ∀ x ∈ rl, x < n
theorem LW.up {n0 n q : Nat} {va : Option Addr} {vc : Nat} {rl : List Nat} {W W' : World} (h : LW n0 n q va vc rl W) (hb : Below W.heap.size W W') : LW n0 n q va vc rl W' := ⟨h.len, rowUp h.own hb, h.lt⟩
theorem LW.kr {n0 n q tb : Nat} {va : Option Addr} {vc : Nat} {rl : List Nat} {W W' : World} (h : LW n0 n q va vc rl W) (hb : KR n0 tb W W') : LW n0 n q va vc rl W' := ⟨h.len, rowKeep h.own hb.2.1 (by decide), h.lt⟩
theorem LW.reads {n0 n q : Nat} {va : Option Addr} {vc : Nat} {rl : List Nat} {W : World} (h : LW n0 n q va vc rl W) : Reads W va (ofN rl) := by
  have h1 : OwnI 3 W n0 (.slice va q vc) (ofN rl) := by
    unfold OwnI
    rw [ofN_length, h.len]
    exact h.own
  exact h1.reads
/-- the table, grown so far -/
structure BX (n0 tb n : Nat) (L : List Int) (w : World) (k : Nat) (la : Option Addr) (lc : Nat) (vL vM : Value) (xL xM : List Value) (rows : List (List Nat)) (W : World) : Prop where
  bel : Below n0 w W
  htb : n0 ≤ tb
  box : W.heap[tb]? = some (.cells #[.slice la n lc, vL, vM] 38 (0, 0))
  lst : OwnI 3 W n0 (.slice la n lc) L
  oL : W.ownsRow n0 22 1 vL k xL
  oM : W.ownsRow n0 22 1 vM k xM
  ne : ∀ g, vL.ownBlock = some g → vM.ownBlock ≠ some g
  rws : Rws W n0 xL rows
  gd : GoodK n k rows
theorem BX.up {n0 tb n : Nat} {L : List Int} {w : World} {k : Nat} {la : Option Addr} {lc : Nat} {vL vM : Value} {xL xM : List Value} {rows : List (List Nat)} {W W' : World} (h : BX n0 tb n L w k la lc vL vM xL xM rows W) (hb : Below W.heap.size W W') (hn : n0 ≤ W.heap.size) : BX n0 tb n L w k la lc vL vM xL xM rows W' :=
  ⟨h.bel.trans (hb.mono hn), h.htb, upb hb h.box, h.lst.up hb, rowUp h.oL hb, rowUp h.oM hb, h.ne, ⟨h.rws.1, fun j row hj => by
    obtain ⟨va, vc, e, ho⟩ := h.rws.2 j row hj
    exact ⟨va, vc, e, rowUp ho hb⟩⟩, h.gd⟩
theorem block_type {W : World} {B E n : Nat} {v : Value} {xs : List Value} (h : W.ownsRow B E 1 v n xs) {g : Nat} (hg : v.ownBlock = some g) {c : Array Value} {ty : Nat} {fz : Nat × Nat} (hc : W.heap[g]? = some (.cells c ty fz)) : ty = E := by
  rcases h.2 with ⟨e1, _⟩ | ⟨g', cap, cur, e1, _, e3, _⟩
  · rw [e1] at hg; cases hg
  · rw [e1] at hg
    have : g' = g := by injection hg
    subst this
    rw [e3] at hc
    injection hc with hc
    injection hc with _ h2 _
    exact h2.symm
theorem BX.fx {n0 tb n : Nat} {L : List Int} {w : World} {k : Nat} {la : Option Addr} {lc : Nat} {vL vM : Value} {xL xM : List Value} {rows : List (List Nat)} {W : World} (h : BX n0 tb n L w k la lc vL vM xL xM rows W) : FX n0 tb W.heap.size vL vM :=
  ⟨h.htb, (Array.getElem?_eq_some_iff.1 h.box).1, fun g hg => ⟨fun e => by subst e; have := block_type h.oL hg h.box; revert this; decide, own_lt h.oL hg⟩, fun g hg => ⟨fun e => by subst e; have := block_type h.oM hg h.box; revert this; decide, own_lt h.oM hg⟩, h.ne⟩
theorem BX.tl {n0 tb n : Nat} {L : List Int} {w : World} {k : Nat} {la : Option Addr} {lc : Nat} {vL vM : Value} {xL xM : List Value} {rows : List (List Nat)} {W : World} (h : BX n0 tb n L w k la lc vL vM xL xM rows W) (hn : n = L.length) : TL n0 tb n L W := by
  refine ⟨⟨la, lc, by simp [World.cell?, h.box], ?_⟩, hn.symm, h.htb⟩
  rcases h.lst.2 with ⟨_, e0⟩ | ⟨g, cap, cur, e1, hg, _⟩
  · exact .inl (List.eq_nil_of_length_eq_zero e0)
  · have e4 : la = some ⟨g, 0, none⟩ := by injection e1
    rcases h.lst.reads with h1 | ⟨b, o, e, h3⟩
    · exact .inl h1
    · rw [e4] at e
      cases e
      exact .inr ⟨_, _, e4, hg, h3⟩
theorem BX.step {n0 tb n q : Nat} {L : List Int} {w : World} {k : Nat} {la : Option Addr} {lc : Nat} {vL vM v8 v15 : Value} {xL xM : List Value} {rows : List (List Nat)} {wr W : World} {va vb : Option Addr} {vc vd : Nat} {rl : List Nat} (h : BX n0 tb n L w k la lc vL vM xL xM rows wr) (hl : LW n0 n q va vc rl wr) (hq : q = n + 1 - 2 ^ k) (hK : KR n0 tb wr W)
    (h8 : kApp n0 wr.heap.size (k + 1) vL (xL ++ [.slice va q vc]) v8 W) (h15 : kApp n0 wr.heap.size (k + 1) vM (xM ++ [.slice vb q vd]) v15 W) (hP : PrN v8 v15) (h18 : F1 tb v8 W) (h21 : F2 tb v15 W) :
    BX n0 tb n L w (k + 1) la lc v8 v15 (xL ++ [.slice va q vc]) (xM ++ [.slice vb q vd]) (rows ++ [rl]) W := by
  obtain ⟨y', z', e0⟩ := hK.2.2 _ _ _ h.box
  obtain ⟨x1, z1, e1⟩ := h18
  obtain ⟨x2, y2, e2⟩ := h21
  obtain ⟨_, _, _, o8, _⟩ := h8
  obtain ⟨_, _, _, o15, _⟩ := h15
  have q1 : v8 = y' := by rw [e0] at e1; simp at e1; exact e1.2.1.symm
  have q2 : v15 = z' := by rw [e0] at e2; simp at e2; exact e2.2.2.symm
  rw [← q1, ← q2] at e0
  have hl' := hl.kr hK
  refine ⟨h.bel.trans hK.1, h.htb, e0, rowKeep h.lst hK.2.1 (by decide), o8, o15, hP, ⟨by simp [h.rws.1], fun j row hj => ?_⟩, by simp [h.gd.1], fun j row hj => ?_⟩
  · by_cases hjr : j < rows.length
    · rw [List.getElem?_append_left hjr] at hj
      obtain ⟨va', vc', e, ho⟩ := h.rws.2 j row hj
      exact ⟨va', vc', by rw [List.getElem?_append_left (by rw [h.rws.1]; exact hjr)]; exact e, rowKeep ho hK.2.1 (by decide)⟩
    · rw [List.getElem?_append_right (by omega)] at hj
      have hj0 : j - rows.length = 0 := by have := (List.getElem?_eq_some_iff.1 hj).1; simpa using this
      rw [hj0] at hj
      simp at hj
      subst hj
      refine ⟨va, vc, ?_, ?_⟩
      · rw [List.getElem?_append_right (by rw [h.rws.1]; omega), h.rws.1, hj0, hl.len]
        rfl
      · rw [hl.len]
        exact hl'.own
  · by_cases hjr : j < rows.length
    · rw [List.getElem?_append_left hjr] at hj
      exact h.gd.2 j row hj
    · rw [List.getElem?_append_right (by omega)] at hj
      have hj0 : j - rows.length = 0 := by have := (List.getElem?_eq_some_iff.1 hj).1; simpa using this
      rw [hj0] at hj
      simp at hj
      subst hj
      have hjk : j = k := by have := h.gd.1; omega
      subst hjk
      exact ⟨by rw [hl.len, hq], hl.lt⟩
/-- a new table -/
def RetT (w : World) (n : Nat) (L : List Int) (e : Ending) (w' : World) : Prop := ∃ tb rows, e = .returned (.tuple #[.pointer (some ⟨tb, 0, none⟩), .nilIface]) ∧ TB w.heap.size tb n L rows w' ∧ Good n rows ∧ (∀ j, j < rows.length ↔ 2 ^ j ≤ n) ∧ Below w.heap.size w w'
theorem BX.done {n0 tb n : Nat} {L : List Int} {w : World} {k : Nat} {la : Option Addr} {lc : Nat} {vL vM : Value} {xL xM : List Value} {rows : List (List Nat)} {W : World} (h : BX n0 tb n L w k la lc vL vM xL xM rows W) (hn : n = L.length) (hn0 : n0 = w.heap.size) (hk1 : n < 2 ^ k) (hk2 : ∀ j, j < k → 2 ^ j ≤ n) : RetT w n L (.returned (.tuple #[.pointer (some ⟨tb, 0, none⟩), .nilIface])) W := by
  subst hn0
  obtain ⟨a, c, rfl⟩ := row_form h.oL
  have hkr := h.gd.1
  have hiff : ∀ j, j < rows.length ↔ 2 ^ j ≤ n := fun j => ⟨fun hj => hk2 j (by omega), fun hj => by
    rcases Nat.lt_or_ge j k with h1 | h1
    · omega
    · have := Nat.pow_le_pow_right (n := 2) (by decide) h1
      omega⟩
  refine ⟨tb, rows, rfl, ⟨h.tl hn, a, c, ?_, fun j row hj => ?_⟩, fun j hj => ?_, hiff, h.bel⟩
  · rw [hkr]; simp [World.cell?, h.box]
  · have hjl : j < k := by rw [← hkr]; exact (List.getElem?_eq_some_iff.1 hj).1
    obtain ⟨va, vc, e, ho⟩ := h.rws.2 j row hj
    obtain ⟨g, cap, e1, hbg, _⟩ := h.oL.form (by omega)
    have ea : a = some ⟨g, 0, none⟩ := by injection e1
    subst ea
    refine ⟨g, 0, va, vc, rfl, hbg, ?_, ?_⟩
    · have := World.ownsRow.cellAt h.oL j (by omega)
      rw [e] at this
      simpa using this
    · have hO : OwnI 3 W w.heap.size (.slice va row.length vc) (ofN row) := by
        unfold OwnI
        rw [ofN_length]
        exact ho
      rcases ho.2 with ⟨e2, e3⟩ | ⟨g2, cap2, cur2, e2, hb2, _⟩
      · left
        exact List.eq_nil_of_length_eq_zero (by rw [ofN_length]; exact e3)
      · have e4 : va = some ⟨g2, 0, none⟩ := by injection e2
        subst e4
        rcases hO.reads with h1 | ⟨b, o, e5, h6⟩
        · exact .inl h1
        · cases e5
          exact .inr ⟨_, _, rfl, hb2, h6⟩
  · have hjl := (hiff j).2 hj
    obtain ⟨row, hrow⟩ : ∃ row, rows[j]? = some row := ⟨_, List.getElem?_eq_getElem hjl⟩
    obtain ⟨h1, h2⟩ := h.gd.2 j row hrow
    exact ⟨row, hrow, by omega, h2⟩
end Go.Proofs.YtnnpeblpdkeffaaDoor.table
