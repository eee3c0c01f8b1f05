/- Package table: what the region of New in which both rows of rows grow keeps. -/
import Derived.Test.YtnnpeblpdkeffaaDoorTabN
import Derived.Test.YtnnpeblpdkeffaaDoorGrowL
import Derived.Test.YtnnpeblpdkeffaaDoorKeepT
import Derived.Test.YtnnpeblpdkeffaaDoorCloneI
import Derived.Deep.AppendLies
namespace Go.Proofs.YtnnpeblpdkeffaaDoor.table
open Go.RowKit Go

def intsV (row : List Nat) : List Value := (ofN row).map (Value.int .i64)
theorem rowKeep1 {W W' : World} {base e size n : Nat} {v : Value} {xs : List Value} (h : W.ownsRow base e size v n xs) (hk : ∀ g, v.ownBlock = some g → W'.heap[g]? = W.heap[g]?) : W'.ownsRow base e size v n xs := by
  refine ⟨h.1, ?_⟩
  rcases h.2 with h' | ⟨g, cap, cur, e1, e2, e3, r⟩
  · exact .inl h'
  · exact .inr ⟨g, cap, cur, e1, e2, (hk g (by rw [e1]; rfl)).trans e3, r⟩
/-- the one field of the box that stays, and all blocks of other types -/
def KR (n0 tb : Nat) (u v : World) : Prop := Below n0 u v ∧ KeepT [22, 38] u v ∧ ∀ x y z, u.heap[tb]? = some (.cells #[x, y, z] 38 (0, 0)) → ∃ y' z', v.heap[tb]? = some (.cells #[x, y', z'] 38 (0, 0))
theorem KR.trans {n0 tb : Nat} (u v x : World) (h : KR n0 tb u v) (h' : KR n0 tb v x) : KR n0 tb u x := ⟨h.1.trans h'.1, h.2.1.trans h'.2.1, fun a b c e => by
  obtain ⟨b', c', e'⟩ := h.2.2 a b c e
  exact h'.2.2 _ _ _ e'⟩
theorem KR.of {n0 tb : Nat} {u v : World} (hb : Below u.heap.size u v) (hn : n0 ≤ u.heap.size) : KR n0 tb u v := ⟨hb.mono hn, KeepT.of hb, fun _ b c e => ⟨b, c, upb hb e⟩⟩
theorem KR.drew {n0 tb : Nat} (u : World) : KR n0 tb u u.drew := ⟨(Below.refl _ _).drew, fun _ _ _ _ h _ => h, fun _ b c e => ⟨b, c, e⟩⟩
theorem set1 {w : World} {b : Nat} {x y z v : Value} {t : Nat} (h : w.heap[b]? = some (.cells #[x, y, z] t (0, 0))) : (w.setCell ⟨b, 1, none⟩ v).heap[b]? = some (.cells #[x, v, z] t (0, 0)) := by
  simp [World.setCell, Array.getElem?_modify, h]
theorem set2 {w : World} {b : Nat} {x y z v : Value} {t : Nat} (h : w.heap[b]? = some (.cells #[x, y, z] t (0, 0))) : (w.setCell ⟨b, 2, none⟩ v).heap[b]? = some (.cells #[x, y, v] t (0, 0)) := by
  simp [World.setCell, Array.getElem?_modify, h]
theorem KR.set1 {n0 tb : Nat} {u : World} {x y z : Value} (v : Value) (h : u.heap[tb]? = some (.cells #[x, y, z] 38 (0, 0))) (hn : n0 ≤ tb) : KR n0 tb u (u.setCell ⟨tb, 1, none⟩ v) :=
  ⟨(Below.refl _ _).setCell (p := ⟨tb, 1, none⟩) hn _, KeepT.set (a := ⟨tb, 1, none⟩) h (by decide) v, fun _ _ c e => ⟨v, c, table.set1 e⟩⟩
theorem KR.set2 {n0 tb : Nat} {u : World} {x y z : Value} (v : Value) (h : u.heap[tb]? = some (.cells #[x, y, z] 38 (0, 0))) (hn : n0 ≤ tb) : KR n0 tb u (u.setCell ⟨tb, 2, none⟩ v) :=
  ⟨(Below.refl _ _).setCell (p := ⟨tb, 2, none⟩) hn _, KeepT.set (a := ⟨tb, 2, none⟩) h (by decide) v, fun _ b _ e => ⟨b, v, table.set2 e⟩⟩
/-- all blocks but one -/
def Ch (o : Option Nat) (W W' : World) : Prop := W.heap.size ≤ W'.heap.size ∧ ∀ b, b < W.heap.size → o ≠ some b → W'.heap[b]? = W.heap[b]?
theorem Ch.of {W W' : World} (h : Below W.heap.size W W') : Ch none W W' := ⟨h.size, fun b hb _ => h.block b hb⟩
theorem Ch.grown {W W' : World} {o : Option Nat} (h : W.grownBy W' o) : Ch o W W' := ⟨h.size, fun b hb hn => h.block b hb fun e => hn e.symm⟩
theorem KR.grown {n0 tb n : Nat} {W W' : World} {v : Value} {xs : List Value} (hown : W.ownsRow n0 22 1 v n xs) (hg : W.grownBy W' v.ownBlock) (hn : n0 ≤ W.heap.size) (ht : ∀ g, v.ownBlock = some g → g ≠ tb) : KR n0 tb W W' := by
  refine ⟨Below.grown (Below.refl _ _) hg hn (fun b hb => (World.ownsRow.lt hown b hb).1), ?_, ?_⟩
  · intro k c ty fz hk hnt
    have hb := (Array.getElem?_eq_some_iff.1 hk).1
    refine (hg.block k hb ?_).trans hk
    intro e
    rcases hown.2 with ⟨rfl, _⟩ | ⟨g, cap, cur, rfl, _, hgc, _⟩
    · cases e
    · cases e
      rw [hgc] at hk
      cases hk
      simp at hnt
  · intro x y z h
    refine ⟨y, z, (hg.block tb (Array.getElem?_eq_some_iff.1 h).1 ?_).trans h⟩
    intro e
    exact ht tb e.symm rfl
/-- the region's fixed numbers -/
structure FX (n0 tb H : Nat) (vL vM : Value) : Prop where
  hn : n0 ≤ tb
  ht : tb < H
  hL : ∀ g, vL.ownBlock = some g → g ≠ tb ∧ g < H
  hM : ∀ g, vM.ownBlock = some g → g ≠ tb ∧ g < H
  ne : ∀ g, vL.ownBlock = some g → vM.ownBlock ≠ some g
def Sp (tb : Nat) (vL vM : Value) (W W' : World) : Nat → Prop
  | 8 => Ch vL.ownBlock W W'
  | 15 => Ch vM.ownBlock W W'
  | 18 => ∃ v, W' = W.setCell ⟨tb, 1, none⟩ v
  | 21 => ∃ v, W' = W.setCell ⟨tb, 2, none⟩ v
  | _ => Ch none W W'
def RsN (n0 tb : Nat) (vL vM : Value) (i : Nat) (W W' : World) : Prop := KR n0 tb W W' ∧ Sp tb vL vM W W' i
theorem Sp.kept {tb : Nat} {vL vM : Value} {W W' : World} {j : Nat} (h : Sp tb vL vM W W' j) {b : Nat} (hb : b < W.heap.size) (ht : (j = 18 ∨ j = 21) → b ≠ tb) (h8 : j = 8 → vL.ownBlock ≠ some b) (h15 : j = 15 → vM.ownBlock ≠ some b) : W'.heap[b]? = W.heap[b]? := by
  unfold Sp at h
  split at h
  · exact h.2 b hb (h8 rfl)
  · exact h.2 b hb (h15 rfl)
  · obtain ⟨v, rfl⟩ := h
    exact Below.heap_setCell _ _ _ _ (ht (.inl rfl))
  · obtain ⟨v, rfl⟩ := h
    exact Below.heap_setCell _ _ _ _ (ht (.inr rfl))
  · exact h.2 b hb (by simp)
def F1 (tb : Nat) (v : Value) (W : World) : Prop := ∃ x z, W.heap[tb]? = some (.cells #[x, v, z] 38 (0, 0))
def F2 (tb : Nat) (v : Value) (W : World) : Prop := ∃ x y, W.heap[tb]? = some (.cells #[x, y, v] 38 (0, 0))
theorem F1.kept {n0 tb H : Nat} {vL vM v : Value} (hF : FX n0 tb H vL vM) {W W' : World} {j : Nat} (h : RsN n0 tb vL vM j W W') (hj : j ≠ 18) (hf : F1 tb v W) : F1 tb v W' := by
  obtain ⟨x, z, e⟩ := hf
  by_cases h21 : j = 21
  · subst h21
    obtain ⟨u, rfl⟩ := h.2
    exact ⟨x, u, set2 e⟩
  · exact ⟨x, z, (h.2.kept (Array.getElem?_eq_some_iff.1 e).1 (by omega) (fun _ e => (hF.hL _ e).1 rfl) (fun _ e => (hF.hM _ e).1 rfl)).trans e⟩
theorem F2.kept {n0 tb H : Nat} {vL vM v : Value} (hF : FX n0 tb H vL vM) {W W' : World} {j : Nat} (h : RsN n0 tb vL vM j W W') (hj : j ≠ 21) (hf : F2 tb v W) : F2 tb v W' := by
  obtain ⟨x, z, e⟩ := hf
  by_cases h18 : j = 18
  · subst h18
    obtain ⟨u, rfl⟩ := h.2
    exact ⟨x, u, set1 e⟩
  · exact ⟨x, z, (h.2.kept (Array.getElem?_eq_some_iff.1 e).1 (by omega) (fun _ e => (hF.hL _ e).1 rfl) (fun _ e => (hF.hM _ e).1 rfl)).trans e⟩
theorem own_lt {W : World} {base e size n : Nat} {v : Value} {xs : List Value} (h : W.ownsRow base e size v n xs) {g : Nat} (hg : v.ownBlock = some g) : g < W.heap.size := (World.ownsRow.lt h g hg).2
def IN (n0 tb k : Nat) (vL vM : Value) (xL xM : List Value) (r : Nat) (W : World) : Prop := match r with
  | 0 => W.ownsRow n0 22 1 vL k xL
  | 1 => W.ownsRow n0 22 1 vM k xM
  | 2 => F1 tb vL W
  | 3 => F2 tb vM W
  | _ => True
def ciN : Nat → Nat
  | 0 => 8
  | 1 => 15
  | 2 => 18
  | 3 => 21
  | r => r + 100
theorem IN.mono {n0 tb H k : Nat} {vL vM : Value} {xL xM : List Value} (hF : FX n0 tb H vL vM) (r j : Nat) (W W' : World) (hne : ciN r ≠ j) (h : RsN n0 tb vL vM j W W') (hi : IN n0 tb k vL vM xL xM r W) : IN n0 tb k vL vM xL xM r W' := by
  match r with
  | 0 =>
    have hi' : W.ownsRow n0 22 1 vL k xL := hi
    exact rowKeep1 hi' fun g hg => h.2.kept (own_lt hi' hg) (fun _ => (hF.hL g hg).1) (fun e => absurd e.symm hne) (fun _ => hF.ne g hg)
  | 1 =>
    have hi' : W.ownsRow n0 22 1 vM k xM := hi
    exact rowKeep1 hi' fun g hg => h.2.kept (own_lt hi' hg) (fun _ => (hF.hM g hg).1) (fun _ e => hF.ne g e hg) (fun e => absurd e.symm hne)
  | 2 => exact F1.kept hF h (fun e => hne e.symm) hi
  | 3 => exact F2.kept hF h (fun e => hne e.symm) hi
  | r + 4 => exact trivial
def LkN (tb : Nat) (i : Nat) (v : Value) (W : World) : Prop := match i with
  | 18 => F1 tb v W
  | 21 => F2 tb v W
  | _ => True
def ldN : Nat → Nat
  | 18 => 8
  | 21 => 15
  | r => r + 100
theorem ldN_ne (i : Nat) : ldN i ≠ i := by unfold ldN; split <;> omega
theorem ldN_of {i : Nat} (h : ldN i < 22) : i = 18 ∨ i = 21 := by
  unfold ldN at h
  split at h
  · exact .inl rfl
  · exact .inr rfl
  · omega
theorem LkN.mono {n0 tb H : Nat} {vL vM : Value} (hF : FX n0 tb H vL vM) (i j : Nat) (v : Value) (W W' : World) (hne : i ≠ j) (h : RsN n0 tb vL vM j W W') (hl : LkN tb i v W) : LkN tb i v W' := by
  by_cases h18 : i = 18
  · subst h18
    exact F1.kept hF h (Ne.symm hne) hl
  · by_cases h21 : i = 21
    · subst h21
      exact F2.kept hF h (Ne.symm hne) hl
    · unfold LkN
      split
      · exact absurd rfl h18
      · exact absurd rfl h21
      · exact trivial
/-- the literal of one row -/
def kLit (H : Nat) (r : Value) (v : Value) (W : World) : Prop := ∃ g, v = .slice (some ⟨g, 0, none⟩) 1 1 ∧ H ≤ g ∧ W.heap[g]? = some (.cells #[r] 22 (0, 0))
theorem kLit.kept {n0 tb H : Nat} {vL vM r v : Value} (hF : FX n0 tb H vL vM) {W W' : World} {j : Nat} (h : RsN n0 tb vL vM j W W') (hk : kLit H r v W) : kLit H r v W' := by
  obtain ⟨g, e, hg, hc⟩ := hk
  have ht := hF.ht
  exact ⟨g, e, hg, (h.2.kept (Array.getElem?_eq_some_iff.1 hc).1 (by omega) (fun _ e => by have := (hF.hL _ e).2; omega) (fun _ e => by have := (hF.hM _ e).2; omega)).trans hc⟩
/-- the row of rows, grown -/
def kApp (n0 H n : Nat) (v0 : Value) (xs : List Value) (v : Value) (W : World) : Prop := ∃ g cap, v = .slice (some ⟨g, 0, none⟩) n cap ∧ W.ownsRow n0 22 1 v n xs ∧ (v0.ownBlock = some g ∨ H ≤ g)
theorem kApp.keptL {n0 tb H n : Nat} {vL vM v : Value} {xs : List Value} (hF : FX n0 tb H vL vM) {W W' : World} {j : Nat} (hj : j ≠ 8) (h : RsN n0 tb vL vM j W W') (hk : kApp n0 H n vL xs v W) : kApp n0 H n vL xs v W' := by
  obtain ⟨g, cap, e, ho, hg⟩ := hk
  refine ⟨g, cap, e, rowKeep1 ho fun g' hg' => ?_, hg⟩
  have hgg : g' = g := by rw [e] at hg'; cases hg'; rfl
  subst hgg
  have ht := hF.ht
  refine h.2.kept (own_lt ho hg') (fun _ => ?_) (fun e => absurd e hj) (fun _ e => ?_)
  · rcases hg with hg | hg
    · exact (hF.hL _ hg).1
    · omega
  · rcases hg with hg | hg
    · exact hF.ne _ hg e
    · have := (hF.hM _ e).2; omega
theorem kApp.keptM {n0 tb H n : Nat} {vL vM v : Value} {xs : List Value} (hF : FX n0 tb H vL vM) {W W' : World} {j : Nat} (hj : j ≠ 15) (h : RsN n0 tb vL vM j W W') (hk : kApp n0 H n vM xs v W) : kApp n0 H n vM xs v W' := by
  obtain ⟨g, cap, e, ho, hg⟩ := hk
  refine ⟨g, cap, e, rowKeep1 ho fun g' hg' => ?_, hg⟩
  have hgg : g' = g := by rw [e] at hg'; cases hg'; rfl
  subst hgg
  have ht := hF.ht
  refine h.2.kept (own_lt ho hg') (fun _ => ?_) (fun _ e => ?_) (fun e => absurd e hj)
  · rcases hg with hg | hg
    · exact (hF.hM _ hg).1
    · omega
  · rcases hg with hg | hg
    · exact hF.ne _ e hg
    · have := (hF.hL _ e).2; omega
def PrN (v u : Value) : Prop := ∀ g, v.ownBlock = some g → u.ownBlock ≠ some g
theorem PrN.ofL {n0 tb H n : Nat} {vL vM u : Value} {xs : List Value} (hF : FX n0 tb H vL vM) {W : World} (hk : kApp n0 H n vM xs u W) {g m c : Nat} (hg : vL.ownBlock = some g ∨ g = W.heap.size) : PrN (.slice (some ⟨g, 0, none⟩) m c) u := by
  intro g' e1 e2
  obtain ⟨g2, cap, rfl, ho, hg2⟩ := hk
  have hlt : g2 < W.heap.size := own_lt ho rfl
  have q1 : g = g' := by injection e1
  have q2 : g2 = g' := by injection e2
  subst q1
  subst q2
  rcases hg with hg | hg
  · rcases hg2 with hg2 | hg2
    · exact hF.ne _ hg hg2
    · have := (hF.hL _ hg).2; omega
  · omega
theorem PrN.ofM {n0 tb H n : Nat} {vL vM u : Value} {xs : List Value} (hF : FX n0 tb H vL vM) {W : World} (hk : kApp n0 H n vL xs u W) {g m c : Nat} (hg : vM.ownBlock = some g ∨ g = W.heap.size) : PrN u (.slice (some ⟨g, 0, none⟩) m c) := by
  intro g' e1 e2
  obtain ⟨g2, cap, rfl, ho, hg2⟩ := hk
  have hlt : g2 < W.heap.size := own_lt ho rfl
  have q1 : g = g' := by injection e2
  have q2 : g2 = g' := by injection e1
  subst q1
  subst q2
  rcases hg with hg | hg
  · rcases hg2 with hg2 | hg2
    · exact hF.ne _ hg2 hg
    · have := (hF.hM _ hg).2; omega
  · omega
end Go.Proofs.YtnnpeblpdkeffaaDoor.table
