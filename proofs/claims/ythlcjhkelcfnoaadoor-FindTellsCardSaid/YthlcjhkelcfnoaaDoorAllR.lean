/- A row of lists of numbers that a call keeps (all versions). -/
import Derived.Test.YthlcjhkelcfnoaaDoorPutR
import Derived.Test.YthlcjhkelcfnoaaDoorKeep
namespace Go.Proofs.YthlcjhkelcfnoaaDoor
open Go.RowKit
theorem infoRI : (Tryd.prog.info? 22).map (fun i => (i.zero, i.size, i.bytes)) = some (some (.slice none 0 0), 1, 24) := by kernel_rfl
def AllR (W : World) (B N : Nat) (L : List (List Int)) (v : Value) : Prop :=
  ∃ cs, W.ownsRow B 22 1 v L.length cs ∧ ∀ j, j < L.length → ∃ a c, cs[j]? = some (.slice a N c) ∧ OwnI 3 W B (.slice a N c) (L.getD j [])
theorem AllR.keep {T : List Nat} {W W' : World} {B N : Nat} {L : List (List Int)} {v : Value} (h : AllR W B N L v) (hk : KeepT T W W') (h1 : 22 ∉ T) (h2 : 3 ∉ T) : AllR W' B N L v := by
  obtain ⟨cs, ho, hc⟩ := h
  refine ⟨cs, rowKeep ho hk h1, fun j hj => ?_⟩
  obtain ⟨a, c, h3, h4⟩ := hc j hj
  exact ⟨a, c, h3, h4.keep hk h2⟩
theorem AllR.up {W W' : World} {B N : Nat} {L : List (List Int)} {v : Value} (h : AllR W B N L v) (hb : Below W.heap.size W W') : AllR W' B N L v := h.keep (T := []) (KeepT.of hb) (by simp) (by simp)
theorem AllR.at {W : World} {B N : Nat} {L : List (List Int)} {v : Value} (h : AllR W B N L v) {k : Nat} (hk : k < L.length) :
    ∃ g cap a c, v = .slice (some ⟨g, 0, none⟩) L.length cap ∧ W.cell? ⟨g, k, none⟩ = some (.slice a N c) ∧ OwnI 3 W B (.slice a N c) (L.getD k []) := by
  obtain ⟨cs, ho, hc⟩ := h
  obtain ⟨a, c, h3, h4⟩ := hc k hk
  rcases ho.2 with ⟨_, h0⟩ | ⟨g, cap, cur, hv, _⟩
  · omega
  · subst hv
    exact ⟨g, cap, a, c, rfl, by rw [World.ownsRow.cellAt ho k (by omega)]; exact h3, h4⟩
theorem AllR.form {W : World} {B N : Nat} {L : List (List Int)} {v : Value} (h : AllR W B N L v) : ∃ a cap, v = .slice a L.length cap := by
  obtain ⟨cs, ho, _⟩ := h
  rcases ho.2 with ⟨hv, h0⟩ | ⟨g, cap, cur, hv, _⟩
  · exact ⟨none, 0, by rw [hv, h0]⟩
  · exact ⟨_, cap, hv⟩
theorem AllR.app {W W' : World} {B N : Nat} {L : List (List Int)} {v' : Value} {cs : List Value} {xs : List Int} {a : Option Addr} {c : Nat}
    (hc : ∀ j, j < L.length → ∃ a c, cs[j]? = some (.slice a N c) ∧ OwnI 3 W B (.slice a N c) (L.getD j [])) (hl : cs.length = L.length)
    (hx : OwnI 3 W B (.slice a N c) xs) (hk : KeepT [22] W W') (ho : W'.ownsRow B 22 1 v' (L.length + 1) (cs ++ [.slice a N c])) : AllR W' B N (L ++ [xs]) v' := by
  refine ⟨cs ++ [.slice a N c], by rw [List.length_append, List.length_singleton]; exact ho, fun j hj => ?_⟩
  rw [List.length_append, List.length_singleton] at hj
  by_cases h : j < L.length
  · obtain ⟨a1, c1, h1, h2⟩ := hc j h
    refine ⟨a1, c1, by rw [List.getElem?_append_left (by omega)]; exact h1, ?_⟩
    rw [List.getD_eq_getElem?_getD, List.getElem?_append_left h, ← List.getD_eq_getElem?_getD]
    exact h2.keep hk (by decide)
  · have e : j = L.length := by omega
    subst e
    refine ⟨a, c, by rw [← hl]; simp, ?_⟩
    rw [List.getD_eq_getElem?_getD, List.getElem?_append_right (Nat.le_refl _)]
    simpa using hx.keep hk (by decide)
end Go.Proofs.YthlcjhkelcfnoaaDoor
