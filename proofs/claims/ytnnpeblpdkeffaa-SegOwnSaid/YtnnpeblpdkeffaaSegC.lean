/- Package seg: change of all numbers, told of one of them. -/
import Derived.Test.YtnnpeblpdkeffaaSegU
namespace Go.Proofs.Ytnnpeblpdkeffaa.seg
open Go.RowKit Go

/-- what a call under a place leaves behind: the place tells vs, what lies elsewhere stays -/
def RetV (s pb M n a : Nat) (P : PF) (vs : List Int) (w : World) (e : Ending) (w' : World) : Prop := e = .returned (.tuple #[]) ∧ (∃ P' : PF, SM s pb M n P' w' ∧ Rep P' a vs ∧ ∀ i, ¬ Dsc a i → P' i = P i) ∧ On pb w w'
/-- push keeps what a place tells; both places under it tell their half -/
theorem pushP_rep {P : PF} {a : Nat} {vs : List Int} (h : Rep P a vs) (ha : 1 ≤ a) (h2 : 2 ≤ vs.length) : ∃ l r, l.length = vs.length / 2 ∧ r.length = vs.length - vs.length / 2 ∧ Rep (pushP P a vs.length) (2 * a) l ∧ Rep (pushP P a vs.length) (2 * a + 1) r ∧ vs = l ++ r ∧ vs = (l ++ r).map wrap64 := by
  obtain ⟨l, r, hl, hr, rl, rr, e⟩ := h.two h2
  have d1 := rl.all (by omega) (P a).more (wrap64 ((P (2 * a)).least + (P a).more)) (wrap64 ((P (2 * a)).most + (P a).more))
  have d2 := rr.all (by omega) (P a).more (wrap64 ((P (2 * a + 1)).least + (P a).more)) (wrap64 ((P (2 * a + 1)).most + (P a).more))
  refine ⟨l.map fun v => wrap64 (v + (P a).more), r.map fun v => wrap64 (v + (P a).more), by simpa using hl, by simpa using hr, d1.congr ?_, d2.congr ?_, by rw [e, List.map_append], ?_⟩
  · intro i hi
    have h1 : i ≠ a := fun e => by have := hi.le; omega
    have h2 : i ≠ 2 * a + 1 := fun e => not_both ha hi (e ▸ Dsc.self _)
    rw [pushP, updP_other _ _ h1, allP_other h2, hl]
    rfl
  · intro i hi
    have h1 : i ≠ a := fun e => by have := hi.le; omega
    have h2 : i ≠ 2 * a := fun e => not_both ha (e ▸ Dsc.self _) hi
    rw [pushP, updP_other _ _ h1, hr]
    by_cases h3 : i = 2 * a + 1
    · subst h3
      rw [allP, allP, updP_same, updP_other _ _ h2, updP_same]
    · rw [allP, updP_other _ _ h3, allP, updP_other _ _ h2, updP_other _ _ h3]
  · conv => lhs; rw [e]
    rw [← List.map_append, List.map_map]
    refine List.map_congr_left fun v _ => ?_
    show _ = wrap64 (wrap64 _)
    rw [wrap64_idem]
theorem pushP_off {P : PF} {a c i : Nat} (h : ¬ Dsc a i) : pushP P a c i = P i := by
  have h1 : i ≠ a := fun e => h (e ▸ Dsc.self _)
  have h2 : i ≠ 2 * a := fun e => h (Dsc.left (e ▸ Dsc.self _))
  have h3 : i ≠ 2 * a + 1 := fun e => h (Dsc.right (e ▸ Dsc.self _))
  rw [pushP, updP_other _ _ h1, allP_other h3, allP_other h2]
theorem pushP_at (P : PF) (a c : Nat) : (pushP P a c a).put = false ∧ (pushP P a c a).more = 0 := by
  rw [pushP, updP_same]
  exact ⟨rfl, rfl⟩
/-- both halves behind two calls: the place tells what both tell -/
theorem join_rep {P P1 P2 : PF} {a : Nat} {l r vs : List Int} (ha : 1 ≤ a) (hp : (P a).put = false) (hm : (P a).more = 0) (h1 : l.length = (l.length + r.length) / 2) (h2 : 2 ≤ l.length + r.length)
    (r1 : Rep P1 (2 * a) l) (o1 : ∀ i, ¬ Dsc (2 * a) i → P1 i = P i) (r2 : Rep P2 (2 * a + 1) r) (o2 : ∀ i, ¬ Dsc (2 * a + 1) i → P2 i = P1 i) (e : vs = (l ++ r).map wrap64) : Rep P2 a vs ∧ (P2 a).put = false ∧ (P2 a).more = 0 := by
  have ea : P2 a = P a := (o2 a (fun h => by have := h.le; omega)).trans (o1 a (fun h => by have := h.le; omega))
  have hp' : (P2 a).put = false := by rw [ea]; exact hp
  have hm' : (P2 a).more = 0 := by rw [ea]; exact hm
  rw [e]
  exact ⟨Rep.join hp' hm' h1 h2 (r1.congr fun i hi => o2 i (fun h => not_both ha hi h)) r2, hp', hm'⟩
/-- another sum at the place changes nothing, if it has two under it -/
theorem Rep.at {P : PF} {a : Nat} {vs : List Int} (h : Rep P a vs) (h2 : 2 ≤ vs.length) (x y z : Int) (ha : 1 ≤ a) : Rep (atP P a x y z) a vs := by
  cases h with
  | leaf => simp at h2
  | node _ l r hp h1 h3 hl hr =>
    have hx := Rep.node (P := atP P a x y z) a l r (by simp [atP, updP, hp]) h1 h3 (hl.congr fun i hi => by rw [atP, updP_other]; intro e; have := hi.le; omega) (hr.congr fun i hi => by rw [atP, updP_other]; intro e; have := hi.le; omega)
    have e : (atP P a x y z a).more = (P a).more := by simp [atP, updP]
    rw [e] at hx
    exact hx
theorem allP_off {P : PF} {a i : Nat} {c m : Int} (h : ¬ Dsc a i) : allP P a c m i = P i := allP_other (fun e => h (e ▸ Dsc.self _))
end Go.Proofs.Ytnnpeblpdkeffaa.seg
