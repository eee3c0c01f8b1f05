/- What a node is behind a change at one way. -/
import Derived.Test.YtenaddjnaeebbaaHamtNil
import Derived.Test.YtenaddjnaeebbaaGrow2
namespace Go.Proofs.Ytenaddjnaeebbaa.hamt
open Go.RowKit

theorem ptr_one (ks : List Kid) : ∀ u ∈ ks.map ptr, u.oneCell' = true := by
  intro u hu
  obtain ⟨e, _, rfl⟩ := List.mem_map.1 hu
  rfl
theorem map_ins (pre post : List Kid) (e : Kid) : ((pre ++ [] ++ post).map ptr).take pre.length ++ ptr e :: ((pre ++ [] ++ post).map ptr).drop pre.length = (pre ++ [e] ++ post).map ptr := by
  rw [List.append_nil, List.map_append, List.take_left' (by simp), List.drop_left' (by simp)]
  simp
theorem map_set (pre post : List Kid) (e e' : Kid) : ((pre ++ [e] ++ post).map ptr).set pre.length (ptr e') = (pre ++ [e'] ++ post).map ptr := by
  simp only [List.map_append, List.map_cons, List.map_nil, List.append_assoc]
  rw [List.set_append_right _ _ (by simp)]
  simp
theorem map_get (pre post : List Kid) (e : Kid) : ((pre ++ [e] ++ post).map ptr)[pre.length]? = some (ptr e) := by simp
theorem pow_lt (y : Nat) (h : y < 32) : 2 ^ y < 4294967296 := Nat.lt_of_le_of_lt (Nat.pow_le_pow_right (by decide) (show y ≤ 31 by omega)) (by decide)
theorem Kids.len {wf : Int → Nat} {ks : List Kid} (h : Kids wf ks) : ks.length ≤ 32 := by
  rw [← countP_ways ks h.asc h.lt]
  simpa using List.countP_le_length (p := fun i => ks.any fun e => e.1 == i) (l := List.range 32)
/-- kids of both kinds -/
theorem kids_mid {P : Kid → Prop} {pre mid post mid' : List Kid} (h : ∀ e ∈ pre ++ mid ++ post, P e) (h' : ∀ e ∈ mid', P e) : ∀ e ∈ pre ++ mid' ++ post, P e := by
  intro e he
  rcases List.mem_append.1 he with he | he
  · rcases List.mem_append.1 he with he | he
    · exact h e (by simp [he])
    · exact h' e he
  · exact h e (by simp [he])
/-- a node is made that has other kids at one way -/
theorem node_new {S S' : Nat → Prop} {d G m' n' : Nat} {ks pre mid post mid' : List Kid} {a : Option Addr} {c : Nat} {w W : World} {y u : Nat} (hu : 35 - 5 * (d + 1) = u) (hks : Kids (wy u) ks) (hs : Split ks y pre mid post) (hy : y < 32) (ha : At (wy u) y mid') (hm : MaskOf m' (pre ++ mid' ++ post)) (hne : pre ++ mid' ++ post ≠ [])
    (hn : (flat (pre ++ mid' ++ post)).length = n') (hO : Out w G #[.int .u32 (m' : Nat), .slice a (pre ++ mid' ++ post).length c, .slice none 0 0, .int .i64 (n' : Nat)] W) (hR : W.ownsRow w.heap.size 23 1 (.slice a (pre ++ mid' ++ post).length c) (pre ++ mid' ++ post).length ((pre ++ mid' ++ post).map ptr))
    (hS : ∀ x, S x ∨ w.heap.size ≤ x → S' x) (hold : ∀ e ∈ ks, HN S w d e.2.1 e.2.2) (hnew : ∀ e ∈ mid', HN S' W d e.2.1 e.2.2) : HN S' W (d + 1) G (flat (pre ++ mid' ++ post)) := by
  obtain ⟨h1, h2⟩ := hs.put hks hy ha
  refine ⟨hS _ (.inr hO.hG), h1.flat_ne hne, _, m', _, rfl, by rw [hu]; exact h1, hm, by rw [hn]; exact hO.blk, ownsRow_lower hR (Nat.zero_le _), fun g e => hS _ (.inr (World.ownsRow.lt hR g e).1), ?_⟩
  rw [hs.eq] at hold
  exact kids_mid (fun e he => ((hold e he).up hO.bel).mono fun x hx => hS x (.inl hx)) hnew
theorem ins_cells {w : World} {x : Nat} {c : Array Value} {t : Nat} (h : w.heap[x]? = some (.cells c t (0, 0))) : x < w.heap.size := (Array.getElem?_eq_some_iff.1 h).1
end Go.Proofs.Ytenaddjnaeebbaa.hamt
