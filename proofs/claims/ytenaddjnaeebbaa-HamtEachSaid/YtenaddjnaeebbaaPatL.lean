/- Plain laws of maps of keys. -/
import Derived.Test.YtenaddjnaeebbaaPatPairs
import Derived.Test.YtenaddjnaeebbaaSameP
namespace Go.Proofs.Ytenaddjnaeebbaa.pat
open Go.RowKit

theorem cnt_both (a b : PT) : (both a b).cnt = a.cnt + b.cnt := by
  unfold both
  split
  · rfl
  · simp only [PT.cnt]; omega
theorem oput_spec {o : Option PT} (ho : OOk o) {k : Nat} (hk : k < 2 ^ 64) (v : Int) : Ok (oput o k v) ∧ ∀ j, lk (oput o k v).list j = if j = k then some v else lk (olist o) j := by
  cases o with
  | none =>
    refine ⟨hk, fun j => ?_⟩
    simp only [oput, PT.list, lk, olist]
    by_cases e : k = j
    · simp [e]
    · simp [e, Ne.symm e]
  | some t => obtain ⟨h1, _, h3⟩ := put_spec k v hk t ho; exact ⟨h1, h3⟩
theorem odrop_spec {o : Option PT} (ho : OOk o) (k : Nat) : OOk (odrop o k) ∧ ∀ j, lk (olist (odrop o k)) j = if j = k then none else lk (olist o) j := by
  cases o with
  | none => exact ⟨trivial, fun j => by simp [odrop, olist, lk]⟩
  | some t => obtain ⟨h1, _, h3⟩ := drop_spec k t ho; exact ⟨h1, h3⟩
theorem oget_eq {o : Option PT} (ho : OOk o) (k : Nat) : oget o k = lk (olist o) k := by
  cases o with
  | none => rfl
  | some t => exact get_eq k t ho
theorem orising {o : Option PT} (ho : OOk o) : Rising (olist o) := by
  cases o with
  | none => trivial
  | some t => exact rising ho
theorem told_ext {o o' : Option PT} (ho : OOk o) (ho' : OOk o') (h : ∀ j, lk (olist o) j = lk (olist o') j) : told o = told o' := by
  unfold told
  rw [rising_ext (orising ho) (orising ho') h]
theorem cnt_oput_le (o : Option PT) (k : Nat) (v : Int) : (oput o k v).cnt ≤ ocnt o + 1 := by
  cases o with
  | none => exact Nat.le_refl _
  | some t => exact cnt_put_le k v t
theorem cnt_odrop_le (o : Option PT) (k : Nat) : ocnt (odrop o k) ≤ ocnt o := by
  cases o with
  | none => exact Nat.le_refl _
  | some t => exact cnt_drop_le k t

theorem lk_split {k : Nat} {v : Int} : ∀ {l : KL}, Rising l → lk l k = some v → ∃ pre post, l = pre ++ (k, v) :: post ∧ Rising (pre ++ post) ∧ ∀ j, lk (pre ++ post) j = if j = k then none else lk l j
  | [], _, h => by simp [lk] at h
  | (a, u) :: t, hr, h => by
    by_cases e : a = k
    · subst e
      have hu : u = v := by simpa [lk] using h
      subst hu
      refine ⟨[], t, rfl, hr.2, fun j => ?_⟩
      by_cases ej : j = a
      · subst ej
        rw [if_pos rfl]
        exact lk_none fun p hp => by have := hr.1 p hp; simp at this; omega
      · rw [if_neg ej]
        simp [lk, Ne.symm ej]
    · have h' : lk t k = some v := by simpa [lk, e] using h
      obtain ⟨pre, post, rfl, h2, h3⟩ := lk_split hr.2 h'
      refine ⟨(a, u) :: pre, post, rfl, ⟨fun q hq => hr.1 q ?_, h2⟩, fun j => ?_⟩
      · rcases List.mem_append.1 hq with hq | hq
        · exact List.mem_append.2 (.inl hq)
        · exact List.mem_append.2 (.inr (List.mem_cons_of_mem _ hq))
      · by_cases ea : a = j
        · subst ea
          simp [lk, e]
        · have := h3 j
          simp only [List.cons_append, lk, if_neg ea, this]
theorem cnt_drop_has {o : Option PT} (ho : OOk o) {k : Nat} {v : Int} (h : lk (olist o) k = some v) : ocnt o = ocnt (odrop o k) + 1 := by
  obtain ⟨pre, post, e, hr, hl⟩ := lk_split (orising ho) h
  obtain ⟨d1, d2⟩ := odrop_spec ho k
  have e2 := rising_ext (orising d1) hr (fun j => by rw [d2, hl])
  rw [← olist_length, ← olist_length, e2, e]
  simp only [List.length_append, List.length_cons]
  omega

/-- a map of pairs, one by one -/
def fill (o : Option PT) : List (Int × Int) → Option PT
  | [] => o
  | p :: t => fill (some (oput o (tk p.1) p.2)) t
theorem fill_snoc (l : List (Int × Int)) (p : Int × Int) : ∀ o, fill o (l ++ [p]) = some (oput (fill o l) (tk p.1) p.2) := by
  induction l with
  | nil => intro o; rfl
  | cons q t ih => intro o; exact ih _
theorem fill_ok (l : List (Int × Int)) : ∀ o, OOk o → (∀ p ∈ l, I64 p.1) → OOk (fill o l) := by
  induction l with
  | nil => intro o h _; exact h
  | cons q t ih => intro o h hl; exact ih _ (oput_spec h (tk_lt (hl q (by simp))) q.2).1 fun p hp => hl p (by simp [hp])
theorem fill_cnt (l : List (Int × Int)) : ∀ o, ocnt (fill o l) ≤ ocnt o + l.length := by
  induction l with
  | nil => intro o; exact Nat.le_refl _
  | cons q t ih =>
    intro o
    have h1 := ih (some (oput o (tk q.1) q.2))
    have h2 := cnt_oput_le o (tk q.1) q.2
    simp only [fill, List.length_cons]
    have e : ocnt (some (oput o (tk q.1) q.2)) = (oput o (tk q.1) q.2).cnt := rfl
    omega

def Yes (w : World) (e : Ending) (w' : World) : Prop := e = .returned (.bool true) ∧ Below w.heap.size w w'
theorem i64_lit {k : Int} (h1 : -100 ≤ k) (h2 : k ≤ 100) : I64 k := by unfold I64; omega
end Go.Proofs.Ytenaddjnaeebbaa.pat
