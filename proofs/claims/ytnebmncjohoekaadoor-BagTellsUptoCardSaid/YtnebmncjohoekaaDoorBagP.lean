/- Plain laws of bags: a bag is how often each number is there. -/
import Derived.Test.YtnebmncjohoekaaDoorBagMet
namespace Go.Proofs.YtnebmncjohoekaaDoor.bag
open Go.RowKit
open pat (PT HO OOk ocnt olist oget tk I64 lk told oput odrop ounion)

def clamp (n : Int) : Int := if n ≤ 0 then 0 else min n most
theorem lk_all {o o' : Option PT} (ho : OOk o) (ho' : OOk o') (h : ∀ k, I64 k → lk (olist o) (tk k) = lk (olist o') (tk k)) : ∀ j, lk (olist o) j = lk (olist o') j := by
  intro j
  by_cases hj : j < 2 ^ 64
  · have e : tk ((j : Int) - 9223372036854775808) = j := by unfold tk; omega
    have := h ((j : Int) - 9223372036854775808) (by unfold I64; omega)
    rwa [e] at this
  · have f : ∀ {o : Option PT}, OOk o → lk (olist o) j = none := fun {o} ho => pat.lk_none fun p hp => by have := pat.I64r o ho p hp; omega
    rw [f ho, f ho']
theorem cnt_some {o : Option PT} (ho : OOk o) (hb : Bnd o) (k : Int) : lk (olist o) (tk k) = if cnt o k = 0 then none else some (cnt o k) := by
  unfold cnt
  rw [pat.oget_eq ho]
  cases e : lk (olist o) (tk k) with
  | none => simp
  | some v =>
    have := hb _ _ e
    simp only [Option.getD_some]
    rw [if_neg (by omega)]
/-- bags with the same numbers are told alike -/
theorem same_bag {o o' : Option PT} (ho : OOk o) (hb : Bnd o) (ho' : OOk o') (hb' : Bnd o') (h : ∀ k, I64 k → cnt o k = cnt o' k) : told o = told o' :=
  pat.told_ext ho ho' (lk_all ho ho' fun k hk => by rw [cnt_some ho hb, cnt_some ho' hb', h k hk])
theorem told_ocnt {o o' : Option PT} (h : told o = told o') : ocnt o = ocnt o' := by
  have := congrArg List.length h
  rwa [pat.told_length, pat.told_length] at this

theorem fold_lk (g : Int → Int → Int) (x y : Option PT) (k : Int) (hk : I64 k) (l : List (Int × Int)) (hl : ∀ p ∈ l, I64 p.1) : ∀ o, OOk o → lk (olist (l.foldl (fun o p => withO o p.1 (g (cnt x p.1) (cnt y p.1))) o)) (tk k) =
    if (valued l k).isSome = true then (if g (cnt x k) (cnt y k) ≤ 0 then none else some (min (g (cnt x k) (cnt y k)) most)) else lk (olist o) (tk k) := by
  induction l with
  | nil => intro o _; simp [valued]
  | cons p t ih =>
    intro o ho
    have hp := hl p List.mem_cons_self
    rw [List.foldl_cons, ih (fun q hq => hl q (List.mem_cons_of_mem _ hq)) _ (with_ok ho hp _), with_lk ho hp]
    by_cases e : p.1 = k
    · subst e
      have e2 : valued (p :: t) p.1 = some p.2 := by simp [valued]
      rw [e2, if_pos rfl]
      simp
    · have e2 : valued (p :: t) k = valued t k := by simp [valued, e]
      rw [e2, if_neg fun h => e (pat.tk_inj hk hp h).symm]
theorem metO_ok (g : Int → Int → Int) {x y : Option PT} (ox : OOk x) (oy : OOk y) : OOk (metO g x y) ∧ Bnd (metO g x y) ∧ ocnt (metO g x y) ≤ ocnt x + ocnt y := by
  have h := fold_facts g x y (told (ounion x y)) (pat.told_range (pat.ounion_spec ox oy).1) none trivial bnd_none
  refine ⟨h.1, h.2.1, ?_⟩
  have h2 := h.2.2
  rw [pat.told_length] at h2
  have e : ocnt none = 0 := rfl
  have h3 := pat.ocnt_ounion x y
  have h4 : ocnt (metO g x y) ≤ ocnt none + ocnt (ounion x y) := h2
  omega
theorem cnt_met (g : Int → Int → Int) (hg : g 0 0 ≤ 0) {x y : Option PT} (ox : OOk x) (oy : OOk y) {k : Int} (hk : I64 k) : cnt (metO g x y) k = clamp (g (cnt x k) (cnt y k)) := by
  have hm := (metO_ok g ox oy).1
  have hf := fold_lk g x y k hk (told (ounion x y)) (pat.told_range (pat.ounion_spec ox oy).1) none trivial
  obtain ⟨hu, hul⟩ := pat.ounion_spec ox oy
  rw [pat.valued_told hu hk, pat.oget_eq hu, hul] at hf
  have e : cnt (metO g x y) k = (lk (olist (metO g x y)) (tk k)).getD 0 := by unfold cnt; rw [pat.oget_eq hm]
  have e2 : lk (olist (metO g x y)) (tk k) = _ := hf
  rw [e, e2]
  unfold clamp
  by_cases h : ((lk (olist x) (tk k)).or (lk (olist y) (tk k))).isSome = true
  · rw [if_pos h]
    split <;> simp
  · rw [if_neg h]
    have hx : lk (olist x) (tk k) = none := by
      cases e : lk (olist x) (tk k) with
      | none => rfl
      | some v => rw [e] at h; simp at h
    have hy : lk (olist y) (tk k) = none := by
      cases e : lk (olist y) (tk k) with
      | none => rfl
      | some v => rw [hx, e] at h; simp at h
    have cx : cnt x k = 0 := by unfold cnt; rw [pat.oget_eq ox, hx]; rfl
    have cy : cnt y k = 0 := by unfold cnt; rw [pat.oget_eq oy, hy]; rfl
    rw [cx, cy, if_pos hg]
    rfl
theorem cnt_with {o : Option PT} (ho : OOk o) {x : Int} (hx : I64 x) (n : Int) {k : Int} (hk : I64 k) : cnt (withO o x n) k = if k = x then clamp n else cnt o k := by
  unfold cnt
  rw [pat.oget_eq (with_ok ho hx n), with_lk ho hx, pat.oget_eq ho]
  by_cases e : k = x
  · subst e
    rw [if_pos rfl, if_pos rfl]
    unfold clamp
    split <;> simp
  · rw [if_neg e, if_neg fun h => e (pat.tk_inj hk hx h)]
theorem clamp_id {n : Int} (h0 : 0 ≤ n) (h1 : n ≤ most) : clamp n = n := by
  unfold clamp
  split
  · omega
  · exact Int.min_eq_left h1
def fAdd (m n : Int) : Int := m + n
def fLess (m n : Int) : Int := m - n
def fJoin (m n : Int) : Int := max m n
def fMeet (m n : Int) : Int := min m n
end Go.Proofs.YtnebmncjohoekaaDoor.bag
