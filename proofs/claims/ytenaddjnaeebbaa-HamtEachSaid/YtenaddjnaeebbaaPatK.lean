/- What a map of keys tells, against the reference's lists. -/
import Derived.Test.YtenaddjnaeebbaaPatL
import Derived.Test.YtenaddjnaeebbaaKeyP
namespace Go.Proofs.Ytenaddjnaeebbaa.pat
open Go.RowKit

theorem I64r (o : Option PT) (ho : OOk o) : ∀ p ∈ olist o, p.1 < 2 ^ 64 := by
  intro p hp
  cases o with
  | none => cases hp
  | some t => exact Nat.lt_of_lt_of_le (keys_in ho p hp).2 (Ok.top ho)
theorem told_rising {o : Option PT} (ho : OOk o) : RisingI (told o) := by
  unfold told
  have h := orising ho
  generalize olist o = l at h
  induction l with
  | nil => trivial
  | cons p t ih =>
    refine ⟨fun q hq => ?_, ih h.2⟩
    obtain ⟨x, hx, rfl⟩ := List.mem_map.1 hq
    have := h.1 x hx
    simp only [back]
    omega
theorem valued_back (l : KL) (k : Int) (hk : I64 k) : valued (l.map back) k = lk l (tk k) := by
  induction l with
  | nil => rfl
  | cons p t ih =>
    obtain ⟨a, u⟩ := p
    simp only [List.map_cons, valued, lk, back]
    by_cases e : a = tk k
    · rw [if_pos e, if_pos (by rw [e]; unfold tk I64 at *; omega)]
    · rw [if_neg e, if_neg (fun h => e (by unfold tk I64 at *; omega))]
      exact ih
theorem valued_far (l : KL) (k : Int) (hl : ∀ p ∈ l, p.1 < 2 ^ 64) (hk : ¬ I64 k) : valued (l.map back) k = none := by
  refine valued_none fun p hp => ?_
  obtain ⟨x, hx, rfl⟩ := List.mem_map.1 hp
  have := hl x hx
  simp only [back]
  unfold I64 at hk
  omega
theorem valued_told {o : Option PT} (ho : OOk o) {k : Int} (hk : I64 k) : valued (told o) k = oget o (tk k) := by
  rw [oget_eq ho]
  exact valued_back _ k hk
theorem valued_told_far {o : Option PT} (ho : OOk o) {k : Int} (hk : ¬ I64 k) : valued (told o) k = none := valued_far _ k (I64r o ho) hk
/-- told lists are those of the same values -/
theorem told_eq {o : Option PT} (ho : OOk o) {l : List (Int × Int)} (hl : RisingI l) (hr : ∀ p ∈ l, I64 p.1) (h : ∀ k, I64 k → lk (olist o) (tk k) = valued l k) : told o = l := by
  refine risingI_ext (told_rising ho) hl fun k => ?_
  by_cases hk : I64 k
  · rw [← h k hk]; exact valued_back _ k hk
  · rw [valued_told_far ho hk]
    exact (valued_none fun p hp e => hk (by rw [← e]; exact hr p hp)).symm
theorem told_range {o : Option PT} (ho : OOk o) : ∀ p ∈ told o, I64 p.1 := by
  intro p hp
  obtain ⟨x, hx, rfl⟩ := List.mem_map.1 hp
  have := I64r o ho x hx
  simp only [back]
  unfold I64
  omega
theorem keyed_range {l : List (Int × Int)} (h : ∀ p ∈ l, I64 p.1) {k v : Int} (hk : I64 k) : ∀ p ∈ keyed l k v, I64 p.1 := by
  intro p hp
  rcases List.mem_append.1 hp with hp | hp
  · exact h p (List.mem_filter.1 hp).1
  · rcases List.mem_cons.1 hp with rfl | hp
    · exact hk
    · exact h p (List.mem_filter.1 hp).1
theorem told_put {o : Option PT} (ho : OOk o) {k : Int} (hk : I64 k) (v : Int) : told (some (oput o (tk k) v)) = keyed (told o) k v := by
  obtain ⟨h1, h2⟩ := oput_spec ho (tk_lt hk) v
  refine told_eq (o := some (oput o (tk k) v)) h1 (keyed_rising (told_rising ho) k v) (keyed_range (told_range ho) hk) fun j hj => ?_
  show lk (oput o (tk k) v).list (tk j) = _
  rw [h2, valued_keyed, valued_told ho hj, oget_eq ho]
  by_cases e : j = k
  · subst e; simp
  · rw [if_neg e, if_neg fun h => e (tk_inj hj hk h)]
theorem told_drop {o : Option PT} (ho : OOk o) {k : Int} (hk : I64 k) : told (odrop o (tk k)) = unkeyed (told o) k := by
  obtain ⟨h1, h2⟩ := odrop_spec ho (tk k)
  refine told_eq h1 (unkeyed_rising (told_rising ho) k) (fun p hp => told_range ho p (List.mem_filter.1 hp).1) fun j hj => ?_
  rw [h2, valued_unkeyed, valued_told ho hj, oget_eq ho]
  by_cases e : j = k
  · subst e; simp
  · rw [if_neg e, if_neg fun h => e (tk_inj hj hk h)]
end Go.Proofs.Ytenaddjnaeebbaa.pat
