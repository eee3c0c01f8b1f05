/- A LAW FOR A REGION IN WHICH WHAT AN OPERATION KEEPS IS USED UP BY ANOTHER ONE: each operation has a relation of worlds of its own. (Printed by gc.py out of XGrowR.) No function of the program is named here. -/
import Derived.Test.YtnigadnjppeckaaGrowRZ
namespace Go.Proofs.Ytnigadnjppeckaa.grow
open Go Go.RowKit

/-- what the j-th keeps is still there for the i-th -/
def freeC (cons : List (Nat × Nat)) (i j : Nat) : Bool := cons.all fun p => p.1 != j || p.2 == i
theorem freeC_eq {cons : List (Nat × Nat)} {i j c : Nat} (h : freeC cons i j = true) (hc : cons.contains (j, c) = true) : c = i := by
  unfold freeC at h
  rw [List.all_eq_true] at h
  have hm : (j, c) ∈ cons := by simpa using hc
  have := h _ hm
  simpa using this
theorem freeC_none {cons : List (Nat × Nat)} {j c : Nat} (h : (cons.all fun p => p.1 != j) = true) : cons.contains (j, c) = false := by
  cases hx : cons.contains (j, c) with
  | false => rfl
  | true =>
    rw [List.all_eq_true] at h
    have hm : (j, c) ∈ cons := by simpa using hx
    have := h _ hm
    simp at this
def rAtC (cons : List (Nat × Nat)) (js : List (Value → World → Prop)) (i j : Nat) (v : Value) (W : World) : Prop := match freeC cons i j with
  | true => rAt js j v W
  | false => True
section
variable {P : Program} {ops : Array Oper} {Q : Exit → Act → World → Prop}
theorem any_con (hap : apartB ops = true) (hb : backB ops = true) {a : Act} {w : World} (R : World → World → Prop) (Rt : ∀ u v x, R u v → R v x → R u x) (Rs : Nat → World → World → Prop) (hRs : ∀ i W W', Rs i W W' → R W W') (cons : List (Nat × Nat)) (J : Nat → Value → World → Prop)
    (mono : ∀ i v W W', (∃ j, j ≠ i ∧ cons.contains (i, j) = false ∧ Rs j W W') → J i v W → J i v W')
    (step : ∀ i o, ops[i]? = some o → ∀ f W, R w W → (∀ k ok, ops[k]? = some ok → depB ok i = true → f k = f0 ops a k) → (∀ e ∈ o.after, Region.binds .any e = true → freeC cons i e.on = true → J e.on (f e.on) W) →
      ∀ K' : Act → World → Prop, (∀ v W', Rs i W W' → J i v W' → K' ((puts ops a f ops.size).put o.dst v) W') →
        if Region.wanted o (yielded ops (puts ops a f ops.size).tmps) = true then Oper.wp P o (puts ops a f ops.size) W K' Q else K' ((puts ops a f ops.size).put o.dst undef) W)
    (fin : ∀ f W, R w W → (∀ i, i < ops.size → (cons.all fun p => p.1 != i) = true → J i (f i) W) → Q .normal (puts ops a f ops.size) W) :
    ∀ (fuel : Nat) (listed : Array Bool) (f : Nat → Value) (W : World), listed.size = ops.size → (List.range ops.size).countP (fun i => !listed.getD i true) ≤ fuel → R w W →
      (∀ i, listed.getD i false = true → (∀ c, cons.contains (i, c) = true → listed.getD c false = false) → J i (f i) W) → (∀ i, listed.getD i false = false → f i = f0 ops a i) → (∀ i o, listed.getD i false = true → ops[i]? = some o → ∀ e ∈ o.after, Region.binds .any e = true → listed.getD e.on false = true) →
      wpAny P .any ops Q fuel listed (puts ops a f ops.size) W := by
  intro fuel
  induction fuel with
  | zero =>
    intro listed f W hs hc hB hJ hu hcl
    have hall : ∀ i, i < ops.size → listed.getD i true = true := by
      intro i hi
      have h0 : (List.range ops.size).countP (fun i => !listed.getD i true) = 0 := by omega
      rw [List.countP_eq_zero] at h0
      simpa using h0 i (List.mem_range.2 hi)
    have hr : Region.ready .any ops listed = [] := by
      cases e : Region.ready .any ops listed with
      | nil => rfl
      | cons x l =>
        have hm : x ∈ Region.ready .any ops listed := by rw [e]; exact List.mem_cons_self
        rw [mem_ready] at hm
        obtain ⟨h0, o, ho, _⟩ := hm
        have := hall x (Array.getElem?_eq_some_iff.1 ho).1
        rw [this] at h0
        cases h0
    exact ⟨hr, fin f W hB (fun i hi hc => hJ i (all_listed hb hs hr i hi) (fun c h => absurd h (by rw [freeC_none hc]; decide)))⟩
  | succ fuel ih =>
    intro listed f W hs hc hB hJ hu hcl
    refine ⟨fun hr => fin f W hB (fun i hi hc => hJ i (all_listed hb hs hr i hi) (fun c h => absurd h (by rw [freeC_none hc]; decide))), fun i hi => ?_⟩
    have hi' := hi
    rw [mem_ready] at hi'
    obtain ⟨h0, o, ho, hall⟩ := hi'
    have hlt : i < ops.size := (Array.getElem?_eq_some_iff.1 ho).1
    have hil : i < listed.size := by omega
    have h0f : listed.getD i false = false := by
      simp only [Array.getD_eq_getD_getElem?, Array.getElem?_eq_getElem hil, Option.getD_some] at h0 ⊢
      exact h0
    have hun : ∀ k ok, ops[k]? = some ok → depB ok i = true → f k = f0 ops a k := by
      intro k ok hk hd
      refine hu k ?_
      cases hlk : listed.getD k false with
      | false => rfl
      | true =>
        unfold depB at hd
        rw [Array.any_eq_true'] at hd
        obtain ⟨e, he, hee⟩ := hd
        simp only [Bool.and_eq_true, beq_iff_eq] at hee
        have := hcl k ok hlk hk e he hee.2
        rw [hee.1, h0f] at this
        cases this
    refine wpOp_step ho fun K' hK => step i o ho f W hB hun (fun e he hbd hfr => hJ e.on (hall e he hbd) (fun c hc => by rw [freeC_eq hfr hc]; exact h0f)) K' fun v W' hW hJ' => hK _ _ ?_
    have e1 : (puts ops a f ops.size).put o.dst v = puts ops a (upd f i v) ops.size := by
      rw [puts_upd hap ops.size hlt (Nat.le_refl _), ho]
      rfl
    rw [e1]
    have hset : (listed.setIfInBounds i true).getD i false = true := by simp [hil]
    refine ih _ _ _ (by simpa using hs) ?_ ?_ ?_ ?_ ?_
    · have := countP_lt (p := fun i => !listed.getD i true) (q := fun j => !(listed.setIfInBounds i true).getD j true) (fun j hj => by
        by_cases e : i = j
        · subst e
          simp only [h0, Bool.not_false]
        · simpa only [getD_set_ne true e] using hj) (i := i) (by simp only [h0, Bool.not_false]) (by simp [hil]) (List.range ops.size) (List.mem_range.2 hlt)
      omega
    · exact Rt _ _ _ hB (hRs _ _ _ hW)
    · intro j hj hcj
      by_cases e : j = i
      · subst e
        unfold upd
        rw [if_pos rfl]
        exact hJ'
      · unfold upd
        rw [if_neg e]
        rw [getD_set_ne false (Ne.symm e)] at hj
        have hni : cons.contains (j, i) = false := by
          cases hx : cons.contains (j, i) with
          | false => rfl
          | true =>
            have := hcj i hx
            rw [hset] at this
            cases this
        refine mono _ _ _ _ ⟨i, fun e' => e e'.symm, hni, hW⟩ (hJ j hj fun c hc => ?_)
        have h2 := hcj c hc
        by_cases ec : c = i
        · subst ec
          rw [hset] at h2
          cases h2
        · rwa [getD_set_ne false (Ne.symm ec)] at h2
    · intro j hj
      by_cases e : j = i
      · subst e
        rw [hset] at hj
        cases hj
      · unfold upd
        rw [if_neg e]
        rw [getD_set_ne false (Ne.symm e)] at hj
        exact hu j hj
    · intro j o' hj ho' e he hbd
      by_cases ej : e.on = i
      · rw [ej]; exact hset
      · rw [getD_set_ne false (Ne.symm ej)]
        by_cases e2 : j = i
        · subst e2
          rw [ho] at ho'
          cases ho'
          exact hall e he hbd
        · rw [getD_set_ne false (Ne.symm e2)] at hj
          exact hcl j o' hj ho' e he hbd
end

/-- ONE OPERATION'S STEP, of a frame told by its slots -/
def StepC (P : Program) (ops : Array Oper) (Q : Exit → Act → World → Prop) (a : Act) (w : World) (R : World → World → Prop) (Rs : Nat → World → World → Prop) (cons : List (Nat × Nat)) (js : List (Value → World → Prop)) (i : Nat) (o : Oper) : Prop :=
  ∀ (A : Act) (W : World), R w W → (∀ d, lateB ops i d = true → A.tmps.getD d undef = a.tmps.getD d undef) →
    (∀ j d, depB o j = true → (ops[j]?).bind (·.dst) = some d → rAtC cons js i j (A.tmps.getD d undef) W) →
    ∀ K : Act → World → Prop, (∀ v W', Rs i W W' → rAt js i v W' → K (A.put o.dst v) W') →
      if Region.wanted o (yielded ops A.tmps) = true then Oper.wp P o A W K Q else K (A.put o.dst undef) W
/-- each operation -/
def EachC (T : Nat → Oper → Prop) (k : Nat) (l : List Oper) : Prop := ∀ j o, l[j]? = some o → T (k + j) o
theorem EachC.nil {T : Nat → Oper → Prop} {k : Nat} : EachC T k [] := fun j o h => by simp at h
theorem EachC.cons {T : Nat → Oper → Prop} {k : Nat} {o : Oper} {l : List Oper} (h : T k o) (t : EachC T (k + 1) l) : EachC T k (o :: l) := fun j o' h' => by
  cases j with
  | zero => simp only [List.getElem?_cons_zero, Option.some.injEq] at h'; subst h'; exact h
  | succ j =>
    rw [List.getElem?_cons_succ] at h'
    have := t j o' h'
    rw [show k + (j + 1) = k + 1 + j by omega]
    simpa using this

theorem wp_grow_con {P : Program} {Q : Exit → Act → World → Prop} {id : Nat} {l : List Oper} {a : Act} {w : World} (R : World → World → Prop) (Rt : ∀ u v x, R u v → R v x → R u x) (Rd : ∀ u, R u u.drew) (Rs : Nat → World → World → Prop) (hRs : ∀ i W W', Rs i W W' → R W W') (cons : List (Nat × Nat)) (js : List (Value → World → Prop)) (hm : P.follows .mixedOrders = true) (hap : apartB l.toArray = true) (hb : backB l.toArray = true) (hs : slotsB l.toArray a.tmps.size = true)
    (mono : ∀ i v W W', (∃ j, j ≠ i ∧ cons.contains (i, j) = false ∧ Rs j W W') → rAt js i v W → rAt js i v W')
    (step : EachC (StepC P l.toArray Q a w R Rs cons js) 0 l)
    (fin : ∀ f W, R w W → (∀ i, i < l.length → (cons.all fun p => p.1 != i) = true → rAt js i (f i) W) → ∀ A, puts l.toArray a f l.length = A → Q .normal A W) :
    (Code.region id l.toArray true).wp P Q a w := by
  refine wp_region_any hm ?_
  have h := any_con (P := P) (ops := l.toArray) (Q := Q) hap hb (a := a) (w := w) R Rt Rs hRs cons (fun i => rAt js i) mono ?_ ?_ l.toArray.size (Array.replicate l.toArray.size false) (f0 l.toArray a) w.drew (by simp) (by
    refine Nat.le_trans List.countP_le_length ?_
    simp) (Rd w) (fun i hi _ => by rw [rep_false] at hi; cases hi) (fun i _ => rfl) (fun i o hi => by rw [rep_false] at hi; cases hi)
  · rw [puts_f0] at h
    exact h
  · intro i o ho f W hB hu hJ K hK
    have ho' : l[i]? = some o := by simpa using ho
    have h := step i o ho'
    rw [Nat.zero_add] at h
    refine h (puts l.toArray a f l.toArray.size) W hB (fun d hd => puts_late hap hs hd hu) ?_ K hK
    intro j d hdep hd
    have hlt : j < l.toArray.size := by
      cases e2 : l.toArray[j]? with
      | none => rw [e2] at hd; cases hd
      | some o' => exact (Array.getElem?_eq_some_iff.1 e2).1
    rw [puts_at hap hd (by
      cases e2 : l.toArray[j]? with
      | none => rw [e2] at hd; cases hd
      | some o' =>
        rw [e2] at hd
        simp only [Option.bind_some] at hd
        unfold slotsB at hs
        rw [Array.all_eq_true_iff_forall_mem] at hs
        have := hs o' (Array.mem_of_getElem? e2)
        rw [hd] at this
        exact of_decide_eq_true this) _ hlt (Nat.le_refl _)]
    unfold depB at hdep
    rw [Array.any_eq_true'] at hdep
    obtain ⟨e, he, hee⟩ := hdep
    simp only [Bool.and_eq_true, beq_iff_eq] at hee
    obtain ⟨rfl, hbd⟩ := hee
    unfold rAtC
    cases hfr : freeC cons i e.on with
    | false => exact trivial
    | true => exact hJ e he hbd hfr
  · intro f W hB hF
    exact fin f W hB (fun i hi hc => hF i (by simpa using hi) hc) _ rfl
theorem monoC_of {T : Nat → World → World → Prop} {js : List (Value → World → Prop)} (h : ∀ i, i < js.length → ∀ v W W', T i W W' → rAt js i v W → rAt js i v W') :
    ∀ i v W W', T i W W' → rAt js i v W → rAt js i v W' := by
  intro i v W W' hW hq
  by_cases hi : i < js.length
  · exact h i hi v W W' hW hq
  · unfold rAt at hq ⊢
    rw [List.getD_eq_getElem?_getD, List.getElem?_eq_none (by omega)] at hq ⊢
    exact hq
end Go.Proofs.Ytnigadnjppeckaa.grow
/- THE LAW OF XGrowC, AND WHAT HOLDS AT THE REGION'S START: each such fact holds until its consumer runs. (Printed by gi.py out of XGrowC.) No function of the program is named here. -/
namespace Go.Proofs.Ytnigadnjppeckaa.grow
open Go Go.RowKit

/-- c waits for i, perhaps by way of others -/
def reachB (ops : Array Oper) : Nat → Nat → Nat → Bool
  | 0, c, i => c == i
  | n + 1, c, i => c == i || (match ops[c]? with | some o => o.after.any fun e => Region.binds .any e && reachB ops n e.on i | none => false)
theorem reachB_un {ops : Array Oper} {listed : Array Bool} (hcl : ∀ i o, listed.getD i false = true → ops[i]? = some o → ∀ e ∈ o.after, Region.binds .any e = true → listed.getD e.on false = true) {i : Nat} (hi : listed.getD i false = false) :
    ∀ (n c : Nat), reachB ops n c i = true → listed.getD c false = false
  | 0, c, h => by
    obtain rfl : c = i := by simpa [reachB] using h
    exact hi
  | n + 1, c, h => by
    unfold reachB at h
    rw [Bool.or_eq_true] at h
    rcases h with h | h
    · obtain rfl : c = i := by simpa using h
      exact hi
    · cases ho : ops[c]? with
      | none => rw [ho] at h; cases h
      | some o =>
        rw [ho] at h
        simp only [Array.any_eq_true'] at h
        obtain ⟨e, he, hb⟩ := h
        simp only [Bool.and_eq_true] at hb
        have h1 := reachB_un hcl hi n e.on hb.2
        cases hc : listed.getD c false with
        | false => rfl
        | true =>
          have := hcl c o hc ho e he hb.1
          rw [h1] at this
          cases this

section
variable {P : Program} {ops : Array Oper} {Q : Exit → Act → World → Prop}
theorem any_ini (hap : apartB ops = true) (hb : backB ops = true) {a : Act} {w : World} (R : World → World → Prop) (Rt : ∀ u v x, R u v → R v x → R u x) (Rs : Nat → World → World → Prop) (hRs : ∀ i W W', Rs i W W' → R W W') (cons : List (Nat × Nat)) (I : Nat → World → Prop) (ci : Nat → Nat) (monoI : ∀ r j W W', ci r ≠ j → Rs j W W' → I r W → I r W') (J : Nat → Value → World → Prop)
    (mono : ∀ i v W W', (∃ j, j ≠ i ∧ cons.contains (i, j) = false ∧ Rs j W W') → J i v W → J i v W')
    (step : ∀ i o, ops[i]? = some o → ∀ f W, R w W → (∀ k ok, ops[k]? = some ok → depB ok i = true → f k = f0 ops a k) → (∀ e ∈ o.after, Region.binds .any e = true → freeC cons i e.on = true → J e.on (f e.on) W) → (∀ r n, reachB ops n (ci r) i = true → I r W) →
      ∀ K' : Act → World → Prop, (∀ v W', Rs i W W' → J i v W' → K' ((puts ops a f ops.size).put o.dst v) W') →
        if Region.wanted o (yielded ops (puts ops a f ops.size).tmps) = true then Oper.wp P o (puts ops a f ops.size) W K' Q else K' ((puts ops a f ops.size).put o.dst undef) W)
    (fin : ∀ f W, R w W → (∀ i, i < ops.size → (cons.all fun p => p.1 != i) = true → J i (f i) W) → Q .normal (puts ops a f ops.size) W) :
    ∀ (fuel : Nat) (listed : Array Bool) (f : Nat → Value) (W : World), listed.size = ops.size → (List.range ops.size).countP (fun i => !listed.getD i true) ≤ fuel → R w W → (∀ r, listed.getD (ci r) false = false → I r W) →
      (∀ i, listed.getD i false = true → (∀ c, cons.contains (i, c) = true → listed.getD c false = false) → J i (f i) W) → (∀ i, listed.getD i false = false → f i = f0 ops a i) → (∀ i o, listed.getD i false = true → ops[i]? = some o → ∀ e ∈ o.after, Region.binds .any e = true → listed.getD e.on false = true) →
      wpAny P .any ops Q fuel listed (puts ops a f ops.size) W := by
  intro fuel
  induction fuel with
  | zero =>
    intro listed f W hs hc hB hI hJ hu hcl
    have hall : ∀ i, i < ops.size → listed.getD i true = true := by
      intro i hi
      have h0 : (List.range ops.size).countP (fun i => !listed.getD i true) = 0 := by omega
      rw [List.countP_eq_zero] at h0
      simpa using h0 i (List.mem_range.2 hi)
    have hr : Region.ready .any ops listed = [] := by
      cases e : Region.ready .any ops listed with
      | nil => rfl
      | cons x l =>
        have hm : x ∈ Region.ready .any ops listed := by rw [e]; exact List.mem_cons_self
        rw [mem_ready] at hm
        obtain ⟨h0, o, ho, _⟩ := hm
        have := hall x (Array.getElem?_eq_some_iff.1 ho).1
        rw [this] at h0
        cases h0
    exact ⟨hr, fin f W hB (fun i hi hc => hJ i (all_listed hb hs hr i hi) (fun c h => absurd h (by rw [freeC_none hc]; decide)))⟩
  | succ fuel ih =>
    intro listed f W hs hc hB hI hJ hu hcl
    refine ⟨fun hr => fin f W hB (fun i hi hc => hJ i (all_listed hb hs hr i hi) (fun c h => absurd h (by rw [freeC_none hc]; decide))), fun i hi => ?_⟩
    have hi' := hi
    rw [mem_ready] at hi'
    obtain ⟨h0, o, ho, hall⟩ := hi'
    have hlt : i < ops.size := (Array.getElem?_eq_some_iff.1 ho).1
    have hil : i < listed.size := by omega
    have h0f : listed.getD i false = false := by
      simp only [Array.getD_eq_getD_getElem?, Array.getElem?_eq_getElem hil, Option.getD_some] at h0 ⊢
      exact h0
    have hun : ∀ k ok, ops[k]? = some ok → depB ok i = true → f k = f0 ops a k := by
      intro k ok hk hd
      refine hu k ?_
      cases hlk : listed.getD k false with
      | false => rfl
      | true =>
        unfold depB at hd
        rw [Array.any_eq_true'] at hd
        obtain ⟨e, he, hee⟩ := hd
        simp only [Bool.and_eq_true, beq_iff_eq] at hee
        have := hcl k ok hlk hk e he hee.2
        rw [hee.1, h0f] at this
        cases this
    refine wpOp_step ho fun K' hK => step i o ho f W hB hun (fun e he hbd hfr => hJ e.on (hall e he hbd) (fun c hc => by rw [freeC_eq hfr hc]; exact h0f)) (fun r n hn => hI r (reachB_un hcl h0f n _ hn)) K' fun v W' hW hJ' => hK _ _ ?_
    have e1 : (puts ops a f ops.size).put o.dst v = puts ops a (upd f i v) ops.size := by
      rw [puts_upd hap ops.size hlt (Nat.le_refl _), ho]
      rfl
    rw [e1]
    have hset : (listed.setIfInBounds i true).getD i false = true := by simp [hil]
    refine ih _ _ _ (by simpa using hs) ?_ ?_ ?_ ?_ ?_ ?_
    · have := countP_lt (p := fun i => !listed.getD i true) (q := fun j => !(listed.setIfInBounds i true).getD j true) (fun j hj => by
        by_cases e : i = j
        · subst e
          simp only [h0, Bool.not_false]
        · simpa only [getD_set_ne true e] using hj) (i := i) (by simp only [h0, Bool.not_false]) (by simp [hil]) (List.range ops.size) (List.mem_range.2 hlt)
      omega
    · exact Rt _ _ _ hB (hRs _ _ _ hW)
    · intro r hr
      have hne : ci r ≠ i := fun e => by rw [e, hset] at hr; cases hr
      rw [getD_set_ne false (Ne.symm hne)] at hr
      exact monoI _ _ _ _ hne hW (hI r hr)
    · intro j hj hcj
      by_cases e : j = i
      · subst e
        unfold upd
        rw [if_pos rfl]
        exact hJ'
      · unfold upd
        rw [if_neg e]
        rw [getD_set_ne false (Ne.symm e)] at hj
        have hni : cons.contains (j, i) = false := by
          cases hx : cons.contains (j, i) with
          | false => rfl
          | true =>
            have := hcj i hx
            rw [hset] at this
            cases this
        refine mono _ _ _ _ ⟨i, fun e' => e e'.symm, hni, hW⟩ (hJ j hj fun c hc => ?_)
        have h2 := hcj c hc
        by_cases ec : c = i
        · subst ec
          rw [hset] at h2
          cases h2
        · rwa [getD_set_ne false (Ne.symm ec)] at h2
    · intro j hj
      by_cases e : j = i
      · subst e
        rw [hset] at hj
        cases hj
      · unfold upd
        rw [if_neg e]
        rw [getD_set_ne false (Ne.symm e)] at hj
        exact hu j hj
    · intro j o' hj ho' e he hbd
      by_cases ej : e.on = i
      · rw [ej]; exact hset
      · rw [getD_set_ne false (Ne.symm ej)]
        by_cases e2 : j = i
        · subst e2
          rw [ho] at ho'
          cases ho'
          exact hall e he hbd
        · rw [getD_set_ne false (Ne.symm e2)] at hj
          exact hcl j o' hj ho' e he hbd
end

/-- ONE OPERATION'S STEP, of a frame told by its slots -/
def StepI (P : Program) (ops : Array Oper) (Q : Exit → Act → World → Prop) (a : Act) (w : World) (R : World → World → Prop) (Rs : Nat → World → World → Prop) (cons : List (Nat × Nat)) (I : Nat → World → Prop) (ci : Nat → Nat) (js : List (Value → World → Prop)) (i : Nat) (o : Oper) : Prop :=
  ∀ (A : Act) (W : World), R w W → (∀ d, lateB ops i d = true → A.tmps.getD d undef = a.tmps.getD d undef) →
    (∀ j d, depB o j = true → (ops[j]?).bind (·.dst) = some d → rAtC cons js i j (A.tmps.getD d undef) W) → (∀ r n, reachB ops n (ci r) i = true → I r W) →
    ∀ K : Act → World → Prop, (∀ v W', Rs i W W' → rAt js i v W' → K (A.put o.dst v) W') →
      if Region.wanted o (yielded ops A.tmps) = true then Oper.wp P o A W K Q else K (A.put o.dst undef) W
/-- each operation -/
def EachI (T : Nat → Oper → Prop) (k : Nat) (l : List Oper) : Prop := ∀ j o, l[j]? = some o → T (k + j) o
theorem EachI.nil {T : Nat → Oper → Prop} {k : Nat} : EachI T k [] := fun j o h => by simp at h
theorem EachI.cons {T : Nat → Oper → Prop} {k : Nat} {o : Oper} {l : List Oper} (h : T k o) (t : EachI T (k + 1) l) : EachI T k (o :: l) := fun j o' h' => by
  cases j with
  | zero => simp only [List.getElem?_cons_zero, Option.some.injEq] at h'; subst h'; exact h
  | succ j =>
    rw [List.getElem?_cons_succ] at h'
    have := t j o' h'
    rw [show k + (j + 1) = k + 1 + j by omega]
    simpa using this

theorem wp_grow_ini {P : Program} {Q : Exit → Act → World → Prop} {id : Nat} {l : List Oper} {a : Act} {w : World} (R : World → World → Prop) (Rt : ∀ u v x, R u v → R v x → R u x) (Rd : ∀ u, R u u.drew) (Rs : Nat → World → World → Prop) (hRs : ∀ i W W', Rs i W W' → R W W') (cons : List (Nat × Nat)) (I : Nat → World → Prop) (ci : Nat → Nat) (monoI : ∀ r j W W', ci r ≠ j → Rs j W W' → I r W → I r W') (hI0 : ∀ r, I r w.drew) (js : List (Value → World → Prop)) (hm : P.follows .mixedOrders = true) (hap : apartB l.toArray = true) (hb : backB l.toArray = true) (hs : slotsB l.toArray a.tmps.size = true)
    (mono : ∀ i v W W', (∃ j, j ≠ i ∧ cons.contains (i, j) = false ∧ Rs j W W') → rAt js i v W → rAt js i v W')
    (step : EachI (StepI P l.toArray Q a w R Rs cons I ci js) 0 l)
    (fin : ∀ f W, R w W → (∀ i, i < l.length → (cons.all fun p => p.1 != i) = true → rAt js i (f i) W) → ∀ A, puts l.toArray a f l.length = A → Q .normal A W) :
    (Code.region id l.toArray true).wp P Q a w := by
  refine wp_region_any hm ?_
  have h := any_ini (P := P) (ops := l.toArray) (Q := Q) hap hb (a := a) (w := w) R Rt Rs hRs cons I ci monoI (fun i => rAt js i) mono ?_ ?_ l.toArray.size (Array.replicate l.toArray.size false) (f0 l.toArray a) w.drew (by simp) (by
    refine Nat.le_trans List.countP_le_length ?_
    simp) (Rd w) (fun r _ => hI0 r) (fun i hi _ => by rw [rep_false] at hi; cases hi) (fun i _ => rfl) (fun i o hi => by rw [rep_false] at hi; cases hi)
  · rw [puts_f0] at h
    exact h
  · intro i o ho f W hB hu hJ hI K hK
    have ho' : l[i]? = some o := by simpa using ho
    have h := step i o ho'
    rw [Nat.zero_add] at h
    refine h (puts l.toArray a f l.toArray.size) W hB (fun d hd => puts_late hap hs hd hu) ?_ hI K hK
    intro j d hdep hd
    have hlt : j < l.toArray.size := by
      cases e2 : l.toArray[j]? with
      | none => rw [e2] at hd; cases hd
      | some o' => exact (Array.getElem?_eq_some_iff.1 e2).1
    rw [puts_at hap hd (by
      cases e2 : l.toArray[j]? with
      | none => rw [e2] at hd; cases hd
      | some o' =>
        rw [e2] at hd
        simp only [Option.bind_some] at hd
        unfold slotsB at hs
        rw [Array.all_eq_true_iff_forall_mem] at hs
        have := hs o' (Array.mem_of_getElem? e2)
        rw [hd] at this
        exact of_decide_eq_true this) _ hlt (Nat.le_refl _)]
    unfold depB at hdep
    rw [Array.any_eq_true'] at hdep
    obtain ⟨e, he, hee⟩ := hdep
    simp only [Bool.and_eq_true, beq_iff_eq] at hee
    obtain ⟨rfl, hbd⟩ := hee
    unfold rAtC
    cases hfr : freeC cons i e.on with
    | false => exact trivial
    | true => exact hJ e he hbd hfr
  · intro f W hB hF
    exact fin f W hB (fun i hi hc => hF i (by simpa using hi) hc) _ rfl
end Go.Proofs.Ytnigadnjppeckaa.grow
