/- A LAW FOR A REGION UNDER ANY ORDER OF WORLDS THAT IS KEPT: each operation is shown once, whatever order is drawn; what it keeps is told by the claim's own relation of worlds (transitive), not by growth alone. No function of the program is named here. -/
import Derived.Test.YtnigadnjppeckaaGrowD
namespace Go.Proofs.Ytnigadnjppeckaa.grow
open Go Go.RowKit

section
variable {P : Program} {ops : Array Oper} {Q : Exit → Act → World → Prop}
theorem any_rel (hap : apartB ops = true) (hb : backB ops = true) {a : Act} {w : World} (R : World → World → Prop) (Rt : ∀ u v x, R u v → R v x → R u x) (J : Nat → Value → World → Prop)
    (mono : ∀ i v W W', R W W' → J i v W → J i v W')
    (step : ∀ i o, ops[i]? = some o → ∀ f W, R w W → (∀ k ok, ops[k]? = some ok → depB ok i = true → f k = f0 ops a k) → (∀ e ∈ o.after, Region.binds .any e = true → J e.on (f e.on) W) →
      ∀ K' : Act → World → Prop, (∀ v W', R W W' → J i v W' → K' ((puts ops a f ops.size).put o.dst v) W') →
        if Region.wanted o (yielded ops (puts ops a f ops.size).tmps) = true then Oper.wp P o (puts ops a f ops.size) W K' Q else K' ((puts ops a f ops.size).put o.dst undef) W)
    (fin : ∀ f W, R w W → (∀ i, i < ops.size → J i (f i) W) → Q .normal (puts ops a f ops.size) W) :
    ∀ (fuel : Nat) (listed : Array Bool) (f : Nat → Value) (W : World), listed.size = ops.size → (List.range ops.size).countP (fun i => !listed.getD i true) ≤ fuel → R w W →
      (∀ i, listed.getD i false = true → J i (f i) W) → (∀ i, listed.getD i false = false → f i = f0 ops a i) → (∀ i o, listed.getD i false = true → ops[i]? = some o → ∀ e ∈ o.after, Region.binds .any e = true → listed.getD e.on false = true) →
      wpAny P .any ops Q fuel listed (puts ops a f ops.size) W := by
  intro fuel
  induction fuel with
  | zero =>
    intro listed f W hs hc hB hJ hu hcl
    have hall : ∀ i, i < ops.size → listed.getD i true = true := by
      intro i hi
      have h0 : (List.range ops.size).countP (fun i => !listed.getD i true) = 0 := by omega
      rw [List.countP_eq_zero] at h0
      simpa using h0 i (List.mem_range.2 hi)
    have hr : Region.ready .any ops listed = [] := by
      cases e : Region.ready .any ops listed with
      | nil => rfl
      | cons x l =>
        have hm : x ∈ Region.ready .any ops listed := by rw [e]; exact List.mem_cons_self
        rw [mem_ready] at hm
        obtain ⟨h0, o, ho, _⟩ := hm
        have := hall x (Array.getElem?_eq_some_iff.1 ho).1
        rw [this] at h0
        cases h0
    exact ⟨hr, fin f W hB (fun i hi => hJ i (all_listed hb hs hr i hi))⟩
  | succ fuel ih =>
    intro listed f W hs hc hB hJ hu hcl
    refine ⟨fun hr => fin f W hB (fun i hi => hJ i (all_listed hb hs hr i hi)), fun i hi => ?_⟩
    have hi' := hi
    rw [mem_ready] at hi'
    obtain ⟨h0, o, ho, hall⟩ := hi'
    have hlt : i < ops.size := (Array.getElem?_eq_some_iff.1 ho).1
    have hil : i < listed.size := by omega
    have h0f : listed.getD i false = false := by
      simp only [Array.getD_eq_getD_getElem?, Array.getElem?_eq_getElem hil, Option.getD_some] at h0 ⊢
      exact h0
    have hun : ∀ k ok, ops[k]? = some ok → depB ok i = true → f k = f0 ops a k := by
      intro k ok hk hd
      refine hu k ?_
      cases hlk : listed.getD k false with
      | false => rfl
      | true =>
        unfold depB at hd
        rw [Array.any_eq_true'] at hd
        obtain ⟨e, he, hee⟩ := hd
        simp only [Bool.and_eq_true, beq_iff_eq] at hee
        have := hcl k ok hlk hk e he hee.2
        rw [hee.1, h0f] at this
        cases this
    refine wpOp_step ho fun K' hK => step i o ho f W hB hun (fun e he hbd => hJ e.on (hall e he hbd)) K' fun v W' hW hJ' => hK _ _ ?_
    have e1 : (puts ops a f ops.size).put o.dst v = puts ops a (upd f i v) ops.size := by
      rw [puts_upd hap ops.size hlt (Nat.le_refl _), ho]
      rfl
    rw [e1]
    have hset : (listed.setIfInBounds i true).getD i false = true := by simp [hil]
    refine ih _ _ _ (by simpa using hs) ?_ ?_ ?_ ?_ ?_
    · have := countP_lt (p := fun i => !listed.getD i true) (q := fun j => !(listed.setIfInBounds i true).getD j true) (fun j hj => by
        by_cases e : i = j
        · subst e
          simp only [h0, Bool.not_false]
        · simpa only [getD_set_ne true e] using hj) (i := i) (by simp only [h0, Bool.not_false]) (by simp [hil]) (List.range ops.size) (List.mem_range.2 hlt)
      omega
    · exact Rt _ _ _ hB hW
    · intro j hj
      by_cases e : j = i
      · subst e
        unfold upd
        rw [if_pos rfl]
        exact hJ'
      · unfold upd
        rw [if_neg e]
        rw [getD_set_ne false (Ne.symm e)] at hj
        exact mono _ _ _ _ hW (hJ j hj)
    · intro j hj
      by_cases e : j = i
      · subst e
        rw [hset] at hj
        cases hj
      · unfold upd
        rw [if_neg e]
        rw [getD_set_ne false (Ne.symm e)] at hj
        exact hu j hj
    · intro j o' hj ho' e he hbd
      by_cases ej : e.on = i
      · rw [ej]; exact hset
      · rw [getD_set_ne false (Ne.symm ej)]
        by_cases e2 : j = i
        · subst e2
          rw [ho] at ho'
          cases ho'
          exact hall e he hbd
        · rw [getD_set_ne false (Ne.symm e2)] at hj
          exact hcl j o' hj ho' e he hbd
end

/-- what an operation keeps, by its place -/
def rAt (js : List (Value → World → Prop)) (i : Nat) : Value → World → Prop := js.getD i (fun _ _ => True)
def rEq (u : Value) : Value → World → Prop := fun v _ => v = u
def rAny : Value → World → Prop := fun _ _ => True
/-- ONE OPERATION'S STEP, of a frame told by its slots -/
def StepR (P : Program) (ops : Array Oper) (Q : Exit → Act → World → Prop) (a : Act) (w : World) (R : World → World → Prop) (js : List (Value → World → Prop)) (i : Nat) (o : Oper) : Prop :=
  ∀ (A : Act) (W : World), R w W → (∀ d, lateB ops i d = true → A.tmps.getD d undef = a.tmps.getD d undef) →
    (∀ j d, depB o j = true → (ops[j]?).bind (·.dst) = some d → rAt js j (A.tmps.getD d undef) W) →
    ∀ K : Act → World → Prop, (∀ v W', R W W' → rAt js i v W' → K (A.put o.dst v) W') →
      if Region.wanted o (yielded ops A.tmps) = true then Oper.wp P o A W K Q else K (A.put o.dst undef) W
/-- each operation -/
def EachR (T : Nat → Oper → Prop) (k : Nat) (l : List Oper) : Prop := ∀ j o, l[j]? = some o → T (k + j) o
theorem EachR.nil {T : Nat → Oper → Prop} {k : Nat} : EachR T k [] := fun j o h => by simp at h
theorem EachR.cons {T : Nat → Oper → Prop} {k : Nat} {o : Oper} {l : List Oper} (h : T k o) (t : EachR T (k + 1) l) : EachR T k (o :: l) := fun j o' h' => by
  cases j with
  | zero => simp only [List.getElem?_cons_zero, Option.some.injEq] at h'; subst h'; exact h
  | succ j =>
    rw [List.getElem?_cons_succ] at h'
    have := t j o' h'
    rw [show k + (j + 1) = k + 1 + j by omega]
    simpa using this

theorem wp_grow_rel {P : Program} {Q : Exit → Act → World → Prop} {id : Nat} {l : List Oper} {a : Act} {w : World} (R : World → World → Prop) (Rt : ∀ u v x, R u v → R v x → R u x) (Rd : ∀ u, R u u.drew) (js : List (Value → World → Prop)) (hm : P.follows .mixedOrders = true) (hap : apartB l.toArray = true) (hb : backB l.toArray = true) (hs : slotsB l.toArray a.tmps.size = true)
    (mono : ∀ i v W W', R W W' → rAt js i v W → rAt js i v W')
    (step : EachR (StepR P l.toArray Q a w R js) 0 l)
    (fin : ∀ f W, R w W → (∀ i, i < l.length → rAt js i (f i) W) → ∀ A, puts l.toArray a f l.length = A → Q .normal A W) :
    (Code.region id l.toArray true).wp P Q a w := by
  refine wp_region_any hm ?_
  have h := any_rel (P := P) (ops := l.toArray) (Q := Q) hap hb (a := a) (w := w) R Rt (fun i => rAt js i) mono ?_ ?_ l.toArray.size (Array.replicate l.toArray.size false) (f0 l.toArray a) w.drew (by simp) (by
    refine Nat.le_trans List.countP_le_length ?_
    simp) (Rd w) (fun i hi => by rw [rep_false] at hi; cases hi) (fun i _ => rfl) (fun i o hi => by rw [rep_false] at hi; cases hi)
  · rw [puts_f0] at h
    exact h
  · intro i o ho f W hB hu hJ K hK
    have ho' : l[i]? = some o := by simpa using ho
    have h := step i o ho'
    rw [Nat.zero_add] at h
    refine h (puts l.toArray a f l.toArray.size) W hB (fun d hd => puts_late hap hs hd hu) ?_ K hK
    intro j d hdep hd
    have hlt : j < l.toArray.size := by
      cases e2 : l.toArray[j]? with
      | none => rw [e2] at hd; cases hd
      | some o' => exact (Array.getElem?_eq_some_iff.1 e2).1
    rw [puts_at hap hd (by
      cases e2 : l.toArray[j]? with
      | none => rw [e2] at hd; cases hd
      | some o' =>
        rw [e2] at hd
        simp only [Option.bind_some] at hd
        unfold slotsB at hs
        rw [Array.all_eq_true_iff_forall_mem] at hs
        have := hs o' (Array.mem_of_getElem? e2)
        rw [hd] at this
        exact of_decide_eq_true this) _ hlt (Nat.le_refl _)]
    unfold depB at hdep
    rw [Array.any_eq_true'] at hdep
    obtain ⟨e, he, hee⟩ := hdep
    simp only [Bool.and_eq_true, beq_iff_eq] at hee
    obtain ⟨rfl, hbd⟩ := hee
    exact hJ e he hbd
  · intro f W hB hF
    exact fin f W hB (fun i hi => hF i (by simpa using hi)) _ rfl
theorem monoR_of {R : World → World → Prop} {js : List (Value → World → Prop)} (h : ∀ i, i < js.length → ∀ v W W', R W W' → rAt js i v W → rAt js i v W') :
    ∀ i v W W', R W W' → rAt js i v W → rAt js i v W' := by
  intro i v W W' hW hq
  by_cases hi : i < js.length
  · exact h i hi v W W' hW hq
  · unfold rAt at hq ⊢
    rw [List.getD_eq_getElem?_getD, List.getElem?_eq_none (by omega)] at hq ⊢
    exact hq
end Go.Proofs.Ytnigadnjppeckaa.grow
/- THE LAW OF XGrowR, with one fact that an operation leaves of the value of an operation that it waits for (a store, of the address that it stores to). No function of the program is named here. -/
namespace Go.Proofs.Ytnigadnjppeckaa.grow
open Go Go.RowKit

section
variable {P : Program} {ops : Array Oper} {Q : Exit → Act → World → Prop}
theorem any_rell (hap : apartB ops = true) (hb : backB ops = true) {a : Act} {w : World} (R : World → World → Prop) (Rt : ∀ u v x, R u v → R v x → R u x) (J : Nat → Value → World → Prop) (si di : Nat) (LK : Value → World → Prop) (hdep : ∀ o, ops[si]? = some o → depB o di = true) (LKm : ∀ v W W', R W W' → LK v W → LK v W')
    (mono : ∀ i v W W', R W W' → J i v W → J i v W')
    (step : ∀ i o, ops[i]? = some o → ∀ f W, R w W → (∀ k ok, ops[k]? = some ok → depB ok i = true → f k = f0 ops a k) → (∀ e ∈ o.after, Region.binds .any e = true → J e.on (f e.on) W) →
      ∀ K' : Act → World → Prop, (∀ v W', R W W' → J i v W' → (i = si → LK (f di) W') → K' ((puts ops a f ops.size).put o.dst v) W') →
        if Region.wanted o (yielded ops (puts ops a f ops.size).tmps) = true then Oper.wp P o (puts ops a f ops.size) W K' Q else K' ((puts ops a f ops.size).put o.dst undef) W)
    (fin : ∀ f W, R w W → (∀ i, i < ops.size → J i (f i) W) → (si < ops.size → LK (f di) W) → Q .normal (puts ops a f ops.size) W) :
    ∀ (fuel : Nat) (listed : Array Bool) (f : Nat → Value) (W : World), listed.size = ops.size → (List.range ops.size).countP (fun i => !listed.getD i true) ≤ fuel → R w W →
      (∀ i, listed.getD i false = true → J i (f i) W) → (listed.getD si false = true → LK (f di) W) → (∀ i, listed.getD i false = false → f i = f0 ops a i) → (∀ i o, listed.getD i false = true → ops[i]? = some o → ∀ e ∈ o.after, Region.binds .any e = true → listed.getD e.on false = true) →
      wpAny P .any ops Q fuel listed (puts ops a f ops.size) W := by
  intro fuel
  induction fuel with
  | zero =>
    intro listed f W hs hc hB hJ hL hu hcl
    have hall : ∀ i, i < ops.size → listed.getD i true = true := by
      intro i hi
      have h0 : (List.range ops.size).countP (fun i => !listed.getD i true) = 0 := by omega
      rw [List.countP_eq_zero] at h0
      simpa using h0 i (List.mem_range.2 hi)
    have hr : Region.ready .any ops listed = [] := by
      cases e : Region.ready .any ops listed with
      | nil => rfl
      | cons x l =>
        have hm : x ∈ Region.ready .any ops listed := by rw [e]; exact List.mem_cons_self
        rw [mem_ready] at hm
        obtain ⟨h0, o, ho, _⟩ := hm
        have := hall x (Array.getElem?_eq_some_iff.1 ho).1
        rw [this] at h0
        cases h0
    exact ⟨hr, fin f W hB (fun i hi => hJ i (all_listed hb hs hr i hi)) (fun hi => hL (all_listed hb hs hr si hi))⟩
  | succ fuel ih =>
    intro listed f W hs hc hB hJ hL hu hcl
    refine ⟨fun hr => fin f W hB (fun i hi => hJ i (all_listed hb hs hr i hi)) (fun hi => hL (all_listed hb hs hr si hi)), fun i hi => ?_⟩
    have hi' := hi
    rw [mem_ready] at hi'
    obtain ⟨h0, o, ho, hall⟩ := hi'
    have hlt : i < ops.size := (Array.getElem?_eq_some_iff.1 ho).1
    have hil : i < listed.size := by omega
    have h0f : listed.getD i false = false := by
      simp only [Array.getD_eq_getD_getElem?, Array.getElem?_eq_getElem hil, Option.getD_some] at h0 ⊢
      exact h0
    have hun : ∀ k ok, ops[k]? = some ok → depB ok i = true → f k = f0 ops a k := by
      intro k ok hk hd
      refine hu k ?_
      cases hlk : listed.getD k false with
      | false => rfl
      | true =>
        unfold depB at hd
        rw [Array.any_eq_true'] at hd
        obtain ⟨e, he, hee⟩ := hd
        simp only [Bool.and_eq_true, beq_iff_eq] at hee
        have := hcl k ok hlk hk e he hee.2
        rw [hee.1, h0f] at this
        cases this
    refine wpOp_step ho fun K' hK => step i o ho f W hB hun (fun e he hbd => hJ e.on (hall e he hbd)) K' fun v W' hW hJ' hL' => hK _ _ ?_
    have e1 : (puts ops a f ops.size).put o.dst v = puts ops a (upd f i v) ops.size := by
      rw [puts_upd hap ops.size hlt (Nat.le_refl _), ho]
      rfl
    rw [e1]
    have hset : (listed.setIfInBounds i true).getD i false = true := by simp [hil]
    refine ih _ _ _ (by simpa using hs) ?_ ?_ ?_ ?_ ?_ ?_
    · have := countP_lt (p := fun i => !listed.getD i true) (q := fun j => !(listed.setIfInBounds i true).getD j true) (fun j hj => by
        by_cases e : i = j
        · subst e
          simp only [h0, Bool.not_false]
        · simpa only [getD_set_ne true e] using hj) (i := i) (by simp only [h0, Bool.not_false]) (by simp [hil]) (List.range ops.size) (List.mem_range.2 hlt)
      omega
    · exact Rt _ _ _ hB hW
    · intro j hj
      by_cases e : j = i
      · subst e
        unfold upd
        rw [if_pos rfl]
        exact hJ'
      · unfold upd
        rw [if_neg e]
        rw [getD_set_ne false (Ne.symm e)] at hj
        exact mono _ _ _ _ hW (hJ j hj)
    · intro hsl
      have hdi : di ≠ i := by
        intro e
        subst e
        by_cases e2 : si = di
        · subst e2
          have h1 := hdep o ho
          unfold depB at h1
          rw [Array.any_eq_true'] at h1
          obtain ⟨e, he, hee⟩ := h1
          simp only [Bool.and_eq_true, beq_iff_eq] at hee
          have h2 := hall e he hee.2
          rw [hee.1, h0f] at h2
          cases h2
        · rw [getD_set_ne false (fun h => e2 h.symm)] at hsl
          cases e3 : ops[si]? with
          | none =>
            have h3 : listed.size ≤ si := by rw [hs]; exact Array.getElem?_eq_none_iff.1 e3
            rw [Array.getD_eq_getD_getElem?, Array.getElem?_eq_none h3] at hsl
            cases hsl
          | some o3 =>
            have h1 := hdep o3 e3
            unfold depB at h1
            rw [Array.any_eq_true'] at h1
            obtain ⟨e, he, hee⟩ := h1
            simp only [Bool.and_eq_true, beq_iff_eq] at hee
            have h2 := hcl si o3 hsl e3 e he hee.2
            rw [hee.1, h0f] at h2
            cases h2
      have hup : upd f i v di = f di := by unfold upd; rw [if_neg hdi]
      rw [hup]
      by_cases e : i = si
      · exact hL' e
      · rw [getD_set_ne false e] at hsl
        exact LKm _ _ _ hW (hL hsl)
    · intro j hj
      by_cases e : j = i
      · subst e
        rw [hset] at hj
        cases hj
      · unfold upd
        rw [if_neg e]
        rw [getD_set_ne false (Ne.symm e)] at hj
        exact hu j hj
    · intro j o' hj ho' e he hbd
      by_cases ej : e.on = i
      · rw [ej]; exact hset
      · rw [getD_set_ne false (Ne.symm ej)]
        by_cases e2 : j = i
        · subst e2
          rw [ho] at ho'
          cases ho'
          exact hall e he hbd
        · rw [getD_set_ne false (Ne.symm e2)] at hj
          exact hcl j o' hj ho' e he hbd
end

/-- ONE OPERATION'S STEP, of a frame told by its slots -/
def StepRL (P : Program) (ops : Array Oper) (Q : Exit → Act → World → Prop) (a : Act) (w : World) (R : World → World → Prop) (js : List (Value → World → Prop)) (si dd : Nat) (LK : Value → World → Prop) (i : Nat) (o : Oper) : Prop :=
  ∀ (A : Act) (W : World), R w W → (∀ d, lateB ops i d = true → A.tmps.getD d undef = a.tmps.getD d undef) →
    (∀ j d, depB o j = true → (ops[j]?).bind (·.dst) = some d → rAt js j (A.tmps.getD d undef) W) →
    ∀ K : Act → World → Prop, (∀ v W', R W W' → rAt js i v W' → (i = si → LK (A.tmps.getD dd undef) W') → K (A.put o.dst v) W') →
      if Region.wanted o (yielded ops A.tmps) = true then Oper.wp P o A W K Q else K (A.put o.dst undef) W
theorem dep_of {l : List Oper} {si di : Nat} (h : (match l.toArray[si]? with | none => true | some o => depB o di) = true) : ∀ o, l.toArray[si]? = some o → depB o di = true := fun o ho => by rw [ho] at h; exact h
theorem wp_grow_rell {P : Program} {Q : Exit → Act → World → Prop} {id : Nat} {l : List Oper} {a : Act} {w : World} (R : World → World → Prop) (Rt : ∀ u v x, R u v → R v x → R u x) (Rd : ∀ u, R u u.drew) (js : List (Value → World → Prop)) (si di dd : Nat) (LK : Value → World → Prop) (hdep : ∀ o, l.toArray[si]? = some o → depB o di = true) (hdd : (l.toArray[di]?).bind (·.dst) = some dd) (LKm : ∀ v W W', R W W' → LK v W → LK v W') (hm : P.follows .mixedOrders = true) (hap : apartB l.toArray = true) (hb : backB l.toArray = true) (hs : slotsB l.toArray a.tmps.size = true)
    (mono : ∀ i v W W', R W W' → rAt js i v W → rAt js i v W')
    (step : EachR (StepRL P l.toArray Q a w R js si dd LK) 0 l)
    (fin : ∀ f W, R w W → (∀ i, i < l.length → rAt js i (f i) W) → (si < l.length → LK (f di) W) → ∀ A, puts l.toArray a f l.length = A → Q .normal A W) :
    (Code.region id l.toArray true).wp P Q a w := by
  refine wp_region_any hm ?_
  have hvd : ∀ f, (puts l.toArray a f l.toArray.size).tmps.getD dd undef = f di := fun f => by
    cases e2 : l.toArray[di]? with
    | none => rw [e2] at hdd; cases hdd
    | some o' =>
      refine puts_at hap hdd ?_ _ (Array.getElem?_eq_some_iff.1 e2).1 (Nat.le_refl _)
      rw [e2] at hdd
      simp only [Option.bind_some] at hdd
      unfold slotsB at hs
      rw [Array.all_eq_true_iff_forall_mem] at hs
      have := hs o' (Array.mem_of_getElem? e2)
      rw [hdd] at this
      exact of_decide_eq_true this
  have h := any_rell (P := P) (ops := l.toArray) (Q := Q) hap hb (a := a) (w := w) R Rt (fun i => rAt js i) si di LK hdep LKm mono ?_ ?_ l.toArray.size (Array.replicate l.toArray.size false) (f0 l.toArray a) w.drew (by simp) (by
    refine Nat.le_trans List.countP_le_length ?_
    simp) (Rd w) (fun i hi => by rw [rep_false] at hi; cases hi) (fun hi => by rw [rep_false] at hi; cases hi) (fun i _ => rfl) (fun i o hi => by rw [rep_false] at hi; cases hi)
  · rw [puts_f0] at h
    exact h
  · intro i o ho f W hB hu hJ K hK
    have ho' : l[i]? = some o := by simpa using ho
    have h := step i o ho'
    rw [Nat.zero_add] at h
    refine h (puts l.toArray a f l.toArray.size) W hB (fun d hd => puts_late hap hs hd hu) ?_ K (fun v W' h1 h2 h3 => hK v W' h1 h2 (fun e => by rw [← hvd f]; exact h3 e))
    intro j d hdep hd
    have hlt : j < l.toArray.size := by
      cases e2 : l.toArray[j]? with
      | none => rw [e2] at hd; cases hd
      | some o' => exact (Array.getElem?_eq_some_iff.1 e2).1
    rw [puts_at hap hd (by
      cases e2 : l.toArray[j]? with
      | none => rw [e2] at hd; cases hd
      | some o' =>
        rw [e2] at hd
        simp only [Option.bind_some] at hd
        unfold slotsB at hs
        rw [Array.all_eq_true_iff_forall_mem] at hs
        have := hs o' (Array.mem_of_getElem? e2)
        rw [hd] at this
        exact of_decide_eq_true this) _ hlt (Nat.le_refl _)]
    unfold depB at hdep
    rw [Array.any_eq_true'] at hdep
    obtain ⟨e, he, hee⟩ := hdep
    simp only [Bool.and_eq_true, beq_iff_eq] at hee
    obtain ⟨rfl, hbd⟩ := hee
    exact hJ e he hbd
  · intro f W hB hF hL
    exact fin f W hB (fun i hi => hF i (by simpa using hi)) (fun hi => hL (by simpa using hi)) _ rfl
end Go.Proofs.Ytnigadnjppeckaa.grow
