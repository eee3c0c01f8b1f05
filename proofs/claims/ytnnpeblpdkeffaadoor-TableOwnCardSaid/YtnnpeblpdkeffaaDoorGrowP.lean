/- THE LAW OF XGrowI, AND ONE FACT OF THE VALUES OF TWO OPERATIONS: whichever runs later shows it. (Printed by gp.py out of XGrowI.) No function of the program is named here. -/
import Derived.Test.YtnnpeblpdkeffaaDoorGrowI
namespace Go.Proofs.YtnnpeblpdkeffaaDoor.grow
open Go Go.RowKit

section
variable {P : Program} {ops : Array Oper} {Q : Exit → Act → World → Prop}
theorem any_pair (hap : apartB ops = true) (hb : backB ops = true) {a : Act} {w : World} (R : World → World → Prop) (Rt : ∀ u v x, R u v → R v x → R u x) (Rs : Nat → World → World → Prop) (hRs : ∀ i W W', Rs i W W' → R W W') (cons : List (Nat × Nat)) (I : Nat → World → Prop) (ci : Nat → Nat) (monoI : ∀ r j W W', ci r ≠ j → Rs j W W' → I r W → I r W') (p q : Nat) (Pr : Value → Value → Prop) (hpq : p ≠ q) (hpc : (cons.all fun x => x.1 != p && x.1 != q) = true) (J : Nat → Value → World → Prop)
    (mono : ∀ i v W W', (∃ j, j ≠ i ∧ cons.contains (i, j) = false ∧ Rs j W W') → J i v W → J i v W')
    (step : ∀ i o, ops[i]? = some o → ∀ f W, R w W → (∀ k ok, ops[k]? = some ok → depB ok i = true → f k = f0 ops a k) → (∀ e ∈ o.after, Region.binds .any e = true → freeC cons i e.on = true → J e.on (f e.on) W) → (∀ r n, reachB ops n (ci r) i = true → I r W) →
      ∀ K' : Act → World → Prop, (∀ v W', Rs i W W' → J i v W' → (i = p → ∀ u, J q u W → Pr v u) → (i = q → ∀ u, J p u W → Pr u v) → K' ((puts ops a f ops.size).put o.dst v) W') →
        if Region.wanted o (yielded ops (puts ops a f ops.size).tmps) = true then Oper.wp P o (puts ops a f ops.size) W K' Q else K' ((puts ops a f ops.size).put o.dst undef) W)
    (fin : ∀ f W, R w W → (∀ i, i < ops.size → (cons.all fun p => p.1 != i) = true → J i (f i) W) → (p < ops.size → q < ops.size → Pr (f p) (f q)) → Q .normal (puts ops a f ops.size) W) :
    ∀ (fuel : Nat) (listed : Array Bool) (f : Nat → Value) (W : World), listed.size = ops.size → (List.range ops.size).countP (fun i => !listed.getD i true) ≤ fuel → R w W → (∀ r, listed.getD (ci r) false = false → I r W) → (listed.getD p false = true → listed.getD q false = true → Pr (f p) (f q)) →
      (∀ i, listed.getD i false = true → (∀ c, cons.contains (i, c) = true → listed.getD c false = false) → J i (f i) W) → (∀ i, listed.getD i false = false → f i = f0 ops a i) → (∀ i o, listed.getD i false = true → ops[i]? = some o → ∀ e ∈ o.after, Region.binds .any e = true → listed.getD e.on false = true) →
      wpAny P .any ops Q fuel listed (puts ops a f ops.size) W := by
  intro fuel
  induction fuel with
  | zero =>
    intro listed f W hs hc hB hI hP hJ hu hcl
    have hall : ∀ i, i < ops.size → listed.getD i true = true := by
      intro i hi
      have h0 : (List.range ops.size).countP (fun i => !listed.getD i true) = 0 := by omega
      rw [List.countP_eq_zero] at h0
      simpa using h0 i (List.mem_range.2 hi)
    have hr : Region.ready .any ops listed = [] := by
      cases e : Region.ready .any ops listed with
      | nil => rfl
      | cons x l =>
        have hm : x ∈ Region.ready .any ops listed := by rw [e]; exact List.mem_cons_self
        rw [mem_ready] at hm
        obtain ⟨h0, o, ho, _⟩ := hm
        have := hall x (Array.getElem?_eq_some_iff.1 ho).1
        rw [this] at h0
        cases h0
    exact ⟨hr, fin f W hB (fun i hi hc => hJ i (all_listed hb hs hr i hi) (fun c h => absurd h (by rw [freeC_none hc]; decide))) (fun h1 h2 => hP (all_listed hb hs hr p h1) (all_listed hb hs hr q h2))⟩
  | succ fuel ih =>
    intro listed f W hs hc hB hI hP hJ hu hcl
    refine ⟨fun hr => fin f W hB (fun i hi hc => hJ i (all_listed hb hs hr i hi) (fun c h => absurd h (by rw [freeC_none hc]; decide))) (fun h1 h2 => hP (all_listed hb hs hr p h1) (all_listed hb hs hr q h2)), fun i hi => ?_⟩
    have hi' := hi
    rw [mem_ready] at hi'
    obtain ⟨h0, o, ho, hall⟩ := hi'
    have hlt : i < ops.size := (Array.getElem?_eq_some_iff.1 ho).1
    have hil : i < listed.size := by omega
    have h0f : listed.getD i false = false := by
      simp only [Array.getD_eq_getD_getElem?, Array.getElem?_eq_getElem hil, Option.getD_some] at h0 ⊢
      exact h0
    have hun : ∀ k ok, ops[k]? = some ok → depB ok i = true → f k = f0 ops a k := by
      intro k ok hk hd
      refine hu k ?_
      cases hlk : listed.getD k false with
      | false => rfl
      | true =>
        unfold depB at hd
        rw [Array.any_eq_true'] at hd
        obtain ⟨e, he, hee⟩ := hd
        simp only [Bool.and_eq_true, beq_iff_eq] at hee
        have := hcl k ok hlk hk e he hee.2
        rw [hee.1, h0f] at this
        cases this
    refine wpOp_step ho fun K' hK => step i o ho f W hB hun (fun e he hbd hfr => hJ e.on (hall e he hbd) (fun c hc => by rw [freeC_eq hfr hc]; exact h0f)) (fun r n hn => hI r (reachB_un hcl h0f n _ hn)) K' fun v W' hW hJ' hp1 hp2 => hK _ _ ?_
    have e1 : (puts ops a f ops.size).put o.dst v = puts ops a (upd f i v) ops.size := by
      rw [puts_upd hap ops.size hlt (Nat.le_refl _), ho]
      rfl
    rw [e1]
    have hset : (listed.setIfInBounds i true).getD i false = true := by simp [hil]
    refine ih _ _ _ (by simpa using hs) ?_ ?_ ?_ ?_ ?_ ?_ ?_
    · have := countP_lt (p := fun i => !listed.getD i true) (q := fun j => !(listed.setIfInBounds i true).getD j true) (fun j hj => by
        by_cases e : i = j
        · subst e
          simp only [h0, Bool.not_false]
        · simpa only [getD_set_ne true e] using hj) (i := i) (by simp only [h0, Bool.not_false]) (by simp [hil]) (List.range ops.size) (List.mem_range.2 hlt)
      omega
    · exact Rt _ _ _ hB (hRs _ _ _ hW)
    · intro r hr
      have hne : ci r ≠ i := fun e => by rw [e, hset] at hr; cases hr
      rw [getD_set_ne false (Ne.symm hne)] at hr
      exact monoI _ _ _ _ hne hW (hI r hr)
    · intro h1 h2
      have hcp : ∀ c, cons.contains (p, c) = true → listed.getD c false = false := fun c h => by
        rw [List.all_eq_true] at hpc
        have := hpc (p, c) (by simpa using h)
        simp at this
      have hcq : ∀ c, cons.contains (q, c) = true → listed.getD c false = false := fun c h => by
        rw [List.all_eq_true] at hpc
        have := hpc (q, c) (by simpa using h)
        simp at this
      by_cases ep : i = p
      · have eq' : q ≠ i := fun e => hpq (ep.symm.trans e.symm)
        rw [getD_set_ne false (Ne.symm eq')] at h2
        have := hp1 ep (f q) (hJ q h2 hcq)
        unfold upd
        rw [if_pos ep.symm, if_neg eq']
        exact this
      · by_cases eq : i = q
        · rw [getD_set_ne false ep] at h1
          have := hp2 eq (f p) (hJ p h1 hcp)
          unfold upd
          rw [if_neg (Ne.symm ep), if_pos eq.symm]
          exact this
        · rw [getD_set_ne false ep] at h1
          rw [getD_set_ne false eq] at h2
          unfold upd
          rw [if_neg (Ne.symm ep), if_neg (Ne.symm eq)]
          exact hP h1 h2
    · intro j hj hcj
      by_cases e : j = i
      · subst e
        unfold upd
        rw [if_pos rfl]
        exact hJ'
      · unfold upd
        rw [if_neg e]
        rw [getD_set_ne false (Ne.symm e)] at hj
        have hni : cons.contains (j, i) = false := by
          cases hx : cons.contains (j, i) with
          | false => rfl
          | true =>
            have := hcj i hx
            rw [hset] at this
            cases this
        refine mono _ _ _ _ ⟨i, fun e' => e e'.symm, hni, hW⟩ (hJ j hj fun c hc => ?_)
        have h2 := hcj c hc
        by_cases ec : c = i
        · subst ec
          rw [hset] at h2
          cases h2
        · rwa [getD_set_ne false (Ne.symm ec)] at h2
    · intro j hj
      by_cases e : j = i
      · subst e
        rw [hset] at hj
        cases hj
      · unfold upd
        rw [if_neg e]
        rw [getD_set_ne false (Ne.symm e)] at hj
        exact hu j hj
    · intro j o' hj ho' e he hbd
      by_cases ej : e.on = i
      · rw [ej]; exact hset
      · rw [getD_set_ne false (Ne.symm ej)]
        by_cases e2 : j = i
        · subst e2
          rw [ho] at ho'
          cases ho'
          exact hall e he hbd
        · rw [getD_set_ne false (Ne.symm e2)] at hj
          exact hcl j o' hj ho' e he hbd
end

/-- ONE OPERATION'S STEP, of a frame told by its slots -/
def StepP (P : Program) (ops : Array Oper) (Q : Exit → Act → World → Prop) (a : Act) (w : World) (R : World → World → Prop) (Rs : Nat → World → World → Prop) (cons : List (Nat × Nat)) (I : Nat → World → Prop) (ci : Nat → Nat) (p q : Nat) (Pr : Value → Value → Prop) (js : List (Value → World → Prop)) (i : Nat) (o : Oper) : Prop :=
  ∀ (A : Act) (W : World), R w W → (∀ d, lateB ops i d = true → A.tmps.getD d undef = a.tmps.getD d undef) →
    (∀ j d, depB o j = true → (ops[j]?).bind (·.dst) = some d → rAtC cons js i j (A.tmps.getD d undef) W) → (∀ r n, reachB ops n (ci r) i = true → I r W) →
    ∀ K : Act → World → Prop, (∀ v W', Rs i W W' → rAt js i v W' → (i = p → ∀ u, rAt js q u W → Pr v u) → (i = q → ∀ u, rAt js p u W → Pr u v) → K (A.put o.dst v) W') →
      if Region.wanted o (yielded ops A.tmps) = true then Oper.wp P o A W K Q else K (A.put o.dst undef) W
/-- each operation -/
def EachP (T : Nat → Oper → Prop) (k : Nat) (l : List Oper) : Prop := ∀ j o, l[j]? = some o → T (k + j) o
theorem EachP.nil {T : Nat → Oper → Prop} {k : Nat} : EachP T k [] := fun j o h => by simp at h
theorem EachP.cons {T : Nat → Oper → Prop} {k : Nat} {o : Oper} {l : List Oper} (h : T k o) (t : EachP T (k + 1) l) : EachP T k (o :: l) := fun j o' h' => by
  cases j with
  | zero => simp only [List.getElem?_cons_zero, Option.some.injEq] at h'; subst h'; exact h
  | succ j =>
    rw [List.getElem?_cons_succ] at h'
    have := t j o' h'
    rw [show k + (j + 1) = k + 1 + j by omega]
    simpa using this

theorem wp_grow_pair {P : Program} {Q : Exit → Act → World → Prop} {id : Nat} {l : List Oper} {a : Act} {w : World} (R : World → World → Prop) (Rt : ∀ u v x, R u v → R v x → R u x) (Rd : ∀ u, R u u.drew) (Rs : Nat → World → World → Prop) (hRs : ∀ i W W', Rs i W W' → R W W') (cons : List (Nat × Nat)) (I : Nat → World → Prop) (ci : Nat → Nat) (monoI : ∀ r j W W', ci r ≠ j → Rs j W W' → I r W → I r W') (hI0 : ∀ r, I r w.drew) (p q : Nat) (Pr : Value → Value → Prop) (hpq : p ≠ q) (hpc : (cons.all fun x => x.1 != p && x.1 != q) = true) (js : List (Value → World → Prop)) (hm : P.follows .mixedOrders = true) (hap : apartB l.toArray = true) (hb : backB l.toArray = true) (hs : slotsB l.toArray a.tmps.size = true)
    (mono : ∀ i v W W', (∃ j, j ≠ i ∧ cons.contains (i, j) = false ∧ Rs j W W') → rAt js i v W → rAt js i v W')
    (step : EachP (StepP P l.toArray Q a w R Rs cons I ci p q Pr js) 0 l)
    (fin : ∀ f W, R w W → (∀ i, i < l.length → (cons.all fun p => p.1 != i) = true → rAt js i (f i) W) → (p < l.length → q < l.length → Pr (f p) (f q)) → ∀ A, puts l.toArray a f l.length = A → Q .normal A W) :
    (Code.region id l.toArray true).wp P Q a w := by
  refine wp_region_any hm ?_
  have h := any_pair (P := P) (ops := l.toArray) (Q := Q) hap hb (a := a) (w := w) R Rt Rs hRs cons I ci monoI p q Pr hpq hpc (fun i => rAt js i) mono ?_ ?_ l.toArray.size (Array.replicate l.toArray.size false) (f0 l.toArray a) w.drew (by simp) (by
    refine Nat.le_trans List.countP_le_length ?_
    simp) (Rd w) (fun r _ => hI0 r) (fun h => by rw [rep_false] at h; cases h) (fun i hi _ => by rw [rep_false] at hi; cases hi) (fun i _ => rfl) (fun i o hi => by rw [rep_false] at hi; cases hi)
  · rw [puts_f0] at h
    exact h
  · intro i o ho f W hB hu hJ hI K hK
    have ho' : l[i]? = some o := by simpa using ho
    have h := step i o ho'
    rw [Nat.zero_add] at h
    refine h (puts l.toArray a f l.toArray.size) W hB (fun d hd => puts_late hap hs hd hu) ?_ hI K hK
    intro j d hdep hd
    have hlt : j < l.toArray.size := by
      cases e2 : l.toArray[j]? with
      | none => rw [e2] at hd; cases hd
      | some o' => exact (Array.getElem?_eq_some_iff.1 e2).1
    rw [puts_at hap hd (by
      cases e2 : l.toArray[j]? with
      | none => rw [e2] at hd; cases hd
      | some o' =>
        rw [e2] at hd
        simp only [Option.bind_some] at hd
        unfold slotsB at hs
        rw [Array.all_eq_true_iff_forall_mem] at hs
        have := hs o' (Array.mem_of_getElem? e2)
        rw [hd] at this
        exact of_decide_eq_true this) _ hlt (Nat.le_refl _)]
    unfold depB at hdep
    rw [Array.any_eq_true'] at hdep
    obtain ⟨e, he, hee⟩ := hdep
    simp only [Bool.and_eq_true, beq_iff_eq] at hee
    obtain ⟨rfl, hbd⟩ := hee
    unfold rAtC
    cases hfr : freeC cons i e.on with
    | false => exact trivial
    | true => exact hJ e he hbd hfr
  · intro f W hB hF hP
    exact fin f W hB (fun i hi hc => hF i (by simpa using hi) hc) (fun h1 h2 => hP (by simpa using h1) (by simpa using h2)) _ rfl
end Go.Proofs.YtnnpeblpdkeffaaDoor.grow
