/- THE LAW OF XGrowT, AND ONE FACT OF THE VALUES OF TWO OPERATIONS: whichever runs later shows it. (Printed by gtp.py out of XGrowT.) No function of the program is named here. -/
import Derived.Test.YtnigadnjppeckaaGrowT
namespace Go.Proofs.Ytnigadnjppeckaa.grow
open Go Go.RowKit

/-- a step that also shows the fact of the values of p and q -/
def StepTP (P : Program) (ops : Array Oper) (n : Nat) (Q : Exit → Act → World → Prop) (a : Act) (w : World) (p q : Nat) (Pr : Value → Value → Prop) (js : List Kept) (i : Nat) (o : Oper) : Prop :=
  ∀ (A : Act) (W : World), Below w.heap.size w W → (∀ d, ownL ops n d = false → A.tmps.getD d undef = a.tmps.getD d undef) →
    (∀ j d, depB o j = true → (ops[j]?).bind (·.dst) = some d → (kAt js j).q (A.tmps.getD d undef) W) →
    ∀ K : Act → World → Prop, (∀ v W', Below W.heap.size W W' → (kAt js i).q v W' → (i = p → ∀ u, (kAt js q).q u W → Pr v u) → (i = q → ∀ u, (kAt js p).q u W → Pr u v) → K (A.put o.dst v) W') →
      if Region.wanted o (yielded ops A.tmps) = true then Oper.wp P o A W K Q else K (A.put o.dst undef) W

section
variable {P : Program} {ops : Array Oper} {Q : Exit → Act → World → Prop}
theorem any_grow_tailp {n : Nat} (hn : n ≤ ops.size) (hap : ∀ i j d e, i < n → j < i → (ops[i]?).bind (·.dst) = some d → (ops[j]?).bind (·.dst) = some e → d ≠ e)
    (hb : backB ops = true) (htl : tailB ops n = true) {a : Act} {w : World} (p q : Nat) (Pr : Value → Value → Prop) (hpq : p ≠ q) (J : Nat → Value → World → Prop)
    (mono : ∀ i v W W', Below W.heap.size W W' → J i v W → J i v W')
    (step : ∀ i o, i < n → ops[i]? = some o → ∀ f W, Below w.heap.size w W → (∀ e ∈ o.after, Region.binds .any e = true → J e.on (f e.on) W) →
      ∀ K' : Act → World → Prop, (∀ v W', Below W.heap.size W W' → J i v W' → (i = p → ∀ u, J q u W → Pr v u) → (i = q → ∀ u, J p u W → Pr u v) → K' ((puts ops a f n).put o.dst v) W') →
        if Region.wanted o (yielded ops (puts ops a f n).tmps) = true then Oper.wp P o (puts ops a f n) W K' Q else K' ((puts ops a f n).put o.dst undef) W)
    (fin : ∀ f W, Below w.heap.size w W → (∀ i, i < n → J i (f i) W) → (p < n → q < n → Pr (f p) (f q)) → wpList P ops Q (ops.toList.drop n) (puts ops a f n) W) :
    ∀ (fuel : Nat) (listed : Array Bool) (f : Nat → Value) (W : World), listed.size = ops.size → (List.range ops.size).countP (fun i => !listed.getD i true) ≤ fuel → Below w.heap.size w W →
      (∀ i, i < n → listed.getD i false = true → J i (f i) W) → (listed.getD p false = true → listed.getD q false = true → Pr (f p) (f q)) → (∀ i, n ≤ i → listed.getD i false = false) → (∀ i o, listed.getD i false = true → ops[i]? = some o → ∀ e ∈ o.after, Region.binds .any e = true → listed.getD e.on false = true) →
      wpAny P .any ops Q fuel listed (puts ops a f n) W := by
  have hsame : ∀ (f : Nat → Value) (i : Nat) (v : Value), i < n → (puts ops a f n).put ((ops[i]?).bind (·.dst)) v = puts ops a (upd f i v) n := by
    intro f i v hi
    have h : ∀ k, i < k → k ≤ n → puts ops a (upd f i v) k = (puts ops a f k).put ((ops[i]?).bind (·.dst)) v := by
      intro k
      induction k with
      | zero => intro h; omega
      | succ k ih =>
        intro h hk
        simp only [puts]
        by_cases e : i = k
        · subst e
          rw [puts_same i (Nat.le_refl _), put_put, show upd f i v i = v by unfold upd; rw [if_pos rfl]]
        · rw [ih (by omega) (by omega), show upd f i v k = f k by unfold upd; rw [if_neg (by omega)]]
          refine Act.put_comm _ _ _ ?_
          intro d hd he
          exact hap k i d d (by omega) (by omega) he hd rfl
    exact (h n hi (Nat.le_refl _)).symm
  have hpass : ∀ (fuel : Nat) (listed : Array Bool) (f : Nat → Value) (W : World), listed.size = ops.size → (List.range ops.size).countP (fun i => !listed.getD i true) ≤ fuel → Below w.heap.size w W →
      (∀ i, i < n → listed.getD i false = true → J i (f i) W) → (listed.getD p false = true → listed.getD q false = true → Pr (f p) (f q)) → (∀ i, n ≤ i → listed.getD i false = false) → (∀ i, i < n → listed.getD i false = true) → wpAny P .any ops Q fuel listed (puts ops a f n) W := by
    intro fuel listed f W hs hc hB hJ hP hno hfull
    have hle : ops.size - n ≤ fuel := by
      refine Nat.le_trans ?_ hc
      rw [← cnt_range n ops.size]
      refine List.countP_mono_left fun x hx h => ?_
      have hx' : x < ops.size := List.mem_range.1 hx
      have h2 := hno x (by simpa using h)
      have hx2 : x < listed.size := by omega
      simp only [Array.getD_eq_getD_getElem?, Array.getElem?_eq_getElem hx2, Option.getD_some] at h2 ⊢
      rw [h2]
      rfl
    exact tail_run hb htl (ops.size - n) n fuel listed _ W (by omega) (Nat.le_refl _) hle hs hfull hno (fin f W hB (fun i hi => hJ i hi (hfull i hi)) (fun h1 h2 => hP (hfull p h1) (hfull q h2)))
  intro fuel
  induction fuel with
  | zero =>
    intro listed f W hs hc hB hJ hP hno hcl
    refine hpass 0 listed f W hs hc hB hJ hP hno ?_
    intro i hi
    have h0 : (List.range ops.size).countP (fun i => !listed.getD i true) = 0 := by omega
    rw [List.countP_eq_zero] at h0
    have := h0 i (List.mem_range.2 (by omega))
    have hi' : i < listed.size := by omega
    simp only [Array.getD_eq_getD_getElem?, Array.getElem?_eq_getElem hi', Option.getD_some] at this ⊢
    simpa using this
  | succ fuel ih =>
    intro listed f W hs hc hB hJ hP hno hcl
    by_cases hfull : ∀ i, i < n → listed.getD i false = true
    · exact hpass (fuel + 1) listed f W hs hc hB hJ hP hno hfull
    refine ⟨fun hr => ?_, fun i hi => ?_⟩
    · exfalso
      refine hfull fun i hi => ?_
      exact all_listed hb hs hr i (by omega)
    · have hi' := hi
      rw [mem_ready] at hi'
      obtain ⟨h0, o, ho, hall⟩ := hi'
      have hlt : i < ops.size := (Array.getElem?_eq_some_iff.1 ho).1
      have hin' : i < n := by
        rcases Nat.lt_or_ge i n with h | h
        · exact h
        · exfalso
          have ht' := htl
          unfold tailB at ht'
          rw [List.all_eq_true] at ht'
          have h1 := ht' i (List.mem_range.2 hlt)
          have h2 : topB ops i = true := by
            simp only [Bool.or_eq_true, decide_eq_true_eq] at h1
            rcases h1 with h1 | h1
            · omega
            · exact h1
          unfold topB at h2
          rw [List.all_eq_true] at h2
          refine hfull fun j hj => ?_
          have h3 := h2 j (List.mem_range.2 (by omega))
          exact anc_listed ho hall hcl j (ancs_sound ops i j (by simpa using h3)) (by omega)
      refine wpOp_step ho fun K' hK => step i o hin' ho f W hB (fun e he hbd => hJ e.on (by
        unfold backB at hb
        rw [List.all_eq_true] at hb
        have h1 := hb i (List.mem_range.2 hlt)
        rw [ho] at h1
        simp only [Array.all_eq_true_iff_forall_mem] at h1
        have := back_lt hbd (h1 e he)
        omega) (hall e he hbd)) K' fun v W' hW hJ' hp1 hp2 => hK _ _ ?_
      have e1 : (puts ops a f n).put o.dst v = puts ops a (upd f i v) n := by
        rw [← hsame f i v hin', ho]
        rfl
      rw [e1]
      have hne : ∀ j, j ≠ i → ∀ b, (listed.setIfInBounds i true).getD j b = listed.getD j b := fun j hj b => getD_set_ne b (Ne.symm hj)
      have hset : (listed.setIfInBounds i true).getD i false = true := by
        have : i < listed.size := by omega
        simp [this]
      refine ih _ _ _ (by simpa using hs) ?_ (hB.trans (hW.mono hB.size)) ?_ ?_ ?_ ?_
      · have := countP_lt (p := fun i => !listed.getD i true) (q := fun j => !(listed.setIfInBounds i true).getD j true) (fun j hj => by
          by_cases e : i = j
          · subst e
            simp only [h0, Bool.not_false]
          · simpa only [getD_set_ne true e] using hj) (i := i) (by simp only [h0, Bool.not_false]) (by
            have : i < listed.size := by omega
            simp [this]) (List.range ops.size) (List.mem_range.2 hlt)
        omega
      · intro j hjn hj
        by_cases e : j = i
        · subst e
          unfold upd
          rw [if_pos rfl]
          exact hJ'
        · unfold upd
          rw [if_neg e]
          rw [hne j e] at hj
          exact mono _ _ _ _ hW (hJ j hjn hj)
      · intro h1 h2
        have hlt_of : ∀ x, listed.getD x false = true → x < n := fun x hx => by
          rcases Nat.lt_or_ge x n with h | h
          · exact h
          · rw [hno x h] at hx; cases hx
        by_cases ep : i = p
        · have eq' : q ≠ i := fun e => hpq (ep.symm.trans e.symm)
          rw [hne q eq'] at h2
          have := hp1 ep (f q) (hJ q (hlt_of q h2) h2)
          unfold upd
          rw [if_pos ep.symm, if_neg eq']
          exact this
        · by_cases eq : i = q
          · rw [hne p (Ne.symm ep)] at h1
            have := hp2 eq (f p) (hJ p (hlt_of p h1) h1)
            unfold upd
            rw [if_neg (Ne.symm ep), if_pos eq.symm]
            exact this
          · rw [hne p (Ne.symm ep)] at h1
            rw [hne q (Ne.symm eq)] at h2
            unfold upd
            rw [if_neg (Ne.symm ep), if_neg (Ne.symm eq)]
            exact hP h1 h2
      · intro j hj
        rw [hne j (by omega)]
        exact hno j hj
      · intro j o' hj ho' e he hbd
        by_cases ej : e.on = i
        · rw [ej]; exact hset
        · rw [hne _ ej]
          by_cases e2 : j = i
          · subst e2
            rw [ho] at ho'
            cases ho'
            exact hall e he hbd
          · rw [hne j e2] at hj
            exact hcl j o' hj ho' e he hbd
end

theorem wp_grow_tailp {P : Program} {Q : Exit → Act → World → Prop} {id : Nat} {l : List Oper} {a : Act} {w : World} (n p q : Nat) (Pr : Value → Value → Prop) (hpq : p ≠ q) (js : List Kept) (hn : n ≤ l.length) (hm : P.follows .mixedOrders = true)
    (hap : apartL l.toArray n = true) (hb : backB l.toArray = true) (hs : slotsB l.toArray a.tmps.size = true) (htl : tailB l.toArray n = true)
    (step : EachT (StepTP P l.toArray n Q a w p q Pr js) 0 n l)
    (fin : ∀ f W, Below w.heap.size w W → (∀ i, i < n → (kAt js i).q (f i) W) → (p < n → q < n → Pr (f p) (f q)) → ∀ A, puts l.toArray a f n = A → wpList P l.toArray Q (l.drop n) A W) :
    (Code.region id l.toArray true).wp P Q a w := by
  refine wp_region_any hm ?_
  obtain ⟨f, hf⟩ := puts_own l.toArray a
  have h := any_grow_tailp (P := P) (ops := l.toArray) (Q := Q) (n := n) (by simpa using hn) (fun i j d e hi hj hd he => apartL_of hap hi hj hd he) hb htl (a := a) (w := w) p q Pr hpq (fun i => (kAt js i).q) (fun i v W W' h => (kAt js i).mono v W W' h) ?_ ?_ l.toArray.size (Array.replicate l.toArray.size false) f w.drew (by simp) (by
    refine Nat.le_trans List.countP_le_length ?_
    simp) (belowDrew w) (fun i _ hi => by rw [rep_no] at hi; cases hi) (fun h => by rw [rep_no] at h; cases h) (fun i _ => rep_no _ _) (fun i o hi => by rw [rep_no] at hi; cases hi)
  · rw [hf] at h
    exact h
  · intro i o hi ho f W hB hJ K hK
    have ho' : l[i]? = some o := by simpa using ho
    have h := step i o hi ho'
    rw [Nat.zero_add] at h
    refine h (puts l.toArray a f n) W hB (fun d hd => putsL_off (ownL_no hd) _ (Nat.le_refl _)) ?_ K hK
    intro j d hdep hd
    unfold depB at hdep
    rw [Array.any_eq_true'] at hdep
    obtain ⟨e, he, hee⟩ := hdep
    simp only [Bool.and_eq_true, beq_iff_eq] at hee
    obtain ⟨rfl, hbd⟩ := hee
    have hlt : e.on < i := by
      have hb' := hb
      unfold backB at hb'
      rw [List.all_eq_true] at hb'
      have h1 := hb' i (List.mem_range.2 (by have := (Array.getElem?_eq_some_iff.1 ho).1; omega))
      rw [ho] at h1
      simp only [Array.all_eq_true_iff_forall_mem] at h1
      exact back_lt hbd (h1 e he)
    rw [putsL_at hap hd (by
      cases e2 : l.toArray[e.on]? with
      | none => rw [e2] at hd; cases hd
      | some o' =>
        rw [e2] at hd
        simp only [Option.bind_some] at hd
        unfold slotsB at hs
        rw [Array.all_eq_true_iff_forall_mem] at hs
        have := hs o' (Array.mem_of_getElem? e2)
        rw [hd] at this
        exact of_decide_eq_true this) n (by omega) (Nat.le_refl _)]
    exact hJ e he hbd
  · intro f W hB hF hP
    exact fin f W hB hF hP _ rfl
end Go.Proofs.Ytnigadnjppeckaa.grow
/- THE LAW OF XGrowTP, EACH OPERATION WITH ITS OWN RELATION OF WORLDS, AND WHAT ONE STORE LEAVES OF THE VALUE OF AN OPERATION THAT IT WAITS FOR. (Printed by gtl.py out of XGrowTP.) No function of the program is named here. -/
namespace Go.Proofs.Ytnigadnjppeckaa.grow
open Go Go.RowKit

def lAt (js : List (Value → World → Prop)) (i : Nat) : Value → World → Prop := (js[i]?).getD fun _ _ => True
/-- a step that also shows the fact of the values of p and q -/
def StepTL (P : Program) (ops : Array Oper) (n : Nat) (Q : Exit → Act → World → Prop) (a : Act) (w : World) (R : World → World → Prop) (Rs : Nat → World → World → Prop) (p q : Nat) (Pr : Value → Value → Prop) (sx ld : Nat) (Lk : Value → World → Prop) (js : List (Value → World → Prop)) (i : Nat) (o : Oper) : Prop :=
  ∀ (A : Act) (W : World), R w W → (∀ d, ownL ops n d = false → A.tmps.getD d undef = a.tmps.getD d undef) →
    (∀ j d, depB o j = true → (ops[j]?).bind (·.dst) = some d → lAt js j (A.tmps.getD d undef) W) →
    ∀ K : Act → World → Prop, (∀ v W', Rs i W W' → lAt js i v W' → (i = p → ∀ u, lAt js q u W → Pr v u) → (i = q → ∀ u, lAt js p u W → Pr u v) → (i = sx → ∀ d, (ops[ld]?).bind (·.dst) = some d → Lk (A.tmps.getD d undef) W') → K (A.put o.dst v) W') →
      if Region.wanted o (yielded ops A.tmps) = true then Oper.wp P o A W K Q else K (A.put o.dst undef) W

section
variable {P : Program} {ops : Array Oper} {Q : Exit → Act → World → Prop}
theorem any_grow_taill {n : Nat} (hn : n ≤ ops.size) (hap : ∀ i j d e, i < n → j < i → (ops[i]?).bind (·.dst) = some d → (ops[j]?).bind (·.dst) = some e → d ≠ e)
    (hb : backB ops = true) (htl : tailB ops n = true) {a : Act} {w : World} (R : World → World → Prop) (Rt : ∀ u v x, R u v → R v x → R u x) (Rs : Nat → World → World → Prop) (hRs : ∀ i W W', Rs i W W' → R W W') (p q : Nat) (Pr : Value → Value → Prop) (hpq : p ≠ q) (sx ld : Nat) (Lk : Value → World → Prop) (monoL : ∀ j v W W', j ≠ sx → Rs j W W' → Lk v W → Lk v W') (hlo : ∀ o, ops[sx]? = some o → depB o ld = true) (J : Nat → Value → World → Prop)
    (mono : ∀ i j v W W', i ≠ j → Rs j W W' → J i v W → J i v W')
    (step : ∀ i o, i < n → ops[i]? = some o → ∀ f W, R w W → (∀ e ∈ o.after, Region.binds .any e = true → J e.on (f e.on) W) →
      ∀ K' : Act → World → Prop, (∀ v W', Rs i W W' → J i v W' → (i = p → ∀ u, J q u W → Pr v u) → (i = q → ∀ u, J p u W → Pr u v) → (i = sx → Lk (f ld) W') → K' ((puts ops a f n).put o.dst v) W') →
        if Region.wanted o (yielded ops (puts ops a f n).tmps) = true then Oper.wp P o (puts ops a f n) W K' Q else K' ((puts ops a f n).put o.dst undef) W)
    (fin : ∀ f W, R w W → (∀ i, i < n → J i (f i) W) → (p < n → q < n → Pr (f p) (f q)) → (sx < n → Lk (f ld) W) → wpList P ops Q (ops.toList.drop n) (puts ops a f n) W) :
    ∀ (fuel : Nat) (listed : Array Bool) (f : Nat → Value) (W : World), listed.size = ops.size → (List.range ops.size).countP (fun i => !listed.getD i true) ≤ fuel → R w W →
      (∀ i, i < n → listed.getD i false = true → J i (f i) W) → (listed.getD p false = true → listed.getD q false = true → Pr (f p) (f q)) → (listed.getD sx false = true → Lk (f ld) W) → (∀ i, n ≤ i → listed.getD i false = false) → (∀ i o, listed.getD i false = true → ops[i]? = some o → ∀ e ∈ o.after, Region.binds .any e = true → listed.getD e.on false = true) →
      wpAny P .any ops Q fuel listed (puts ops a f n) W := by
  have hsame : ∀ (f : Nat → Value) (i : Nat) (v : Value), i < n → (puts ops a f n).put ((ops[i]?).bind (·.dst)) v = puts ops a (upd f i v) n := by
    intro f i v hi
    have h : ∀ k, i < k → k ≤ n → puts ops a (upd f i v) k = (puts ops a f k).put ((ops[i]?).bind (·.dst)) v := by
      intro k
      induction k with
      | zero => intro h; omega
      | succ k ih =>
        intro h hk
        simp only [puts]
        by_cases e : i = k
        · subst e
          rw [puts_same i (Nat.le_refl _), put_put, show upd f i v i = v by unfold upd; rw [if_pos rfl]]
        · rw [ih (by omega) (by omega), show upd f i v k = f k by unfold upd; rw [if_neg (by omega)]]
          refine Act.put_comm _ _ _ ?_
          intro d hd he
          exact hap k i d d (by omega) (by omega) he hd rfl
    exact (h n hi (Nat.le_refl _)).symm
  have hpass : ∀ (fuel : Nat) (listed : Array Bool) (f : Nat → Value) (W : World), listed.size = ops.size → (List.range ops.size).countP (fun i => !listed.getD i true) ≤ fuel → R w W →
      (∀ i, i < n → listed.getD i false = true → J i (f i) W) → (listed.getD p false = true → listed.getD q false = true → Pr (f p) (f q)) → (listed.getD sx false = true → Lk (f ld) W) → (∀ i, n ≤ i → listed.getD i false = false) → (∀ i, i < n → listed.getD i false = true) → wpAny P .any ops Q fuel listed (puts ops a f n) W := by
    intro fuel listed f W hs hc hB hJ hP hL hno hfull
    have hle : ops.size - n ≤ fuel := by
      refine Nat.le_trans ?_ hc
      rw [← cnt_range n ops.size]
      refine List.countP_mono_left fun x hx h => ?_
      have hx' : x < ops.size := List.mem_range.1 hx
      have h2 := hno x (by simpa using h)
      have hx2 : x < listed.size := by omega
      simp only [Array.getD_eq_getD_getElem?, Array.getElem?_eq_getElem hx2, Option.getD_some] at h2 ⊢
      rw [h2]
      rfl
    exact tail_run hb htl (ops.size - n) n fuel listed _ W (by omega) (Nat.le_refl _) hle hs hfull hno (fin f W hB (fun i hi => hJ i hi (hfull i hi)) (fun h1 h2 => hP (hfull p h1) (hfull q h2)) (fun h => hL (hfull sx h)))
  intro fuel
  induction fuel with
  | zero =>
    intro listed f W hs hc hB hJ hP hL hno hcl
    refine hpass 0 listed f W hs hc hB hJ hP hL hno ?_
    intro i hi
    have h0 : (List.range ops.size).countP (fun i => !listed.getD i true) = 0 := by omega
    rw [List.countP_eq_zero] at h0
    have := h0 i (List.mem_range.2 (by omega))
    have hi' : i < listed.size := by omega
    simp only [Array.getD_eq_getD_getElem?, Array.getElem?_eq_getElem hi', Option.getD_some] at this ⊢
    simpa using this
  | succ fuel ih =>
    intro listed f W hs hc hB hJ hP hL hno hcl
    by_cases hfull : ∀ i, i < n → listed.getD i false = true
    · exact hpass (fuel + 1) listed f W hs hc hB hJ hP hL hno hfull
    refine ⟨fun hr => ?_, fun i hi => ?_⟩
    · exfalso
      refine hfull fun i hi => ?_
      exact all_listed hb hs hr i (by omega)
    · have hi' := hi
      rw [mem_ready] at hi'
      obtain ⟨h0, o, ho, hall⟩ := hi'
      have hlt : i < ops.size := (Array.getElem?_eq_some_iff.1 ho).1
      have hin' : i < n := by
        rcases Nat.lt_or_ge i n with h | h
        · exact h
        · exfalso
          have ht' := htl
          unfold tailB at ht'
          rw [List.all_eq_true] at ht'
          have h1 := ht' i (List.mem_range.2 hlt)
          have h2 : topB ops i = true := by
            simp only [Bool.or_eq_true, decide_eq_true_eq] at h1
            rcases h1 with h1 | h1
            · omega
            · exact h1
          unfold topB at h2
          rw [List.all_eq_true] at h2
          refine hfull fun j hj => ?_
          have h3 := h2 j (List.mem_range.2 (by omega))
          exact anc_listed ho hall hcl j (ancs_sound ops i j (by simpa using h3)) (by omega)
      refine wpOp_step ho fun K' hK => step i o hin' ho f W hB (fun e he hbd => hJ e.on (by
        unfold backB at hb
        rw [List.all_eq_true] at hb
        have h1 := hb i (List.mem_range.2 hlt)
        rw [ho] at h1
        simp only [Array.all_eq_true_iff_forall_mem] at h1
        have := back_lt hbd (h1 e he)
        omega) (hall e he hbd)) K' fun v W' hW hJ' hp1 hp2 hl1 => hK _ _ ?_
      have e1 : (puts ops a f n).put o.dst v = puts ops a (upd f i v) n := by
        rw [← hsame f i v hin', ho]
        rfl
      rw [e1]
      have hne : ∀ j, j ≠ i → ∀ b, (listed.setIfInBounds i true).getD j b = listed.getD j b := fun j hj b => getD_set_ne b (Ne.symm hj)
      have hset : (listed.setIfInBounds i true).getD i false = true := by
        have : i < listed.size := by omega
        simp [this]
      refine ih _ _ _ (by simpa using hs) ?_ (Rt _ _ _ hB (hRs _ _ _ hW)) ?_ ?_ ?_ ?_ ?_
      · have := countP_lt (p := fun i => !listed.getD i true) (q := fun j => !(listed.setIfInBounds i true).getD j true) (fun j hj => by
          by_cases e : i = j
          · subst e
            simp only [h0, Bool.not_false]
          · simpa only [getD_set_ne true e] using hj) (i := i) (by simp only [h0, Bool.not_false]) (by
            have : i < listed.size := by omega
            simp [this]) (List.range ops.size) (List.mem_range.2 hlt)
        omega
      · intro j hjn hj
        by_cases e : j = i
        · subst e
          unfold upd
          rw [if_pos rfl]
          exact hJ'
        · unfold upd
          rw [if_neg e]
          rw [hne j e] at hj
          exact mono _ _ _ _ _ e hW (hJ j hjn hj)
      · intro h1 h2
        have hlt_of : ∀ x, listed.getD x false = true → x < n := fun x hx => by
          rcases Nat.lt_or_ge x n with h | h
          · exact h
          · rw [hno x h] at hx; cases hx
        by_cases ep : i = p
        · have eq' : q ≠ i := fun e => hpq (ep.symm.trans e.symm)
          rw [hne q eq'] at h2
          have := hp1 ep (f q) (hJ q (hlt_of q h2) h2)
          unfold upd
          rw [if_pos ep.symm, if_neg eq']
          exact this
        · by_cases eq : i = q
          · rw [hne p (Ne.symm ep)] at h1
            have := hp2 eq (f p) (hJ p (hlt_of p h1) h1)
            unfold upd
            rw [if_neg (Ne.symm ep), if_pos eq.symm]
            exact this
          · rw [hne p (Ne.symm ep)] at h1
            rw [hne q (Ne.symm eq)] at h2
            unfold upd
            rw [if_neg (Ne.symm ep), if_neg (Ne.symm eq)]
            exact hP h1 h2
      · intro hsx
        by_cases es : i = sx
        · have hnl : ld ≠ i := by
            intro el
            have hd := hlo o (by rw [← es]; exact ho)
            unfold depB at hd
            rw [Array.any_eq_true'] at hd
            obtain ⟨e, he, hee⟩ := hd
            simp only [Bool.and_eq_true, beq_iff_eq] at hee
            have h1 := hall e he hee.2
            rw [hee.1, el] at h1
            have hil : i < listed.size := by omega
            simp only [Array.getD_eq_getD_getElem?, Array.getElem?_eq_getElem hil, Option.getD_some] at h0 h1
            rw [h1] at h0
            cases h0
          unfold upd
          rw [if_neg hnl]
          exact hl1 es
        · rw [hne sx (Ne.symm es)] at hsx
          have hsn : sx < n := by
            rcases Nat.lt_or_ge sx n with h | h
            · exact h
            · rw [hno sx h] at hsx; cases hsx
          have hso : ops[sx]? = some ops[sx] := Array.getElem?_eq_getElem (by omega)
          have hnl : ld ≠ i := by
            intro el
            have hd := hlo _ hso
            unfold depB at hd
            rw [Array.any_eq_true'] at hd
            obtain ⟨e, he, hee⟩ := hd
            simp only [Bool.and_eq_true, beq_iff_eq] at hee
            have h1 := hcl sx _ hsx hso e he hee.2
            rw [hee.1, el] at h1
            have hil : i < listed.size := by omega
            simp only [Array.getD_eq_getD_getElem?, Array.getElem?_eq_getElem hil, Option.getD_some] at h0 h1
            rw [h1] at h0
            cases h0
          unfold upd
          rw [if_neg hnl]
          exact monoL _ _ _ _ es hW (hL hsx)
      · intro j hj
        rw [hne j (by omega)]
        exact hno j hj
      · intro j o' hj ho' e he hbd
        by_cases ej : e.on = i
        · rw [ej]; exact hset
        · rw [hne _ ej]
          by_cases e2 : j = i
          · subst e2
            rw [ho] at ho'
            cases ho'
            exact hall e he hbd
          · rw [hne j e2] at hj
            exact hcl j o' hj ho' e he hbd
end

theorem wp_grow_taill {P : Program} {Q : Exit → Act → World → Prop} {id : Nat} {l : List Oper} {a : Act} {w : World} (n : Nat) (R : World → World → Prop) (Rt : ∀ u v x, R u v → R v x → R u x) (Rs : Nat → World → World → Prop) (hRs : ∀ i W W', Rs i W W' → R W W') (Rd : ∀ u, R u u.drew) (p q : Nat) (Pr : Value → Value → Prop) (hpq : p ≠ q) (sx ld : Nat) (Lk : Value → World → Prop) (monoL : ∀ j v W W', j ≠ sx → Rs j W W' → Lk v W → Lk v W') (hlo : ∀ o, l.toArray[sx]? = some o → depB o ld = true) (hln : sx < n → ld < n) (hld : sx < n → ∃ d, (l.toArray[ld]?).bind (·.dst) = some d) (js : List (Value → World → Prop)) (hn : n ≤ l.length) (hm : P.follows .mixedOrders = true)
    (hap : apartL l.toArray n = true) (hb : backB l.toArray = true) (hs : slotsB l.toArray a.tmps.size = true) (htl : tailB l.toArray n = true)
    (mono : ∀ i j v W W', i ≠ j → Rs j W W' → lAt js i v W → lAt js i v W')
    (step : EachT (StepTL P l.toArray n Q a w R Rs p q Pr sx ld Lk js) 0 n l)
    (fin : ∀ f W, R w W → (∀ i, i < n → lAt js i (f i) W) → (p < n → q < n → Pr (f p) (f q)) → (sx < n → Lk (f ld) W) → ∀ A, puts l.toArray a f n = A → wpList P l.toArray Q (l.drop n) A W) :
    (Code.region id l.toArray true).wp P Q a w := by
  refine wp_region_any hm ?_
  obtain ⟨f, hf⟩ := puts_own l.toArray a
  have h := any_grow_taill (P := P) (ops := l.toArray) (Q := Q) (n := n) (by simpa using hn) (fun i j d e hi hj hd he => apartL_of hap hi hj hd he) hb htl (a := a) (w := w) R Rt Rs hRs p q Pr hpq sx ld Lk monoL hlo (fun i => lAt js i) mono ?_ ?_ l.toArray.size (Array.replicate l.toArray.size false) f w.drew (by simp) (by
    refine Nat.le_trans List.countP_le_length ?_
    simp) (Rd w) (fun i _ hi => by rw [rep_no] at hi; cases hi) (fun h => by rw [rep_no] at h; cases h) (fun h => by rw [rep_no] at h; cases h) (fun i _ => rep_no _ _) (fun i o hi => by rw [rep_no] at hi; cases hi)
  · rw [hf] at h
    exact h
  · intro i o hi ho f W hB hJ K hK
    have ho' : l[i]? = some o := by simpa using ho
    have h := step i o hi ho'
    rw [Nat.zero_add] at h
    refine h (puts l.toArray a f n) W hB (fun d hd => putsL_off (ownL_no hd) _ (Nat.le_refl _)) ?_ K (fun v W' h1 h2 h3 h4 h5 => hK v W' h1 h2 h3 h4 fun es => ?_)
    rotate_left
    · have hin' : i < n := hi
      have hls : ld < n := hln (by omega)
      obtain ⟨d, hd⟩ := hld (by omega)
      have h6 := h5 es d hd
      rwa [putsL_at hap hd (by
        cases e2 : l.toArray[ld]? with
        | none => rw [e2] at hd; cases hd
        | some o' =>
          rw [e2] at hd
          simp only [Option.bind_some] at hd
          unfold slotsB at hs
          rw [Array.all_eq_true_iff_forall_mem] at hs
          have := hs o' (Array.mem_of_getElem? e2)
          rw [hd] at this
          exact of_decide_eq_true this) n hls (Nat.le_refl _)] at h6
    intro j d hdep hd
    unfold depB at hdep
    rw [Array.any_eq_true'] at hdep
    obtain ⟨e, he, hee⟩ := hdep
    simp only [Bool.and_eq_true, beq_iff_eq] at hee
    obtain ⟨rfl, hbd⟩ := hee
    have hlt : e.on < i := by
      have hb' := hb
      unfold backB at hb'
      rw [List.all_eq_true] at hb'
      have h1 := hb' i (List.mem_range.2 (by have := (Array.getElem?_eq_some_iff.1 ho).1; omega))
      rw [ho] at h1
      simp only [Array.all_eq_true_iff_forall_mem] at h1
      exact back_lt hbd (h1 e he)
    rw [putsL_at hap hd (by
      cases e2 : l.toArray[e.on]? with
      | none => rw [e2] at hd; cases hd
      | some o' =>
        rw [e2] at hd
        simp only [Option.bind_some] at hd
        unfold slotsB at hs
        rw [Array.all_eq_true_iff_forall_mem] at hs
        have := hs o' (Array.mem_of_getElem? e2)
        rw [hd] at this
        exact of_decide_eq_true this) n (by omega) (Nat.le_refl _)]
    exact hJ e he hbd
  · intro f W hB hF hP hL
    exact fin f W hB hF hP hL _ rfl
end Go.Proofs.Ytnigadnjppeckaa.grow
