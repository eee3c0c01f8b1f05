/- A LAW FOR A REGION IN WHICH MEMORY ONLY GROWS, BUT FOR ITS LAST OPERATIONS, however many, each of which waits for all ahead of it: they are walked as a list. No function of the program is named here. -/
import Derived.Test.YtnigadnjppeckaaGrow2
import Derived.WalkKit
namespace Go.Proofs.Ytnigadnjppeckaa.grow
open Go Go.RowKit

/-- from the n-th on each waits for all ahead of it -/
def tailB (ops : Array Oper) (n : Nat) : Bool := (List.range ops.size).all fun k => decide (k < n) || topB ops k

theorem cnt_range (n s : Nat) : (List.range s).countP (fun i => decide (n ≤ i)) = s - n := by
  induction s with
  | zero => simp
  | succ s ih =>
    rw [List.range_succ, List.countP_append, ih]
    by_cases h : n ≤ s
    · simp [h]; omega
    · simp [h]; omega

section
variable {P : Program} {ops : Array Oper} {Q : Exit → Act → World → Prop}

theorem anc_listed {listed : Array Bool} {i : Nat} {oi : Oper} (ho : ops[i]? = some oi) (hall : ∀ e ∈ oi.after, Region.binds .any e = true → listed.getD e.on false = true)
    (hcl : ∀ j o, listed.getD j false = true → ops[j]? = some o → ∀ e ∈ o.after, Region.binds .any e = true → listed.getD e.on false = true) :
    ∀ k, Anc ops i k → k ≠ i → listed.getD k false = true := by
  intro k hk
  induction hk with
  | top => intro h; exact absurd rfl h
  | @step k o' e hk' ho' he hbd ihk =>
    intro _
    by_cases hki : k = i
    · subst hki
      rw [ho] at ho'
      cases ho'
      exact hall e he hbd
    · exact hcl k o' (ihk hki) ho' e he hbd

theorem tail_run (hb : backB ops = true) {n : Nat} (ht : tailB ops n = true) : ∀ (m k fuel : Nat) (listed : Array Bool) (a : Act) (w : World), k + m = ops.size → n ≤ k → m ≤ fuel → listed.size = ops.size → (∀ i, i < k → listed.getD i false = true) → (∀ i, k ≤ i → listed.getD i false = false) →
    wpList P ops Q (ops.toList.drop k) a w → wpAny P .any ops Q fuel listed a w := by
  intro m
  induction m with
  | zero =>
    intro k fuel listed a w hkm hnk hf hs hlt hge hw
    have e : ops.toList.drop k = [] := by rw [List.drop_eq_nil_iff]; simp; omega
    rw [e] at hw
    have hr : Region.ready .any ops listed = [] := by
      cases e : Region.ready .any ops listed with
      | nil => rfl
      | cons x l =>
        have hm : x ∈ Region.ready .any ops listed := by rw [e]; exact List.mem_cons_self
        rw [mem_ready] at hm
        obtain ⟨h0, o, ho, _⟩ := hm
        have hx := (Array.getElem?_eq_some_iff.1 ho).1
        have h1 := hlt x (by omega)
        have hx' : x < listed.size := by omega
        simp only [Array.getD_eq_getD_getElem?, Array.getElem?_eq_getElem hx', Option.getD_some] at h0 h1
        rw [h1] at h0
        cases h0
    cases fuel with
    | zero => exact ⟨hr, hw⟩
    | succ f => exact ⟨fun _ => hw, fun x hx => by rw [hr] at hx; cases hx⟩
  | succ m ih =>
    intro k fuel listed a w hkm hnk hf hs hlt hge hw
    cases fuel with
    | zero => omega
    | succ fuel =>
      have hks : k < ops.size := by omega
      have hko : ops[k]? = some ops[k] := Array.getElem?_eq_getElem hks
      have hcl : ∀ j o, listed.getD j false = true → ops[j]? = some o → ∀ e ∈ o.after, Region.binds .any e = true → listed.getD e.on false = true := by
        intro j o hj ho e he hbd
        have hjk : j < k := by
          rcases Nat.lt_or_ge j k with h | h
          · exact h
          · rw [hge j h] at hj; cases hj
        have hb' := hb
        unfold backB at hb'
        rw [List.all_eq_true] at hb'
        have h1 := hb' j (List.mem_range.2 (by omega))
        rw [ho] at h1
        simp only [Array.all_eq_true_iff_forall_mem] at h1
        have := back_lt hbd (h1 e he)
        exact hlt _ (by omega)
      refine ⟨fun hr => ?_, fun i hi => ?_⟩
      · exfalso
        have h1 := all_listed hb hs hr k hks
        have h2 := hge k (Nat.le_refl _)
        have hk' : k < listed.size := by omega
        simp only [Array.getD_eq_getD_getElem?, Array.getElem?_eq_getElem hk', Option.getD_some] at h1 h2
        rw [h1] at h2
        cases h2
      · have hi' := hi
        rw [mem_ready] at hi'
        obtain ⟨h0, o, ho, hall⟩ := hi'
        have hil : i < ops.size := (Array.getElem?_eq_some_iff.1 ho).1
        have hik : k ≤ i := by
          rcases Nat.lt_or_ge i k with h | h
          · have h1 := hlt i h
            have hi2 : i < listed.size := by omega
            simp only [Array.getD_eq_getD_getElem?, Array.getElem?_eq_getElem hi2, Option.getD_some] at h0 h1
            rw [h1] at h0
            cases h0
          · exact h
        have hie : i = k := by
          rcases Nat.lt_or_ge k i with h | h
          · exfalso
            have ht' := ht
            unfold tailB at ht'
            rw [List.all_eq_true] at ht'
            have h1 := ht' i (List.mem_range.2 hil)
            have h2 : topB ops i = true := by
              simp only [Bool.or_eq_true, decide_eq_true_eq] at h1
              rcases h1 with h1 | h1
              · omega
              · exact h1
            unfold topB at h2
            rw [List.all_eq_true] at h2
            have h3 := h2 k (List.mem_range.2 h)
            have h4 := anc_listed ho hall hcl k (ancs_sound ops i k (by simpa using h3)) (by omega)
            rw [hge k (Nat.le_refl _)] at h4
            cases h4
          · omega
        subst hie
        have hd : ops.toList.drop i = o :: ops.toList.drop (i + 1) := by
          rw [List.drop_eq_getElem_cons (by simpa using hil)]
          rw [hko] at ho
          cases ho
          rfl
        rw [hd] at hw
        have hw2 := hw
        have hnext : ∀ A W, wpList P ops Q (ops.toList.drop (i + 1)) A W → wpAny P .any ops Q fuel (listed.setIfInBounds i true) A W := by
          intro A W h
          refine ih (i + 1) fuel _ A W (by omega) (by omega) (by omega) (by simpa using hs) ?_ ?_ h
          · intro j hj
            by_cases e : i = j
            · subst e
              have : i < listed.size := by omega
              simp [this]
            · rw [getD_set_ne false e]
              exact hlt j (by omega)
          · intro j hj
            rw [getD_set_ne false (by omega)]
            exact hge j (by omega)
        unfold wpList at hw2
        unfold wpOp
        rw [ho]
        show if Region.wanted o (yielded ops a.tmps) = true then _ else _
        split at hw2
        · rename_i hwt
          rw [if_pos hwt]
          rcases hw2 with h | h
          · exact .inl (Oper.wp_mono (fun A W h => hnext A W h) h)
          · exact .inr h
        · rename_i hwt
          rw [if_neg hwt]
          exact hnext _ _ hw2

theorem any_grow_tail {n : Nat} (hn : n ≤ ops.size) (hap : ∀ i j d e, i < n → j < i → (ops[i]?).bind (·.dst) = some d → (ops[j]?).bind (·.dst) = some e → d ≠ e)
    (hb : backB ops = true) (htl : tailB ops n = true) {a : Act} {w : World} (J : Nat → Value → World → Prop)
    (mono : ∀ i v W W', Below W.heap.size W W' → J i v W → J i v W')
    (step : ∀ i o, i < n → ops[i]? = some o → ∀ f W, Below w.heap.size w W → (∀ e ∈ o.after, Region.binds .any e = true → J e.on (f e.on) W) →
      ∀ K' : Act → World → Prop, (∀ v W', Below W.heap.size W W' → J i v W' → K' ((puts ops a f n).put o.dst v) W') →
        if Region.wanted o (yielded ops (puts ops a f n).tmps) = true then Oper.wp P o (puts ops a f n) W K' Q else K' ((puts ops a f n).put o.dst undef) W)
    (fin : ∀ f W, Below w.heap.size w W → (∀ i, i < n → J i (f i) W) → wpList P ops Q (ops.toList.drop n) (puts ops a f n) W) :
    ∀ (fuel : Nat) (listed : Array Bool) (f : Nat → Value) (W : World), listed.size = ops.size → (List.range ops.size).countP (fun i => !listed.getD i true) ≤ fuel → Below w.heap.size w W →
      (∀ i, i < n → listed.getD i false = true → J i (f i) W) → (∀ i, n ≤ i → listed.getD i false = false) → (∀ i o, listed.getD i false = true → ops[i]? = some o → ∀ e ∈ o.after, Region.binds .any e = true → listed.getD e.on false = true) →
      wpAny P .any ops Q fuel listed (puts ops a f n) W := by
  have hsame : ∀ (f : Nat → Value) (i : Nat) (v : Value), i < n → (puts ops a f n).put ((ops[i]?).bind (·.dst)) v = puts ops a (upd f i v) n := by
    intro f i v hi
    have h : ∀ k, i < k → k ≤ n → puts ops a (upd f i v) k = (puts ops a f k).put ((ops[i]?).bind (·.dst)) v := by
      intro k
      induction k with
      | zero => intro h; omega
      | succ k ih =>
        intro h hk
        simp only [puts]
        by_cases e : i = k
        · subst e
          rw [puts_same i (Nat.le_refl _), put_put, show upd f i v i = v by unfold upd; rw [if_pos rfl]]
        · rw [ih (by omega) (by omega), show upd f i v k = f k by unfold upd; rw [if_neg (by omega)]]
          refine Act.put_comm _ _ _ ?_
          intro d hd he
          exact hap k i d d (by omega) (by omega) he hd rfl
    exact (h n hi (Nat.le_refl _)).symm
  have hpass : ∀ (fuel : Nat) (listed : Array Bool) (f : Nat → Value) (W : World), listed.size = ops.size → (List.range ops.size).countP (fun i => !listed.getD i true) ≤ fuel → Below w.heap.size w W →
      (∀ i, i < n → listed.getD i false = true → J i (f i) W) → (∀ i, n ≤ i → listed.getD i false = false) → (∀ i, i < n → listed.getD i false = true) → wpAny P .any ops Q fuel listed (puts ops a f n) W := by
    intro fuel listed f W hs hc hB hJ hno hfull
    have hle : ops.size - n ≤ fuel := by
      refine Nat.le_trans ?_ hc
      rw [← cnt_range n ops.size]
      refine List.countP_mono_left fun x hx h => ?_
      have hx' : x < ops.size := List.mem_range.1 hx
      have h2 := hno x (by simpa using h)
      have hx2 : x < listed.size := by omega
      simp only [Array.getD_eq_getD_getElem?, Array.getElem?_eq_getElem hx2, Option.getD_some] at h2 ⊢
      rw [h2]
      rfl
    exact tail_run hb htl (ops.size - n) n fuel listed _ W (by omega) (Nat.le_refl _) hle hs hfull hno (fin f W hB (fun i hi => hJ i hi (hfull i hi)))
  intro fuel
  induction fuel with
  | zero =>
    intro listed f W hs hc hB hJ hno hcl
    refine hpass 0 listed f W hs hc hB hJ hno ?_
    intro i hi
    have h0 : (List.range ops.size).countP (fun i => !listed.getD i true) = 0 := by omega
    rw [List.countP_eq_zero] at h0
    have := h0 i (List.mem_range.2 (by omega))
    have hi' : i < listed.size := by omega
    simp only [Array.getD_eq_getD_getElem?, Array.getElem?_eq_getElem hi', Option.getD_some] at this ⊢
    simpa using this
  | succ fuel ih =>
    intro listed f W hs hc hB hJ hno hcl
    by_cases hfull : ∀ i, i < n → listed.getD i false = true
    · exact hpass (fuel + 1) listed f W hs hc hB hJ hno hfull
    refine ⟨fun hr => ?_, fun i hi => ?_⟩
    · exfalso
      refine hfull fun i hi => ?_
      exact all_listed hb hs hr i (by omega)
    · have hi' := hi
      rw [mem_ready] at hi'
      obtain ⟨h0, o, ho, hall⟩ := hi'
      have hlt : i < ops.size := (Array.getElem?_eq_some_iff.1 ho).1
      have hin' : i < n := by
        rcases Nat.lt_or_ge i n with h | h
        · exact h
        · exfalso
          have ht' := htl
          unfold tailB at ht'
          rw [List.all_eq_true] at ht'
          have h1 := ht' i (List.mem_range.2 hlt)
          have h2 : topB ops i = true := by
            simp only [Bool.or_eq_true, decide_eq_true_eq] at h1
            rcases h1 with h1 | h1
            · omega
            · exact h1
          unfold topB at h2
          rw [List.all_eq_true] at h2
          refine hfull fun j hj => ?_
          have h3 := h2 j (List.mem_range.2 (by omega))
          exact anc_listed ho hall hcl j (ancs_sound ops i j (by simpa using h3)) (by omega)
      refine wpOp_step ho fun K' hK => step i o hin' ho f W hB (fun e he hbd => hJ e.on (by
        unfold backB at hb
        rw [List.all_eq_true] at hb
        have h1 := hb i (List.mem_range.2 hlt)
        rw [ho] at h1
        simp only [Array.all_eq_true_iff_forall_mem] at h1
        have := back_lt hbd (h1 e he)
        omega) (hall e he hbd)) K' fun v W' hW hJ' => hK _ _ ?_
      have e1 : (puts ops a f n).put o.dst v = puts ops a (upd f i v) n := by
        rw [← hsame f i v hin', ho]
        rfl
      rw [e1]
      have hne : ∀ j, j ≠ i → ∀ b, (listed.setIfInBounds i true).getD j b = listed.getD j b := fun j hj b => getD_set_ne b (Ne.symm hj)
      have hset : (listed.setIfInBounds i true).getD i false = true := by
        have : i < listed.size := by omega
        simp [this]
      refine ih _ _ _ (by simpa using hs) ?_ (hB.trans (hW.mono hB.size)) ?_ ?_ ?_
      · have := countP_lt (p := fun i => !listed.getD i true) (q := fun j => !(listed.setIfInBounds i true).getD j true) (fun j hj => by
          by_cases e : i = j
          · subst e
            simp only [h0, Bool.not_false]
          · simpa only [getD_set_ne true e] using hj) (i := i) (by simp only [h0, Bool.not_false]) (by
            have : i < listed.size := by omega
            simp [this]) (List.range ops.size) (List.mem_range.2 hlt)
        omega
      · intro j hjn hj
        by_cases e : j = i
        · subst e
          unfold upd
          rw [if_pos rfl]
          exact hJ'
        · unfold upd
          rw [if_neg e]
          rw [hne j e] at hj
          exact mono _ _ _ _ hW (hJ j hjn hj)
      · intro j hj
        rw [hne j (by omega)]
        exact hno j hj
      · intro j o' hj ho' e he hbd
        by_cases ej : e.on = i
        · rw [ej]; exact hset
        · rw [hne _ ej]
          by_cases e2 : j = i
          · subst e2
            rw [ho] at ho'
            cases ho'
            exact hall e he hbd
          · rw [hne j e2] at hj
            exact hcl j o' hj ho' e he hbd
end

/-- the first n -/
def EachT (T : Nat → Oper → Prop) (k : Nat) (n : Nat) (l : List Oper) : Prop := ∀ j o, j < n → l[j]? = some o → T (k + j) o
theorem EachT.nil {T : Nat → Oper → Prop} {k : Nat} {l : List Oper} : EachT T k 0 l := fun j o h _ => by omega
theorem EachT.cons {T : Nat → Oper → Prop} {k n : Nat} {o : Oper} {l : List Oper} (h : T k o) (t : EachT T (k + 1) n l) : EachT T k (n + 1) (o :: l) := fun j o' hj h' => by
  cases j with
  | zero => simp only [List.getElem?_cons_zero, Option.some.injEq] at h'; subst h'; exact h
  | succ j =>
    rw [List.getElem?_cons_succ] at h'
    have := t j o' (by omega) h'
    rw [show k + (j + 1) = k + 1 + j by omega]
    exact this
theorem wp_grow_tail {P : Program} {Q : Exit → Act → World → Prop} {id : Nat} {l : List Oper} {a : Act} {w : World} (n : Nat) (js : List Kept) (hn : n ≤ l.length) (hm : P.follows .mixedOrders = true)
    (hap : apartL l.toArray n = true) (hb : backB l.toArray = true) (hs : slotsB l.toArray a.tmps.size = true) (htl : tailB l.toArray n = true)
    (step : EachT (StepL P l.toArray n Q a w js) 0 n l)
    (fin : ∀ f W, Below w.heap.size w W → (∀ i, i < n → (kAt js i).q (f i) W) → ∀ A, puts l.toArray a f n = A → wpList P l.toArray Q (l.drop n) A W) :
    (Code.region id l.toArray true).wp P Q a w := by
  refine wp_region_any hm ?_
  obtain ⟨f, hf⟩ := puts_own l.toArray a
  have h := any_grow_tail (P := P) (ops := l.toArray) (Q := Q) (n := n) (by simpa using hn) (fun i j d e hi hj hd he => apartL_of hap hi hj hd he) hb htl (a := a) (w := w) (fun i => (kAt js i).q) (fun i v W W' h => (kAt js i).mono v W W' h) ?_ ?_ l.toArray.size (Array.replicate l.toArray.size false) f w.drew (by simp) (by
    refine Nat.le_trans List.countP_le_length ?_
    simp) (belowDrew w) (fun i _ hi => by rw [rep_no] at hi; cases hi) (fun i _ => rep_no _ _) (fun i o hi => by rw [rep_no] at hi; cases hi)
  · rw [hf] at h
    exact h
  · intro i o hi ho f W hB hJ K hK
    have ho' : l[i]? = some o := by simpa using ho
    have h := step i o hi ho'
    rw [Nat.zero_add] at h
    refine h (puts l.toArray a f n) W hB (fun d hd => putsL_off (ownL_no hd) _ (Nat.le_refl _)) ?_ K hK
    intro j d hdep hd
    unfold depB at hdep
    rw [Array.any_eq_true'] at hdep
    obtain ⟨e, he, hee⟩ := hdep
    simp only [Bool.and_eq_true, beq_iff_eq] at hee
    obtain ⟨rfl, hbd⟩ := hee
    have hlt : e.on < i := by
      have hb' := hb
      unfold backB at hb'
      rw [List.all_eq_true] at hb'
      have h1 := hb' i (List.mem_range.2 (by have := (Array.getElem?_eq_some_iff.1 ho).1; omega))
      rw [ho] at h1
      simp only [Array.all_eq_true_iff_forall_mem] at h1
      exact back_lt hbd (h1 e he)
    rw [putsL_at hap hd (by
      cases e2 : l.toArray[e.on]? with
      | none => rw [e2] at hd; cases hd
      | some o' =>
        rw [e2] at hd
        simp only [Option.bind_some] at hd
        unfold slotsB at hs
        rw [Array.all_eq_true_iff_forall_mem] at hs
        have := hs o' (Array.mem_of_getElem? e2)
        rw [hd] at this
        exact of_decide_eq_true this) n (by omega) (Nat.le_refl _)]
    exact hJ e he hbd
  · intro f W hB hF
    exact fin f W hB hF _ rfl
end Go.Proofs.Ytnigadnjppeckaa.grow
