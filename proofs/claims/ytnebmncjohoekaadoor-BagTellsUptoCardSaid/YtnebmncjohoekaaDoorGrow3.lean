/- A LAW FOR A REGION IN WHICH MEMORY ONLY GROWS, BUT FOR ONE STORE INTO A BLOCK OF ITS OWN: 'x, err := f(..)': what does not wait for the store may come behind it, if it asks for values alone. No function of the program is named here. -/
import Derived.Test.YtnebmncjohoekaaDoorGrow2
namespace Go.Proofs.YtnebmncjohoekaaDoor.grow
open Go Go.RowKit

section
variable {P : Program} {ops : Array Oper} {Q : Exit → Act → World → Prop}
theorem any_grow_mid {n c b : Nat} {st : Oper} (hn : n < ops.size) (hst0 : ops[n]? = some st) (hap : apartB ops = true) (hb : backB ops = true)
    (hc : Anc ops n c) (hcn : c ≠ n) (hbb : Anc ops n b) (hbn : b ≠ n) {a : Act} {w : World} (J : Nat → Value → World → Prop) (JF : Nat → Value → Prop) (PV : Value → Value → World → Prop)
    (mono : ∀ i v W W', Below W.heap.size W W' → J i v W → J i v W')
    (flat : ∀ i v W, J i v W → JF i v)
    (monoP : ∀ u v W W', Below W.heap.size W W' → PV u v W → PV u v W')
    (step : ∀ i o, i ≠ n → ops[i]? = some o → ∀ f W, Below w.heap.size w W → (∀ e ∈ o.after, Region.binds .any e = true → e.on ≠ n → JF e.on (f e.on) ∧ (Anc ops n i → J e.on (f e.on) W)) →
      ∀ K' : Act → World → Prop, (∀ v W', Below W.heap.size W W' → J i v W' → K' ((puts ops a f ops.size).put o.dst v) W') →
        if Region.wanted o (yielded ops (puts ops a f ops.size).tmps) = true then Oper.wp P o (puts ops a f ops.size) W K' Q else K' ((puts ops a f ops.size).put o.dst undef) W)
    (hst : ∀ f W, Below w.heap.size w W → (∀ i, Anc ops n i → i ≠ n → J i (f i) W) →
      if Region.wanted st (yielded ops (puts ops a f ops.size).tmps) = true then Oper.wp P st (puts ops a f ops.size) W (fun A W' => A = puts ops a f ops.size ∧ PV (f c) (f b) W' ∧ Below w.heap.size w W') Q else False)
    (fin : ∀ f W, Below w.heap.size w W → (∀ i, i < ops.size → i ≠ n → JF i (f i)) → PV (f c) (f b) W → Q .normal (puts ops a f ops.size) W)
    :
    ∀ (fuel : Nat) (listed : Array Bool) (f : Nat → Value) (W : World), listed.size = ops.size → (List.range ops.size).countP (fun i => !listed.getD i true) ≤ fuel → Below w.heap.size w W →
      (∀ i o, listed.getD i false = true → ops[i]? = some o → ∀ e ∈ o.after, Region.binds .any e = true → listed.getD e.on false = true) →
      ((listed.getD n true = false ∧ ∀ i, i ≠ n → listed.getD i false = true → J i (f i) W) ∨ (listed.getD n false = true ∧ (∀ i, i ≠ n → listed.getD i false = true → JF i (f i)) ∧ PV (f c) (f b) W)) →
      wpAny P .any ops Q fuel listed (puts ops a f ops.size) W := by
  have hfull : ∀ {listed : Array Bool}, listed.size = ops.size → (∀ i, i < ops.size → listed.getD i true = true) → Region.ready .any ops listed = [] := by
    intro listed _ h
    cases e : Region.ready .any ops listed with
    | nil => rfl
    | cons x l =>
      have hm : x ∈ Region.ready .any ops listed := by rw [e]; exact List.mem_cons_self
      rw [mem_ready] at hm
      obtain ⟨h0, o, ho, _⟩ := hm
      have := h x (Array.getElem?_eq_some_iff.1 ho).1
      rw [this] at h0
      cases h0
  have hgd : ∀ {listed : Array Bool} {i : Nat}, i < listed.size → ∀ x y, listed.getD i x = listed.getD i y := by
    intro listed i hi x y
    simp only [Array.getD_eq_getD_getElem?, Array.getElem?_eq_getElem hi, Option.getD_some]
  have hanc : ∀ {listed : Array Bool}, (∀ i o, listed.getD i false = true → ops[i]? = some o → ∀ e ∈ o.after, Region.binds .any e = true → listed.getD e.on false = true) →
      (∀ e ∈ st.after, Region.binds .any e = true → listed.getD e.on false = true) → ∀ k, Anc ops n k → k ≠ n → listed.getD k false = true := by
    intro listed hcl hdep k hk
    induction hk with
    | top => intro h; exact absurd rfl h
    | @step k o' e hk' ho' he hbd ihk =>
      intro _
      by_cases hki : k = n
      · subst hki
        rw [hst0] at ho'
        cases ho'
        exact hdep e he hbd
      · exact hcl k o' (ihk hki) ho' e he hbd
  have hdone : ∀ {listed : Array Bool} {f : Nat → Value} {W : World}, listed.size = ops.size → (∀ i, i < ops.size → listed.getD i false = true) → Below w.heap.size w W →
      ((listed.getD n true = false ∧ ∀ i, i ≠ n → listed.getD i false = true → J i (f i) W) ∨ (listed.getD n false = true ∧ (∀ i, i ≠ n → listed.getD i false = true → JF i (f i)) ∧ PV (f c) (f b) W)) → Q .normal (puts ops a f ops.size) W := by
    intro listed f W hs hall hB hI
    rcases hI with ⟨h0, _⟩ | ⟨_, h1, h2⟩
    · rw [hgd (by omega) true false, hall n hn] at h0
      cases h0
    · exact fin f W hB (fun i hi hne => h1 i hne (hall i hi)) h2
  intro fuel
  induction fuel with
  | zero =>
    intro listed f W hs hcn' hB hcl hI
    have hall : ∀ i, i < ops.size → listed.getD i true = true := by
      intro i hi
      have h0 : (List.range ops.size).countP (fun i => !listed.getD i true) = 0 := by omega
      rw [List.countP_eq_zero] at h0
      simpa using h0 i (List.mem_range.2 hi)
    exact ⟨hfull hs hall, hdone hs (fun i hi => by rw [hgd (by omega) false true]; exact hall i hi) hB hI⟩
  | succ fuel ih =>
    intro listed f W hs hcnt hB hcl hI
    refine ⟨fun hr => hdone hs (fun i hi => all_listed hb hs hr i hi) hB hI, fun i hi => ?_⟩
    have hi' := hi
    rw [mem_ready] at hi'
    obtain ⟨h0, o, ho, hall⟩ := hi'
    have hlt : i < ops.size := (Array.getElem?_eq_some_iff.1 ho).1
    have hset : (listed.setIfInBounds i true).getD i false = true := by
      have : i < listed.size := by omega
      simp [this]
    have hne : ∀ j, j ≠ i → ∀ b, (listed.setIfInBounds i true).getD j b = listed.getD j b := fun j hj b => getD_set_ne b (Ne.symm hj)
    have hcl' : ∀ j o', (listed.setIfInBounds i true).getD j false = true → ops[j]? = some o' → ∀ e ∈ o'.after, Region.binds .any e = true → (listed.setIfInBounds i true).getD e.on false = true := by
      intro j o' hj ho' e he hbd
      by_cases ej : e.on = i
      · rw [ej]; exact hset
      · rw [hne _ ej]
        by_cases e2 : j = i
        · subst e2
          rw [ho] at ho'
          cases ho'
          exact hall e he hbd
        · rw [hne j e2] at hj
          exact hcl j o' hj ho' e he hbd
    have hcnt' : (List.range ops.size).countP (fun j => !(listed.setIfInBounds i true).getD j true) ≤ fuel := by
      have := countP_lt (p := fun i => !listed.getD i true) (q := fun j => !(listed.setIfInBounds i true).getD j true) (fun j hj => by
        by_cases e : i = j
        · subst e
          simp only [h0, Bool.not_false]
        · simpa only [getD_set_ne true e] using hj) (i := i) (by simp only [h0, Bool.not_false]) (by
          have : i < listed.size := by omega
          simp [this]) (List.range ops.size) (List.mem_range.2 hlt)
      omega
    by_cases hin : i = n
    · subst hin
      rw [hst0] at ho
      cases ho
      have hJ : ∀ k, k ≠ i → listed.getD k false = true → J k (f k) W := by
        rcases hI with ⟨_, h⟩ | ⟨h, _⟩
        · exact h
        · rw [hgd (by omega) false true, h0] at h; cases h
      have hA := hanc hcl hall
      have hs0 := hst f W hB (fun k hk hkn => hJ k hkn (hA k hk hkn))
      refine wpOp_step hst0 fun K' hK => ?_
      split at hs0
      · rename_i hw
        rw [if_pos hw]
        refine Oper.wp_mono (fun A W' hAW => ?_) hs0
        obtain ⟨rfl, hP, hBW⟩ := hAW
        refine hK _ W' (ih _ f W' (by simpa using hs) hcnt' hBW hcl' (.inr ⟨hset, fun k hkn hl => ?_, hP⟩))
        rw [hne k hkn] at hl
        exact flat k (f k) W (hJ k hkn hl)
      · exact hs0.elim
    · have hJd : ∀ e ∈ o.after, Region.binds .any e = true → e.on ≠ n → JF e.on (f e.on) ∧ (Anc ops n i → J e.on (f e.on) W) := by
        intro e he hbd hen
        rcases hI with ⟨_, h⟩ | ⟨hln, h, _⟩
        · have h1 := h _ hen (hall e he hbd)
          exact ⟨flat _ _ _ h1, fun _ => h1⟩
        · refine ⟨h _ hen (hall e he hbd), fun ha => ?_⟩
          exfalso
          have := hanc hcl (fun e he hbd => hcl n st hln hst0 e he hbd) i ha hin
          rw [hgd (by omega) false true, h0] at this
          cases this
      refine wpOp_step ho fun K' hK => step i o hin ho f W hB hJd K' fun v W' hW hJ' => hK _ _ ?_
      have e1 : (puts ops a f ops.size).put o.dst v = puts ops a (upd f i v) ops.size := by
        rw [puts_upd hap ops.size hlt (Nat.le_refl _), ho]
        rfl
      rw [e1]
      have hup : ∀ j, j ≠ i → upd f i v j = f j := fun j hj => by unfold upd; rw [if_neg hj]
      have hui : upd f i v i = v := by unfold upd; rw [if_pos rfl]
      refine ih _ _ _ (by simpa using hs) hcnt' (hB.trans (hW.mono hB.size)) hcl' ?_
      rcases hI with ⟨hln, h⟩ | ⟨hln, h, hP⟩
      · refine .inl ⟨by rw [hne n (Ne.symm hin)]; exact hln, fun j hjn hj => ?_⟩
        by_cases e : j = i
        · subst e; rw [hui]; exact hJ'
        · rw [hup j e]
          rw [hne j e] at hj
          exact mono _ _ _ _ hW (h j hjn hj)
      · have hA := hanc hcl (fun e he hbd => hcl n st hln hst0 e he hbd)
        have hno : listed.getD i false ≠ true := by rw [hgd (by omega) false true, h0]; simp
        have hic : c ≠ i := fun e => hno (by rw [← e]; exact hA c hc hcn)
        have hib : b ≠ i := fun e => hno (by rw [← e]; exact hA b hbb hbn)
        refine .inr ⟨by rw [hne n (Ne.symm hin)]; exact hln, fun j hjn hj => ?_, ?_⟩
        · by_cases e : j = i
          · subst e; rw [hui]; exact flat _ _ _ hJ'
          · rw [hup j e]
            rw [hne j e] at hj
            exact h j hjn hj
        · rw [hup c hic, hup b hib]
          exact monoP _ _ _ _ hW hP
end

/-- ONE OPERATION'S STEP: jd of those for which it waits, jo of itself -/
def Step2 (P : Program) (ops : Array Oper) (Q : Exit → Act → World → Prop) (a : Act) (w : World) (jd jo : List Kept) (i : Nat) (o : Oper) : Prop :=
  ∀ (A : Act) (W : World), Below w.heap.size w W → (∀ d, ownB ops d = false → A.tmps.getD d undef = a.tmps.getD d undef) →
    (∀ j d, depB o j = true → (ops[j]?).bind (·.dst) = some d → (kAt jd j).q (A.tmps.getD d undef) W) →
    ∀ K : Act → World → Prop, (∀ v W', Below W.heap.size W W' → (kAt jo i).q v W' → K (A.put o.dst v) W') →
      if Region.wanted o (yielded ops A.tmps) = true then Oper.wp P o A W K Q else K (A.put o.dst undef) W
/-- all but operation n; those for which it waits by T, the others by U -/
def EachM (E : Nat → Bool) (T U : Nat → Oper → Prop) (n k : Nat) (l : List Oper) : Prop := ∀ j o, k + j ≠ n → l[j]? = some o → (E (k + j) = true → T (k + j) o) ∧ (E (k + j) = false → U (k + j) o)
section
variable {E : Nat → Bool} {T U : Nat → Oper → Prop} {n k : Nat} {o : Oper} {l : List Oper}
theorem EachM.nil : EachM E T U n k [] := fun j o _ h => by simp at h
theorem EachM.more (h : k ≠ n → (E k = true → T k o) ∧ (E k = false → U k o)) (t : EachM E T U n (k + 1) l) : EachM E T U n k (o :: l) := fun j o' hj h' => by
  cases j with
  | zero => simp only [List.getElem?_cons_zero, Option.some.injEq] at h'; subst h'; exact h hj
  | succ j =>
    rw [List.getElem?_cons_succ] at h'
    have := t j o' (by omega) h'
    rw [show k + (j + 1) = k + 1 + j by omega]
    exact this
theorem EachM.cons (hE : E k = true) (h : T k o) (t : EachM E T U n (k + 1) l) : EachM E T U n k (o :: l) := .more (fun _ => ⟨fun _ => h, fun e => by rw [hE] at e; cases e⟩) t
theorem EachM.late (hE : E k = false) (h : U k o) (t : EachM E T U n (k + 1) l) : EachM E T U n k (o :: l) := .more (fun _ => ⟨fun e => absurd e (by rw [hE]; decide), fun _ => h⟩) t
theorem EachM.skip (t : EachM E T U n (n + 1) l) : EachM E T U n n (o :: l) := .more (fun h => absurd rfl h) t
end
def earlyB (ops : Array Oper) (n i : Nat) : Bool := (ancs ops n).contains i
/-- THE LAW: n: the store; c, b: two of the operations for which it waits; PV: what it leaves, of what these two yield -/
theorem wp_grow_mid {P : Program} {Q : Exit → Act → World → Prop} {id : Nat} {l : List Oper} {a : Act} {w : World} (n c b : Nat) (st : Oper) (js jf : List Kept) (PV : Value → Value → World → Prop)
    (hn : n < l.length) (hst0 : l[n]? = some st) (hds : st.dst = none) (hgl : st.guard = none) (hm : P.follows .mixedOrders = true)
    (hap : apartB l.toArray = true) (hb : backB l.toArray = true) (hs : slotsB l.toArray a.tmps.size = true)
    (hc : ((ancs l.toArray n).contains c && c != n) = true) (hbb : ((ancs l.toArray n).contains b && b != n) = true)
    (flat : ∀ i v W W', (kAt js i).q v W → (kAt jf i).q v W')
    (monoP : ∀ u v W W', Below W.heap.size W W' → PV u v W → PV u v W')
    (step : EachM (earlyB l.toArray n) (Step2 P l.toArray Q a w js js) (Step2 P l.toArray Q a w jf js) n 0 l)
    (hst : ∀ f W, Below w.heap.size w W → (∀ i, Anc l.toArray n i → i ≠ n → (kAt js i).q (f i) W) → ∀ A, puts l.toArray a f l.length = A → Oper.wp P st A W (fun A' W' => A' = A ∧ PV (f c) (f b) W' ∧ Below w.heap.size w W') Q)
    (fin : ∀ f W, Below w.heap.size w W → (∀ i, i < l.length → i ≠ n → (kAt jf i).q (f i) W) → PV (f c) (f b) W → ∀ A, puts l.toArray a f l.length = A → Q .normal A W) :
    (Code.region id l.toArray true).wp P Q a w := by
  refine wp_region_any hm ?_
  obtain ⟨f, hf⟩ := puts_own l.toArray a
  have hl2 : l.toArray[n]? = some st := by simpa using hst0
  simp only [Bool.and_eq_true, bne_iff_ne] at hc hbb
  have h := any_grow_mid (P := P) (Q := Q) (n := n) (c := c) (b := b) (by simpa using hn) hl2 hap hb (ancs_sound _ _ _ (by simpa using hc.1)) hc.2 (ancs_sound _ _ _ (by simpa using hbb.1)) hbb.2 (a := a) (w := w) (fun i => (kAt js i).q) (fun i v => ∀ W, (kAt jf i).q v W) PV (fun i v W W' h => (kAt js i).mono v W W' h) (fun i v W h W' => flat i v W W' h) monoP ?_ ?_ ?_ l.toArray.size (Array.replicate l.toArray.size false) f w.drew (by simp) (by
    refine Nat.le_trans List.countP_le_length ?_
    simp) (belowDrew w) (fun i o hi => by rw [rep_no] at hi; cases hi) (.inl ⟨by
      have : n < l.length := hn
      simp [this], fun i _ hi => by rw [rep_no] at hi; cases hi⟩)
  · rw [hf] at h
    exact h
  · intro i o hin ho f W hB hJ K hK
    have ho' : l[i]? = some o := by simpa using ho
    have h := step i o (by omega) ho'
    rw [Nat.zero_add] at h
    have hdeps : ∀ j d, depB o j = true → (l.toArray[j]?).bind (·.dst) = some d → (∀ W, (kAt jf j).q ((puts l.toArray a f l.toArray.size).tmps.getD d undef) W) ∧ (Anc l.toArray n i → (kAt js j).q ((puts l.toArray a f l.toArray.size).tmps.getD d undef) W) := by
      intro j d hdep hd
      have hlt : j < l.toArray.size := by
        cases e2 : l.toArray[j]? with
        | none => rw [e2] at hd; cases hd
        | some o' => exact (Array.getElem?_eq_some_iff.1 e2).1
      rw [puts_at hap hd (by
        cases e2 : l.toArray[j]? with
        | none => rw [e2] at hd; cases hd
        | some o' =>
          rw [e2] at hd
          simp only [Option.bind_some] at hd
          unfold slotsB at hs
          rw [Array.all_eq_true_iff_forall_mem] at hs
          have := hs o' (Array.mem_of_getElem? e2)
          rw [hd] at this
          exact of_decide_eq_true this) _ hlt (Nat.le_refl _)]
      unfold depB at hdep
      rw [Array.any_eq_true'] at hdep
      obtain ⟨e, he, hee⟩ := hdep
      simp only [Bool.and_eq_true, beq_iff_eq] at hee
      obtain ⟨rfl, hbd⟩ := hee
      refine hJ e he hbd ?_
      intro e2
      rw [e2, hl2] at hd
      rw [Option.bind_some, hds] at hd
      cases hd
    cases hE : earlyB l.toArray n i with
    | true =>
      have ha := ancs_sound l.toArray n i (by unfold earlyB at hE; simpa using hE)
      exact h.1 hE (puts l.toArray a f l.toArray.size) W hB (fun d hd => puts_off (own_no hd) _) (fun j d hdep hd => (hdeps j d hdep hd).2 ha) K hK
    | false => exact h.2 hE (puts l.toArray a f l.toArray.size) W hB (fun d hd => puts_off (own_no hd) _) (fun j d hdep hd => (hdeps j d hdep hd).1 W) K hK
  · intro f W hB hJ
    rw [if_pos (by simp [Region.wanted, hgl])]
    exact hst f W hB hJ _ (by simp)
  · intro f W hB hF hP
    exact fin f W hB (fun i hi hin => hF i (by simpa using hi) hin W) hP _ (by simp)
end Go.Proofs.YtnebmncjohoekaaDoor.grow
