/- A LAW FOR A REGION IN WHICH MEMORY ONLY GROWS, BUT FOR ITS LAST OPERATION: one that waits, through others, for all of them (a store, or the variable itself that others read). No function of the program is named here. -/
import Derived.Test.YtnigadnjppeckaaGrow
namespace Go.Proofs.Ytnigadnjppeckaa.grow
open Go Go.RowKit

/-- the operations for which the last one waits -/
inductive Anc (ops : Array Oper) (n : Nat) : Nat → Prop where
  | top : Anc ops n n
  | step {i : Nat} {o : Oper} {e : Edge} : Anc ops n i → ops[i]? = some o → e ∈ o.after → Region.binds .any e = true → Anc ops n e.on
def depsOf (ops : Array Oper) (i : Nat) : List Nat := match ops[i]? with
  | some o => (o.after.toList.filter (Region.binds .any)).map (·.on)
  | none => []
def ancs (ops : Array Oper) (n : Nat) : List Nat := (List.range (n + 1)).reverse.foldl (fun s i => if s.contains i then depsOf ops i ++ s else s) [n]
def topB (ops : Array Oper) (n : Nat) : Bool := (List.range n).all fun i => (ancs ops n).contains i
theorem ancs_sound (ops : Array Oper) (n : Nat) : ∀ i ∈ ancs ops n, Anc ops n i := by
  unfold ancs
  have h : ∀ (l : List Nat) (s : List Nat), (∀ i ∈ s, Anc ops n i) → ∀ i ∈ l.foldl (fun s i => if s.contains i then depsOf ops i ++ s else s) s, Anc ops n i := by
    intro l
    induction l with
    | nil => intro s hs; exact hs
    | cons x l ih =>
      intro s hs
      simp only [List.foldl_cons]
      refine ih _ ?_
      split
      · rename_i hx
        have hx' : x ∈ s := by simpa using hx
        intro i hi
        rcases List.mem_append.1 hi with hi | hi
        · unfold depsOf at hi
          cases e : ops[x]? with
          | none => rw [e] at hi; cases hi
          | some o =>
            rw [e] at hi
            obtain ⟨d, hd, rfl⟩ := List.mem_map.1 hi
            have hd' := List.mem_filter.1 hd
            exact .step (hs x hx') e (by simpa using hd'.1) hd'.2
        · exact hs i hi
      · exact hs
  exact h _ _ (by intro i hi; simp at hi; subst hi; exact .top)
theorem anc_le {ops : Array Oper} {n : Nat} (hb : backB ops = true) {i : Nat} (h : Anc ops n i) : i ≤ n := by
  induction h with
  | top => exact Nat.le_refl _
  | @step i o e h ho he hbd ih =>
    have hlt := (Array.getElem?_eq_some_iff.1 ho).1
    unfold backB at hb
    rw [List.all_eq_true] at hb
    have h1 := hb i (List.mem_range.2 hlt)
    rw [ho] at h1
    simp only [Array.all_eq_true_iff_forall_mem] at h1
    have := back_lt hbd (h1 e he)
    omega

section
variable {P : Program} {ops : Array Oper} {Q : Exit → Act → World → Prop}

theorem any_grow_last {n : Nat} {last : Oper} (hn : ops.size = n + 1) (hlast : ops[n]? = some last) (hap : ∀ i j d e, i < n → j < i → (ops[i]?).bind (·.dst) = some d → (ops[j]?).bind (·.dst) = some e → d ≠ e)
    (hb : backB ops = true) (htop : topB ops n = true) {a : Act} {w : World} (J : Nat → Value → World → Prop)
    (mono : ∀ i v W W', Below W.heap.size W W' → J i v W → J i v W')
    (step : ∀ i o, i < n → ops[i]? = some o → ∀ f W, Below w.heap.size w W → (∀ e ∈ o.after, Region.binds .any e = true → J e.on (f e.on) W) →
      ∀ K' : Act → World → Prop, (∀ v W', Below W.heap.size W W' → J i v W' → K' ((puts ops a f n).put o.dst v) W') →
        if Region.wanted o (yielded ops (puts ops a f n).tmps) = true then Oper.wp P o (puts ops a f n) W K' Q else K' ((puts ops a f n).put o.dst undef) W)
    (fin : ∀ f W, Below w.heap.size w W → (∀ i, i < n → J i (f i) W) →
      if Region.wanted last (yielded ops (puts ops a f n).tmps) = true then Oper.wp P last (puts ops a f n) W (fun A W' => Q .normal A W') Q else Q .normal ((puts ops a f n).put last.dst undef) W) :
    ∀ (fuel : Nat) (listed : Array Bool) (f : Nat → Value) (W : World), listed.size = ops.size → (List.range ops.size).countP (fun i => !listed.getD i true) ≤ fuel → Below w.heap.size w W →
      (∀ i, i < n → listed.getD i false = true → J i (f i) W) → listed.getD n true = false → (∀ i o, listed.getD i false = true → ops[i]? = some o → ∀ e ∈ o.after, Region.binds .any e = true → listed.getD e.on false = true) →
      wpAny P .any ops Q fuel listed (puts ops a f n) W := by
  have hsame : ∀ (f : Nat → Value) (i : Nat) (v : Value), i < n → (puts ops a f n).put ((ops[i]?).bind (·.dst)) v = puts ops a (upd f i v) n := by
    intro f i v hi
    have h : ∀ k, i < k → k ≤ n → puts ops a (upd f i v) k = (puts ops a f k).put ((ops[i]?).bind (·.dst)) v := by
      intro k
      induction k with
      | zero => intro h; omega
      | succ k ih =>
        intro h hk
        simp only [puts]
        by_cases e : i = k
        · subst e
          rw [puts_same i (Nat.le_refl _), put_put, show upd f i v i = v by unfold upd; rw [if_pos rfl]]
        · rw [ih (by omega) (by omega), show upd f i v k = f k by unfold upd; rw [if_neg (by omega)]]
          refine Act.put_comm _ _ _ ?_
          intro d hd he
          exact hap k i d d (by omega) (by omega) he hd rfl
    exact (h n hi (Nat.le_refl _)).symm
  intro fuel
  induction fuel with
  | zero =>
    intro listed f W hs hc hB hJ hno hcl
    exfalso
    have h0 : (List.range ops.size).countP (fun i => !listed.getD i true) = 0 := by omega
    rw [List.countP_eq_zero] at h0
    have := h0 n (List.mem_range.2 (by omega))
    rw [hno] at this
    simp at this
  | succ fuel ih =>
    intro listed f W hs hc hB hJ hno hcl
    refine ⟨fun hr => ?_, fun i hi => ?_⟩
    · exfalso
      have := all_listed hb hs hr n (by omega)
      have hn' : n < listed.size := by omega
      simp only [Array.getD_eq_getD_getElem?, Array.getElem?_eq_getElem hn', Option.getD_some] at this hno
      rw [this] at hno
      cases hno
    · have hi' := hi
      rw [mem_ready] at hi'
      obtain ⟨h0, o, ho, hall⟩ := hi'
      have hlt : i < ops.size := (Array.getElem?_eq_some_iff.1 ho).1
      by_cases hin : i = n
      · subst hin
        rw [hlast] at ho
        cases ho
        have hanc : ∀ k, Anc ops i k → k ≠ i → listed.getD k false = true := by
          intro k hk
          induction hk with
          | top => intro h; exact absurd rfl h
          | @step k o' e hk' ho' he hbd ihk =>
            intro _
            by_cases hki : k = i
            · subst hki
              rw [hlast] at ho'
              cases ho'
              exact hall e he hbd
            · exact hcl k o' (ihk hki) ho' e he hbd
        have hfull : ∀ k, k < i → listed.getD k false = true := by
          intro k hk
          unfold topB at htop
          rw [List.all_eq_true] at htop
          have h1 := htop k (List.mem_range.2 hk)
          exact hanc k (ancs_sound ops i k (by simpa using h1)) (by omega)
        refine wpOp_step hlast fun K' hK => ?_
        have hf := fin f W hB (fun k hk => hJ k hk (hfull k hk))
        have hdone : ∀ A W', Q .normal A W' → K' A W' := by
          intro A W' hQ
          refine hK A W' ?_
          have hall2 : ∀ k, k < ops.size → (listed.setIfInBounds i true).getD k true = true := by
            intro k hk
            by_cases e : i = k
            · subst e
              have : i < listed.size := by omega
              simp [this]
            · rw [getD_set_ne true e]
              have h1 := hfull k (by omega)
              have hk' : k < listed.size := by omega
              simp only [Array.getD_eq_getD_getElem?, Array.getElem?_eq_getElem hk', Option.getD_some] at h1 ⊢
              exact h1
          have hr : Region.ready .any ops (listed.setIfInBounds i true) = [] := by
            cases e : Region.ready .any ops (listed.setIfInBounds i true) with
            | nil => rfl
            | cons x l =>
              have hm : x ∈ Region.ready .any ops (listed.setIfInBounds i true) := by rw [e]; exact List.mem_cons_self
              rw [mem_ready] at hm
              obtain ⟨h0, o, ho, _⟩ := hm
              have := hall2 x (Array.getElem?_eq_some_iff.1 ho).1
              rw [this] at h0
              cases h0
          cases fuel with
          | zero => exact ⟨hr, hQ⟩
          | succ k => exact ⟨fun _ => hQ, fun x hx => by rw [hr] at hx; cases hx⟩
        split at hf
        · rename_i hw
          rw [if_pos hw]
          exact Oper.wp_mono (fun A W' hQ => hdone A W' hQ) hf
        · rename_i hw
          rw [if_neg hw]
          exact hdone _ _ hf
      · have hin' : i < n := by omega
        refine wpOp_step ho fun K' hK => step i o hin' ho f W hB (fun e he hbd => hJ e.on (by
          unfold backB at hb
          rw [List.all_eq_true] at hb
          have h1 := hb i (List.mem_range.2 hlt)
          rw [ho] at h1
          simp only [Array.all_eq_true_iff_forall_mem] at h1
          have := back_lt hbd (h1 e he)
          omega) (hall e he hbd)) K' fun v W' hW hJ' => hK _ _ ?_
        have e1 : (puts ops a f n).put o.dst v = puts ops a (upd f i v) n := by
          rw [← hsame f i v hin', ho]
          rfl
        rw [e1]
        have hne : ∀ j, j ≠ i → ∀ b, (listed.setIfInBounds i true).getD j b = listed.getD j b := fun j hj b => getD_set_ne b (Ne.symm hj)
        have hset : (listed.setIfInBounds i true).getD i false = true := by
          have : i < listed.size := by omega
          simp [this]
        refine ih _ _ _ (by simpa using hs) ?_ (hB.trans (hW.mono hB.size)) ?_ ?_ ?_
        · have := countP_lt (p := fun i => !listed.getD i true) (q := fun j => !(listed.setIfInBounds i true).getD j true) (fun j hj => by
            by_cases e : i = j
            · subst e
              simp only [h0, Bool.not_false]
            · simpa only [getD_set_ne true e] using hj) (i := i) (by simp only [h0, Bool.not_false]) (by
              have : i < listed.size := by omega
              simp [this]) (List.range ops.size) (List.mem_range.2 hlt)
          omega
        · intro j hjn hj
          by_cases e : j = i
          · subst e
            unfold upd
            rw [if_pos rfl]
            exact hJ'
          · unfold upd
            rw [if_neg e]
            rw [hne j e] at hj
            exact mono _ _ _ _ hW (hJ j hjn hj)
        · rw [hne n (Ne.symm hin)]
          exact hno
        · intro j o' hj ho' e he hbd
          by_cases ej : e.on = i
          · rw [ej]; exact hset
          · rw [hne _ ej]
            by_cases e2 : j = i
            · subst e2
              rw [ho] at ho'
              cases ho'
              exact hall e he hbd
            · rw [hne j e2] at hj
              exact hcl j o' hj ho' e he hbd
end

/-! ### the frame told by its slots -/
/-- is the slot one of the first n operations' own -/
def ownL (ops : Array Oper) (n d : Nat) : Bool := (List.range n).any fun i => (ops[i]?).bind (·.dst) == some d
theorem ownL_no {ops : Array Oper} {n d : Nat} (h : ownL ops n d = false) (i : Nat) (hi : i < n) : (ops[i]?).bind (·.dst) ≠ some d := by
  intro he
  have : ownL ops n d = true := by
    unfold ownL
    rw [List.any_eq_true]
    exact ⟨i, List.mem_range.2 hi, by simp [he]⟩
  rw [h] at this
  cases this
theorem putsL_off {ops : Array Oper} {a : Act} {f : Nat → Value} {d n : Nat} (hd : ∀ i : Nat, i < n → (ops[i]?).bind (fun o : Oper => o.dst) ≠ some d) : ∀ k, k ≤ n → (puts ops a f k).tmps.getD d undef = a.tmps.getD d undef := by
  intro k
  induction k with
  | zero => intro _; rfl
  | succ k ih =>
    intro hk
    simp only [puts]
    rw [put_get _ _ _ _ (hd k (by omega))]
    exact ih (by omega)
/-- all but the last -/
def EachL (T : Nat → Oper → Prop) (k : Nat) (l : List Oper) : Prop := ∀ j o, j + 1 < l.length → l[j]? = some o → T (k + j) o
theorem EachL.nil {T : Nat → Oper → Prop} {k : Nat} {o : Oper} : EachL T k [o] := fun j o h _ => by simp at h
theorem EachL.cons {T : Nat → Oper → Prop} {k : Nat} {o o2 : Oper} {l : List Oper} (h : T k o) (t : EachL T (k + 1) (o2 :: l)) : EachL T k (o :: o2 :: l) := fun j o' hj h' => by
  cases j with
  | zero => simp only [List.getElem?_cons_zero, Option.some.injEq] at h'; subst h'; exact h
  | succ j =>
    rw [List.getElem?_cons_succ] at h'
    have := t j o' (by simpa using hj) h'
    rw [show k + (j + 1) = k + 1 + j by omega]
    exact this
/-- ONE OPERATION'S STEP, of a frame told by its slots; n operations ahead of the last one -/
def StepL (P : Program) (ops : Array Oper) (n : Nat) (Q : Exit → Act → World → Prop) (a : Act) (w : World) (js : List Kept) (i : Nat) (o : Oper) : Prop :=
  ∀ (A : Act) (W : World), Below w.heap.size w W → (∀ d, ownL ops n d = false → A.tmps.getD d undef = a.tmps.getD d undef) →
    (∀ j d, depB o j = true → (ops[j]?).bind (·.dst) = some d → (kAt js j).q (A.tmps.getD d undef) W) →
    ∀ K : Act → World → Prop, (∀ v W', Below W.heap.size W W' → (kAt js i).q v W' → K (A.put o.dst v) W') →
      if Region.wanted o (yielded ops A.tmps) = true then Oper.wp P o A W K Q else K (A.put o.dst undef) W
/-- no two of the first n operations have one slot -/
def apartL (ops : Array Oper) (n : Nat) : Bool := (List.range n).all fun i => (List.range i).all fun j => match (ops[i]?).bind (·.dst), (ops[j]?).bind (·.dst) with
  | some d, some e => d != e
  | _, _ => true
theorem apartL_of {ops : Array Oper} {n : Nat} (h : apartL ops n = true) {i j : Nat} (hi : i < n) (hj : j < i) {d e : Nat} (hd : (ops[i]?).bind (·.dst) = some d) (he : (ops[j]?).bind (·.dst) = some e) : d ≠ e := by
  unfold apartL at h
  rw [List.all_eq_true] at h
  have h1 := h i (List.mem_range.2 hi)
  rw [List.all_eq_true] at h1
  have h2 := h1 j (List.mem_range.2 hj)
  rw [hd, he] at h2
  simpa using h2
theorem putsL_at {ops : Array Oper} {n : Nat} (hap : apartL ops n = true) {a : Act} {f : Nat → Value} {i d : Nat} (hd : (ops[i]?).bind (·.dst) = some d) (hsz : d < a.tmps.size) : ∀ k, i < k → k ≤ n → (puts ops a f k).tmps.getD d undef = f i := by
  intro k
  induction k with
  | zero => intro h; omega
  | succ k ih =>
    intro h hk
    simp only [puts]
    by_cases e : i = k
    · subst e
      rw [hd]
      exact put_at _ _ _ (by rw [puts_size]; exact hsz)
    · rw [put_get _ _ _ _ (fun he => apartL_of hap (i := k) (j := i) (by omega) (by omega) he hd rfl)]
      exact ih (by omega) (by omega)

theorem rep_no (n i : Nat) : (Array.replicate n false).getD i false = false := by
  rw [Array.getD_eq_getD_getElem?, Array.getElem?_replicate]
  split <;> rfl
theorem wp_grow_last {P : Program} {Q : Exit → Act → World → Prop} {id : Nat} {l : List Oper} {a : Act} {w : World} (n : Nat) (last : Oper) (js : List Kept) (hn : l.length = n + 1) (hlast : l[n]? = some last) (hgl : last.guard = none) (hm : P.follows .mixedOrders = true)
    (hap : apartL l.toArray n = true) (hb : backB l.toArray = true) (hs : slotsB l.toArray a.tmps.size = true) (htop : topB l.toArray n = true)
    (step : EachL (StepL P l.toArray n Q a w js) 0 l)
    (fin : ∀ f W, Below w.heap.size w W → (∀ i, i < n → (kAt js i).q (f i) W) → ∀ A, puts l.toArray a f n = A → Oper.wp P last A W (fun A W' => Q .normal A W') Q) :
    (Code.region id l.toArray true).wp P Q a w := by
  refine wp_region_any hm ?_
  obtain ⟨f, hf⟩ := puts_own l.toArray a
  have hsz : l.toArray.size = n + 1 := by simpa using hn
  have hl2 : l.toArray[n]? = some last := by simpa using hlast
  have h := any_grow_last (P := P) (Q := Q) hsz hl2 (fun i j d e hi hj hd he => apartL_of hap hi hj hd he) hb htop (a := a) (w := w) (fun i => (kAt js i).q) (fun i v W W' h => (kAt js i).mono v W W' h) ?_ ?_ l.toArray.size (Array.replicate l.toArray.size false) f w.drew (by simp) (by
    refine Nat.le_trans List.countP_le_length ?_
    simp) (belowDrew w) (fun i _ hi => by rw [rep_no] at hi; cases hi) (by
      have : n < l.length := by omega
      simp [this]) (fun i o hi => by rw [rep_no] at hi; cases hi)
  · rw [hf] at h
    exact h
  · intro i o hi ho f W hB hJ K hK
    have ho' : l[i]? = some o := by simpa using ho
    have h := step i o (by omega) ho'
    rw [Nat.zero_add] at h
    refine h (puts l.toArray a f n) W hB (fun d hd => putsL_off (ownL_no hd) _ (Nat.le_refl _)) ?_ K hK
    intro j d hdep hd
    unfold depB at hdep
    rw [Array.any_eq_true'] at hdep
    obtain ⟨e, he, hee⟩ := hdep
    simp only [Bool.and_eq_true, beq_iff_eq] at hee
    obtain ⟨rfl, hbd⟩ := hee
    have hlt : e.on < i := by
      have hb' := hb
      unfold backB at hb'
      rw [List.all_eq_true] at hb'
      have h1 := hb' i (List.mem_range.2 (by omega))
      rw [ho] at h1
      simp only [Array.all_eq_true_iff_forall_mem] at h1
      exact back_lt hbd (h1 e he)
    rw [putsL_at hap hd (by
      cases e2 : l.toArray[e.on]? with
      | none => rw [e2] at hd; cases hd
      | some o' =>
        rw [e2] at hd
        simp only [Option.bind_some] at hd
        unfold slotsB at hs
        rw [Array.all_eq_true_iff_forall_mem] at hs
        have := hs o' (Array.mem_of_getElem? e2)
        rw [hd] at this
        exact of_decide_eq_true this) n (by omega) (Nat.le_refl _)]
    exact hJ e he hbd
  · intro f W hB hF
    rw [if_pos (by simp [Region.wanted, hgl])]
    exact fin f W hB hF _ rfl
end Go.Proofs.Ytnigadnjppeckaa.grow
