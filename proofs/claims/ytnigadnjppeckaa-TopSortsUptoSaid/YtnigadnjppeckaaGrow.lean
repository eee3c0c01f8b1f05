/- A LAW FOR A REGION IN WHICH MEMORY ONLY GROWS: each operation is shown once, whatever order is drawn. No function of the program is named here. -/
import Derived.Deep.RegionWith
import Derived.Test.YtnigadnjppeckaaMore
namespace Go.Proofs.Ytnigadnjppeckaa.grow
open Go Go.RowKit

/-- the frame with the values of the region's operations laid in -/
def puts (ops : Array Oper) (a : Act) (f : Nat → Value) : Nat → Act
  | 0 => a
  | k + 1 => (puts ops a f k).put ((ops[k]?).bind (·.dst)) (f k)
/-- no two operations have one slot -/
def apartB (ops : Array Oper) : Bool := (List.range ops.size).all fun i => (List.range i).all fun j => match (ops[i]?).bind (·.dst), (ops[j]?).bind (·.dst) with
  | some d, some e => d != e
  | _, _ => true
/-- the earlier one of two, of those that wait for each other -/
theorem back_lt {i j : Nat} {b : Bool} (hb : b = true) (h : (!b || decide (j < i)) = true) : j < i := by rw [hb] at h; simpa using h
/-- each waits for earlier ones alone -/
def backB (ops : Array Oper) : Bool := (List.range ops.size).all fun i => match ops[i]? with
  | some o => o.after.all fun e => !Region.binds .any e || decide (e.on < i)
  | none => true
def upd (f : Nat → Value) (i : Nat) (v : Value) (j : Nat) : Value := if j = i then v else f j

theorem put_put (a : Act) (x : Option Tmp) (v u : Value) : (a.put x v).put x u = a.put x u := by
  cases x with
  | none => rfl
  | some d => simp [Act.put]
theorem put_own (a : Act) (x : Option Tmp) : a.put x (match x with | some d => a.tmps.getD d undef | none => undef) = a := by
  cases x with
  | none => rfl
  | some d =>
    cases a with
    | mk t s =>
      simp only [Act.put, Act.mk.injEq, and_true]
      apply Array.ext_getElem?
      intro i
      rw [Array.getElem?_setIfInBounds]
      split
      · rename_i h
        subst h
        split
        · rename_i h2
          simp [h2]
        · rename_i h2
          simp [Nat.le_of_not_lt h2]
      · rfl
theorem puts_same {ops : Array Oper} {a : Act} {f : Nat → Value} {i : Nat} {v : Value} : ∀ k, k ≤ i → puts ops a (upd f i v) k = puts ops a f k := by
  intro k
  induction k with
  | zero => intro _; rfl
  | succ k ih =>
    intro h
    simp only [puts]
    rw [ih (by omega), show upd f i v k = f k by unfold upd; rw [if_neg (by omega)]]
theorem apart_of {ops : Array Oper} (h : apartB ops = true) {i j : Nat} (hi : i < ops.size) (hj : j < i) {d e : Nat} (hd : (ops[i]?).bind (·.dst) = some d) (he : (ops[j]?).bind (·.dst) = some e) : d ≠ e := by
  unfold apartB at h
  rw [List.all_eq_true] at h
  have h1 := h i (List.mem_range.2 hi)
  rw [List.all_eq_true] at h1
  have h2 := h1 j (List.mem_range.2 hj)
  rw [hd, he] at h2
  simpa using h2
theorem puts_upd {ops : Array Oper} (hap : apartB ops = true) {a : Act} {f : Nat → Value} {i : Nat} {v : Value} : ∀ k, i < k → k ≤ ops.size → puts ops a (upd f i v) k = (puts ops a f k).put ((ops[i]?).bind (·.dst)) v := by
  intro k
  induction k with
  | zero => intro h; omega
  | succ k ih =>
    intro h hk
    simp only [puts]
    by_cases e : i = k
    · subst e
      rw [puts_same i (Nat.le_refl _), put_put, show upd f i v i = v by unfold upd; rw [if_pos rfl]]
    · rw [ih (by omega) (by omega), show upd f i v k = f k by unfold upd; rw [if_neg (by omega)]]
      refine Act.put_comm _ _ _ ?_
      intro d hd he
      exact apart_of hap (i := k) (j := i) (by omega) (by omega) he hd rfl
theorem puts_own (ops : Array Oper) (a : Act) : ∃ f, ∀ k, puts ops a f k = a := by
  refine ⟨fun i => match (ops[i]?).bind (·.dst) with | some d => a.tmps.getD d undef | none => undef, fun k => ?_⟩
  induction k with
  | zero => rfl
  | succ k ih =>
    simp only [puts]
    rw [ih]
    exact put_own a _

theorem countP_lt {p q : Nat → Bool} (h : ∀ j, q j = true → p j = true) {i : Nat} (hp : p i = true) (hq : q i = false) : ∀ l : List Nat, i ∈ l → l.countP q < l.countP p := by
  have hle : ∀ l : List Nat, l.countP q ≤ l.countP p := fun l => List.countP_mono_left (fun x _ hx => h x hx)
  intro l
  induction l with
  | nil => intro hm; cases hm
  | cons x l ih =>
    intro hm
    rw [List.countP_cons, List.countP_cons]
    by_cases e : x = i
    · subst e
      have := hle l
      simp only [hp, hq, if_true]
      have e : (if (false = true) then 1 else 0) = 0 := rfl
      rw [e]
      omega
    · have hm' : i ∈ l := by
        rcases List.mem_cons.1 hm with h | h
        · exact absurd h.symm e
        · exact h
      have := ih hm'
      by_cases hx : q x = true
      · rw [if_pos hx, if_pos (h x hx)]; omega
      · rw [if_neg hx]; omega

section
variable {P : Program} {ops : Array Oper} {Q : Exit → Act → World → Prop}

theorem all_listed (hb : backB ops = true) {listed : Array Bool} (hs : listed.size = ops.size) (hr : Region.ready .any ops listed = []) : ∀ i, i < ops.size → listed.getD i false = true := by
  intro i
  induction i using Nat.strongRecOn with
  | ind i ih =>
    intro hi
    cases hl : listed.getD i true with
    | false =>
      exfalso
      have hm : i ∈ Region.ready .any ops listed := by
        rw [mem_ready]
        refine ⟨hl, ops[i], Array.getElem?_eq_getElem hi, fun e he hbd => ?_⟩
        unfold backB at hb
        rw [List.all_eq_true] at hb
        have h1 := hb i (List.mem_range.2 hi)
        rw [Array.getElem?_eq_getElem hi] at h1
        simp only [Array.all_eq_true_iff_forall_mem] at h1
        have h2 : e.on < i := by have h2 := h1 e he; rw [hbd] at h2; simpa using h2
        exact ih e.on h2 (by omega)
      rw [hr] at hm
      cases hm
    | true =>
      have hi' : i < listed.size := by omega
      simp only [Array.getD_eq_getD_getElem?, Array.getElem?_eq_getElem hi', Option.getD_some] at hl ⊢
      exact hl

theorem any_grow (hap : apartB ops = true) (hb : backB ops = true) {a : Act} {w : World} (J : Nat → Value → World → Prop)
    (mono : ∀ i v W W', Below W.heap.size W W' → J i v W → J i v W')
    (step : ∀ i o, ops[i]? = some o → ∀ f W, Below w.heap.size w W → (∀ e ∈ o.after, Region.binds .any e = true → J e.on (f e.on) W) →
      ∀ K' : Act → World → Prop, (∀ v W', Below W.heap.size W W' → J i v W' → K' ((puts ops a f ops.size).put o.dst v) W') →
        if Region.wanted o (yielded ops (puts ops a f ops.size).tmps) = true then Oper.wp P o (puts ops a f ops.size) W K' Q else K' ((puts ops a f ops.size).put o.dst undef) W)
    (fin : ∀ f W, Below w.heap.size w W → (∀ i, i < ops.size → J i (f i) W) → Q .normal (puts ops a f ops.size) W) :
    ∀ (fuel : Nat) (listed : Array Bool) (f : Nat → Value) (W : World), listed.size = ops.size → (List.range ops.size).countP (fun i => !listed.getD i true) ≤ fuel → Below w.heap.size w W →
      (∀ i, listed.getD i false = true → J i (f i) W) → wpAny P .any ops Q fuel listed (puts ops a f ops.size) W := by
  intro fuel
  induction fuel with
  | zero =>
    intro listed f W hs hc hB hJ
    have hall : ∀ i, i < ops.size → listed.getD i true = true := by
      intro i hi
      have h0 : (List.range ops.size).countP (fun i => !listed.getD i true) = 0 := by omega
      rw [List.countP_eq_zero] at h0
      simpa using h0 i (List.mem_range.2 hi)
    have hr : Region.ready .any ops listed = [] := by
      cases e : Region.ready .any ops listed with
      | nil => rfl
      | cons x l =>
        have hm : x ∈ Region.ready .any ops listed := by rw [e]; exact List.mem_cons_self
        rw [mem_ready] at hm
        obtain ⟨h0, o, ho, _⟩ := hm
        have := hall x (Array.getElem?_eq_some_iff.1 ho).1
        rw [this] at h0
        cases h0
    exact ⟨hr, fin f W hB (fun i hi => hJ i (all_listed hb hs hr i hi))⟩
  | succ fuel ih =>
    intro listed f W hs hc hB hJ
    refine ⟨fun hr => fin f W hB (fun i hi => hJ i (all_listed hb hs hr i hi)), fun i hi => ?_⟩
    have hi' := hi
    rw [mem_ready] at hi'
    obtain ⟨h0, o, ho, hall⟩ := hi'
    have hlt : i < ops.size := (Array.getElem?_eq_some_iff.1 ho).1
    refine wpOp_step ho fun K' hK => step i o ho f W hB (fun e he hbd => hJ e.on (hall e he hbd)) K' fun v W' hW hJ' => hK _ _ ?_
    have e1 : (puts ops a f ops.size).put o.dst v = puts ops a (upd f i v) ops.size := by
      rw [puts_upd hap ops.size hlt (Nat.le_refl _), ho]
      rfl
    rw [e1]
    refine ih _ _ _ (by simpa using hs) ?_ (hB.trans (hW.mono hB.size)) ?_
    · have := countP_lt (p := fun i => !listed.getD i true) (q := fun j => !(listed.setIfInBounds i true).getD j true) (fun j hj => by
        by_cases e : i = j
        · subst e
          simp only [h0, Bool.not_false]
        · simpa only [getD_set_ne true e] using hj) (i := i) (by simp only [h0, Bool.not_false]) (by
          have : i < listed.size := by omega
          simp [this]) (List.range ops.size) (List.mem_range.2 hlt)
      omega
    · intro j hj
      by_cases e : j = i
      · subst e
        unfold upd
        rw [if_pos rfl]
        exact hJ'
      · unfold upd
        rw [if_neg e]
        rw [getD_set_ne false (Ne.symm e)] at hj
        exact mono _ _ _ _ hW (hJ j hj)

/-- THE LAW: a region that draws its order, and in which memory only grows. -/
theorem wp_region_grow {id : Nat} (hm : P.follows .mixedOrders = true) (hap : apartB ops = true) (hb : backB ops = true) {a : Act} {w : World} (J : Nat → Value → World → Prop)
    (mono : ∀ i v W W', Below W.heap.size W W' → J i v W → J i v W')
    (step : ∀ i o, ops[i]? = some o → ∀ f W, Below w.heap.size w W → (∀ e ∈ o.after, Region.binds .any e = true → J e.on (f e.on) W) →
      ∀ K' : Act → World → Prop, (∀ v W', Below W.heap.size W W' → J i v W' → K' ((puts ops a f ops.size).put o.dst v) W') →
        if Region.wanted o (yielded ops (puts ops a f ops.size).tmps) = true then Oper.wp P o (puts ops a f ops.size) W K' Q else K' ((puts ops a f ops.size).put o.dst undef) W)
    (fin : ∀ f W, Below w.heap.size w W → (∀ i, i < ops.size → J i (f i) W) → Q .normal (puts ops a f ops.size) W) :
    (Code.region id ops true).wp P Q a w := by
  refine wp_region_any hm ?_
  obtain ⟨f, hf⟩ := puts_own ops a
  have h := any_grow hap hb (a := a) (w := w) J mono step fin ops.size (Array.replicate ops.size false) f w.drew (by simp) (by
    refine Nat.le_trans List.countP_le_length ?_
    simp) (belowDrew w) (fun i hi => by
      simp only [Array.getD_eq_getD_getElem?] at hi
      by_cases h : i < ops.size
      · simp [h] at hi
      · simp [h] at hi)
  rw [hf] at h
  exact h
end

/-! ### the frame told by its slots alone -/
theorem put_get (a : Act) (x : Option Tmp) (v : Value) (d : Nat) (h : x ≠ some d) : (a.put x v).tmps.getD d undef = a.tmps.getD d undef := by
  cases x with
  | none => rfl
  | some e =>
    have hne : e ≠ d := fun he => h (by rw [he])
    simp [Act.put, Array.getElem?_setIfInBounds_ne hne]
theorem put_at (a : Act) (d : Nat) (v : Value) (h : d < a.tmps.size) : (a.put (some d) v).tmps.getD d undef = v := by
  simp [Act.put, h]
theorem puts_size (ops : Array Oper) (a : Act) (f : Nat → Value) : ∀ k, (puts ops a f k).tmps.size = a.tmps.size := by
  intro k
  induction k with
  | zero => rfl
  | succ k ih =>
    simp only [puts]
    rw [← ih]
    cases (ops[k]?).bind (·.dst) <;> simp [Act.put]
theorem puts_at {ops : Array Oper} (hap : apartB ops = true) {a : Act} {f : Nat → Value} {i d : Nat} (hd : (ops[i]?).bind (·.dst) = some d) (hsz : d < a.tmps.size) : ∀ k, i < k → k ≤ ops.size → (puts ops a f k).tmps.getD d undef = f i := by
  intro k
  induction k with
  | zero => intro h; omega
  | succ k ih =>
    intro h hk
    simp only [puts]
    by_cases e : i = k
    · subst e
      rw [hd]
      exact put_at _ _ _ (by rw [puts_size]; exact hsz)
    · rw [put_get _ _ _ _ (fun he => apart_of hap (i := k) (j := i) (by omega) (by omega) he hd rfl)]
      exact ih (by omega) (by omega)
theorem puts_off {ops : Array Oper} {a : Act} {f : Nat → Value} {d : Nat} (hd : ∀ i : Nat, (ops[i]?).bind (fun o : Oper => o.dst) ≠ some d) : ∀ k, (puts ops a f k).tmps.getD d undef = a.tmps.getD d undef := by
  intro k
  induction k with
  | zero => rfl
  | succ k ih =>
    simp only [puts]
    rw [put_get _ _ _ _ (hd k)]
    exact ih

/-- is the slot one of the region's own -/
def ownB (ops : Array Oper) (d : Nat) : Bool := ops.any fun o => o.dst == some d
theorem own_no {ops : Array Oper} {d : Nat} (h : ownB ops d = false) (i : Nat) : (ops[i]?).bind (·.dst) ≠ some d := by
  intro he
  cases e : ops[i]? with
  | none => rw [e] at he; cases he
  | some o =>
    rw [e] at he
    have hm : o ∈ ops := Array.mem_of_getElem? e
    unfold ownB at h
    simp only [Option.bind_some] at he
    have : ops.any (fun o => o.dst == some d) = true := by
      rw [Array.any_eq_true']
      exact ⟨o, hm, by simp [he]⟩
    rw [h] at this
    cases this

/-- each operation of a list -/
def Each (T : Nat → Oper → Prop) (k : Nat) (l : List Oper) : Prop := ∀ j o, l[j]? = some o → T (k + j) o
theorem Each.nil {T : Nat → Oper → Prop} {k : Nat} : Each T k [] := fun j o h => by simp at h
theorem Each.cons {T : Nat → Oper → Prop} {k : Nat} {o : Oper} {l : List Oper} (h : T k o) (t : Each T (k + 1) l) : Each T k (o :: l) := fun j o' h' => by
  cases j with
  | zero => simp only [List.getElem?_cons_zero, Option.some.injEq] at h'; subst h'; exact h
  | succ j =>
    rw [List.getElem?_cons_succ] at h'
    have := t j o' h'
    rw [show k + (j + 1) = k + 1 + j by omega]
    exact this

/-- what is known of a value, whatever grows -/
structure Kept where
  q : Value → World → Prop
  mono : ∀ v W W', Below W.heap.size W W' → q v W → q v W'
def kAny : Kept := ⟨fun _ _ => True, fun _ _ _ _ _ => trivial⟩
def kEq (x : Value) : Kept := ⟨fun v _ => v = x, fun _ _ _ _ h => h⟩
def kAt (js : List Kept) (i : Nat) : Kept := (js[i]?).getD kAny

/-- does the operation wait for that one -/
def depB (o : Oper) (j : Nat) : Bool := o.after.any fun e => e.on == j && Region.binds .any e

/-- ONE OPERATION'S STEP, of a frame told by its slots -/
def Step (P : Program) (ops : Array Oper) (Q : Exit → Act → World → Prop) (a : Act) (w : World) (js : List Kept) (i : Nat) (o : Oper) : Prop :=
  ∀ (A : Act) (W : World), Below w.heap.size w W → (∀ d, ownB ops d = false → A.tmps.getD d undef = a.tmps.getD d undef) →
    (∀ j d, depB o j = true → (ops[j]?).bind (·.dst) = some d → (kAt js j).q (A.tmps.getD d undef) W) →
    ∀ K : Act → World → Prop, (∀ v W', Below W.heap.size W W' → (kAt js i).q v W' → K (A.put o.dst v) W') →
      if Region.wanted o (yielded ops A.tmps) = true then Oper.wp P o A W K Q else K (A.put o.dst undef) W

def slotsB (ops : Array Oper) (n : Nat) : Bool := ops.all fun o => match o.dst with | some d => decide (d < n) | none => true

theorem wp_grow {P : Program} {Q : Exit → Act → World → Prop} {id : Nat} {l : List Oper} {a : Act} {w : World} (js : List Kept) (hm : P.follows .mixedOrders = true) (hap : apartB l.toArray = true) (hb : backB l.toArray = true) (hs : slotsB l.toArray a.tmps.size = true)
    (step : Each (Step P l.toArray Q a w js) 0 l)
    (fin : ∀ f W, Below w.heap.size w W → (∀ i, i < l.length → (kAt js i).q (f i) W) → Q .normal (puts l.toArray a f l.length) W) :
    (Code.region id l.toArray true).wp P Q a w := by
  refine wp_region_grow hm hap hb (fun i => (kAt js i).q) (fun i v W W' h => (kAt js i).mono v W W' h) ?_ (fun f W hB hJ => fin f W hB (fun i hi => hJ i (by simpa using hi)))
  intro i o ho f W hB hJ K hK
  have ho' : l[i]? = some o := by simpa using ho
  have h := step i o ho'
  rw [Nat.zero_add] at h
  refine h (puts l.toArray a f l.toArray.size) W hB (fun d hd => puts_off (own_no hd) _) ?_ K hK
  intro j d hdep hd
  have hlt : j < l.toArray.size := by
    cases e2 : l.toArray[j]? with
    | none => rw [e2] at hd; cases hd
    | some o' => exact (Array.getElem?_eq_some_iff.1 e2).1
  rw [puts_at hap hd (by
    cases e2 : l.toArray[j]? with
    | none => rw [e2] at hd; cases hd
    | some o' =>
      rw [e2] at hd
      simp only [Option.bind_some] at hd
      unfold slotsB at hs
      rw [Array.all_eq_true_iff_forall_mem] at hs
      have := hs o' (Array.mem_of_getElem? e2)
      rw [hd] at this
      exact of_decide_eq_true this) _ hlt (Nat.le_refl _)]
  unfold depB at hdep
  rw [Array.any_eq_true'] at hdep
  obtain ⟨e, he, hee⟩ := hdep
  simp only [Bool.and_eq_true, beq_iff_eq] at hee
  obtain ⟨rfl, hbd⟩ := hee
  exact hJ e he hbd
theorem wanted_of {ops : Array Oper} {A : Act} {o : Oper} {j d : Nat} {b : Bool} (hg : o.guard = some (j, b)) (hd : (ops[j]?).bind (·.dst) = some d) (h : A.tmps.getD d undef = .bool b) : Region.wanted o (yielded ops A.tmps) = true := by
  unfold Region.wanted
  rw [hg]
  have e : A.tmps[d]? = some (.bool b) := by
    cases e2 : A.tmps[d]? with
    | none => simp [Array.getD_eq_getD_getElem?, e2, undef] at h
    | some v => simp [Array.getD_eq_getD_getElem?, e2] at h; rw [h]
  simp only [yielded, hd, Option.bind_some, e]
  simp
theorem unwanted_of {ops : Array Oper} {A : Act} {o : Oper} {j d : Nat} {b c : Bool} (hg : o.guard = some (j, b)) (hd : (ops[j]?).bind (·.dst) = some d) (h : A.tmps.getD d undef = .bool c) (hne : c ≠ b) : ¬ Region.wanted o (yielded ops A.tmps) = true := by
  unfold Region.wanted
  rw [hg]
  have e : A.tmps[d]? = some (.bool c) := by
    cases e2 : A.tmps[d]? with
    | none => simp [Array.getD_eq_getD_getElem?, e2, undef] at h
    | some v => simp [Array.getD_eq_getD_getElem?, e2] at h; rw [h]
  simp only [yielded, hd, Option.bind_some, e]
  simpa using hne
theorem unwanted_und {ops : Array Oper} {A : Act} {o : Oper} {j d : Nat} {b : Bool} (hg : o.guard = some (j, b)) (hd : (ops[j]?).bind (·.dst) = some d) (h : A.tmps.getD d undef = undef) : ¬ Region.wanted o (yielded ops A.tmps) = true := by
  unfold Region.wanted
  rw [hg]
  simp only [yielded, hd, Option.bind_some]
  cases e2 : A.tmps[d]? with
  | none => simp
  | some v =>
    simp [Array.getD_eq_getD_getElem?, e2] at h
    subst h
    simp [undef]
end Go.Proofs.Ytnigadnjppeckaa.grow
