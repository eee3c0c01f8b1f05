/- A LAW FOR A REGION IN WHICH MEMORY GROWS, AND IN WHICH SOME OPERATIONS STORE, EACH INTO A BLOCK OF ITS OWN; a variable may be read and then assigned. Each operation is shown once, whatever order is drawn. No function of the program is named here. -/
import Derived.Test.YtnigadnjppeckaaGrow
namespace Go.Proofs.Ytnigadnjppeckaa.grow
open Go Go.RowKit

/-- as it was, but for the blocks of S and for what is new -/
structure BelowS (S : List Nat) (w w' : World) : Prop where
  os : w'.os = w.os
  tape : w'.tape = w.tape
  output : w'.output = w.output
  size : w.heap.size ≤ w'.heap.size
  block : ∀ k, k < w.heap.size → k ∉ S → w'.heap[k]? = w.heap[k]?
  typ : ∀ (k : Nat) (c : Array Value) (ty : Nat) (fz : Nat × Nat), w.heap[k]? = some (Obj.cells c ty fz) → ∃ c', w'.heap[k]? = some (Obj.cells c' ty fz) ∧ c'.size = c.size
theorem BelowS.of {S : List Nat} {w w' : World} (h : Below w.heap.size w w') : BelowS S w w' := ⟨h.os, h.tape, h.output, h.size, fun k hk _ => h.block k hk, fun _ c _ _ hk => ⟨c, upb h hk, rfl⟩⟩
theorem BelowS.trans {S : List Nat} {w w1 w2 : World} (h : BelowS S w w1) (k : BelowS S w1 w2) : BelowS S w w2 :=
  ⟨k.os.trans h.os, k.tape.trans h.tape, k.output.trans h.output, Nat.le_trans h.size k.size, fun b hb hs => (k.block b (Nat.lt_of_lt_of_le hb h.size) hs).trans (h.block b hb hs), fun b c ty fz hb => by obtain ⟨c1, h1, e1⟩ := h.typ b c ty fz hb; obtain ⟨c2, h2, e2⟩ := k.typ b c1 ty fz h1; exact ⟨c2, h2, e2.trans e1⟩⟩
theorem BelowS.more {S S' : List Nat} {w w' : World} (h : BelowS S w w') (hs : ∀ x, x ∈ S → x ∈ S') : BelowS S' w w' := ⟨h.os, h.tape, h.output, h.size, fun k hk hn => h.block k hk (fun e => hn (hs _ e)), h.typ⟩
theorem BelowS.up {S : List Nat} {w w' : World} (h : BelowS S w w') {b : Nat} {o : Obj} (hb : b ∉ S) (hc : w.heap[b]? = some o) : w'.heap[b]? = some o := (h.block b (Array.getElem?_eq_some_iff.1 hc).1 hb).trans hc
theorem BelowS.upc {S : List Nat} {w w' : World} (h : BelowS S w w') {a : Addr} {v : Value} (hb : a.block ∉ S) (hc : w.cell? a = some v) : w'.cell? a = some v := by
  rw [← hc]
  simp only [World.cell?, h.block a.block (World.block_lt_of_cell? w a hc) hb]
theorem BelowS.below {S : List Nat} {w w' : World} (h : BelowS S w w') {B : Nat} (hB : B ≤ w.heap.size) (hS : ∀ b, b ∈ S → B ≤ b) : Below B w w' :=
  ⟨h.os, h.tape, h.output, h.size, fun k hk => h.block k (Nat.lt_of_lt_of_le hk hB) (fun e => by have := hS k e; omega)⟩

theorem BelowS.refl (S : List Nat) (w : World) : BelowS S w w := ⟨rfl, rfl, rfl, Nat.le_refl _, fun _ _ _ => rfl, fun _ c _ _ h => ⟨c, h, rfl⟩⟩
theorem BelowS.set (S : List Nat) (w : World) (b off : Nat) (hb : b ∈ S) (u : Value) : BelowS S w (w.setCell ⟨b, off, none⟩ u) := by
  refine ⟨rfl, rfl, rfl, by simp [World.setCell], fun k _ hk => Below.heap_setCell _ _ _ _ (fun e => hk (by rw [e]; exact hb)), fun k c ty fz h => ?_⟩
  by_cases e : k = b
  · subst e
    have hk := (Array.getElem?_eq_some_iff.1 h).1
    simp [World.setCell, Array.getElem?_modify, h]
  · exact ⟨c, (Below.heap_setCell _ _ _ _ e).trans h, rfl⟩
theorem size1 {c : Array Value} (h : c.size = 1) : ∃ u, c = #[u] := by
  match c, h with
  | ⟨[u]⟩, _ => exact ⟨u, rfl⟩
theorem size2 {c : Array Value} (h : c.size = 2) : ∃ u v, c = #[u, v] := by
  match c, h with
  | ⟨[u, v]⟩, _ => exact ⟨u, v, rfl⟩
theorem size3 {c : Array Value} (h : c.size = 3) : ∃ u v x, c = #[u, v, x] := by
  match c, h with
  | ⟨[u, v, x]⟩, _ => exact ⟨u, v, x, rfl⟩
theorem sps_of {sps : List (Option Nat)} {S : List Nat} (h : ∀ b, some b ∈ sps → b ∈ S) : ∀ i b, sps.getD i none = some b → b ∈ S := by
  intro i b hi
  refine h b ?_
  rw [List.getD_eq_getElem?_getD] at hi
  cases e : sps[i]? with
  | none => rw [e] at hi; cases hi
  | some x =>
    rw [e] at hi
    simp only [Option.getD_some] at hi
    subst hi
    exact List.mem_of_getElem? e
/-- the value that the slot of an operation has ahead of the region -/
def f0 (ops : Array Oper) (a : Act) (i : Nat) : Value := match (ops[i]?).bind (·.dst) with | some d => a.tmps.getD d undef | none => undef
theorem puts_f0 (ops : Array Oper) (a : Act) : ∀ k, puts ops a (f0 ops a) k = a := by
  intro k
  induction k with
  | zero => rfl
  | succ k ih =>
    simp only [puts]
    rw [ih]
    exact put_own a _
/-- each operation with that slot waits for the i-th -/
def lateB (ops : Array Oper) (i d : Nat) : Bool := ops.all fun o => !(o.dst == some d) || depB o i

section
variable {P : Program} {ops : Array Oper} {Q : Exit → Act → World → Prop}
theorem any_dag (hap : apartB ops = true) (hb : backB ops = true) {a : Act} {w : World} (S : List Nat) (sp : Nat → Option Nat) (hsp : ∀ i b, sp i = some b → b ∈ S) (J : Nat → Value → World → Prop)
    (mono : ∀ i v W W', Below W.heap.size W W' → J i v W → J i v W')
    (monoS : ∀ i j b v W W', j ≠ i → sp j = some b → BelowS [b] W W' → J i v W → J i v W')
    (step : ∀ i o, ops[i]? = some o → ∀ f W, BelowS S w W → (∀ k ok, ops[k]? = some ok → depB ok i = true → f k = f0 ops a k) → (∀ e ∈ o.after, Region.binds .any e = true → J e.on (f e.on) W) →
      ∀ K' : Act → World → Prop, (∀ v W', (match sp i with | none => Below W.heap.size W W' | some b => BelowS [b] W W') → J i v W' → K' ((puts ops a f ops.size).put o.dst v) W') →
        if Region.wanted o (yielded ops (puts ops a f ops.size).tmps) = true then Oper.wp P o (puts ops a f ops.size) W K' Q else K' ((puts ops a f ops.size).put o.dst undef) W)
    (fin : ∀ f W, BelowS S w W → (∀ i, i < ops.size → J i (f i) W) → Q .normal (puts ops a f ops.size) W) :
    ∀ (fuel : Nat) (listed : Array Bool) (f : Nat → Value) (W : World), listed.size = ops.size → (List.range ops.size).countP (fun i => !listed.getD i true) ≤ fuel → BelowS S w W →
      (∀ i, listed.getD i false = true → J i (f i) W) → (∀ i, listed.getD i false = false → f i = f0 ops a i) → (∀ i o, listed.getD i false = true → ops[i]? = some o → ∀ e ∈ o.after, Region.binds .any e = true → listed.getD e.on false = true) →
      wpAny P .any ops Q fuel listed (puts ops a f ops.size) W := by
  intro fuel
  induction fuel with
  | zero =>
    intro listed f W hs hc hB hJ hu hcl
    have hall : ∀ i, i < ops.size → listed.getD i true = true := by
      intro i hi
      have h0 : (List.range ops.size).countP (fun i => !listed.getD i true) = 0 := by omega
      rw [List.countP_eq_zero] at h0
      simpa using h0 i (List.mem_range.2 hi)
    have hr : Region.ready .any ops listed = [] := by
      cases e : Region.ready .any ops listed with
      | nil => rfl
      | cons x l =>
        have hm : x ∈ Region.ready .any ops listed := by rw [e]; exact List.mem_cons_self
        rw [mem_ready] at hm
        obtain ⟨h0, o, ho, _⟩ := hm
        have := hall x (Array.getElem?_eq_some_iff.1 ho).1
        rw [this] at h0
        cases h0
    exact ⟨hr, fin f W hB (fun i hi => hJ i (all_listed hb hs hr i hi))⟩
  | succ fuel ih =>
    intro listed f W hs hc hB hJ hu hcl
    refine ⟨fun hr => fin f W hB (fun i hi => hJ i (all_listed hb hs hr i hi)), fun i hi => ?_⟩
    have hi' := hi
    rw [mem_ready] at hi'
    obtain ⟨h0, o, ho, hall⟩ := hi'
    have hlt : i < ops.size := (Array.getElem?_eq_some_iff.1 ho).1
    have hil : i < listed.size := by omega
    have h0f : listed.getD i false = false := by
      simp only [Array.getD_eq_getD_getElem?, Array.getElem?_eq_getElem hil, Option.getD_some] at h0 ⊢
      exact h0
    have hun : ∀ k ok, ops[k]? = some ok → depB ok i = true → f k = f0 ops a k := by
      intro k ok hk hd
      refine hu k ?_
      cases hlk : listed.getD k false with
      | false => rfl
      | true =>
        unfold depB at hd
        rw [Array.any_eq_true'] at hd
        obtain ⟨e, he, hee⟩ := hd
        simp only [Bool.and_eq_true, beq_iff_eq] at hee
        have := hcl k ok hlk hk e he hee.2
        rw [hee.1, h0f] at this
        cases this
    refine wpOp_step ho fun K' hK => step i o ho f W hB hun (fun e he hbd => hJ e.on (hall e he hbd)) K' fun v W' hW hJ' => hK _ _ ?_
    have e1 : (puts ops a f ops.size).put o.dst v = puts ops a (upd f i v) ops.size := by
      rw [puts_upd hap ops.size hlt (Nat.le_refl _), ho]
      rfl
    rw [e1]
    have hset : (listed.setIfInBounds i true).getD i false = true := by simp [hil]
    refine ih _ _ _ (by simpa using hs) ?_ ?_ ?_ ?_ ?_
    · have := countP_lt (p := fun i => !listed.getD i true) (q := fun j => !(listed.setIfInBounds i true).getD j true) (fun j hj => by
        by_cases e : i = j
        · subst e
          simp only [h0, Bool.not_false]
        · simpa only [getD_set_ne true e] using hj) (i := i) (by simp only [h0, Bool.not_false]) (by simp [hil]) (List.range ops.size) (List.mem_range.2 hlt)
      omega
    · cases hsi : sp i with
      | none => rw [hsi] at hW; exact hB.trans (BelowS.of hW)
      | some b => rw [hsi] at hW; exact hB.trans (hW.more (fun x hx => by rw [List.mem_singleton.1 hx]; exact hsp i b hsi))
    · intro j hj
      by_cases e : j = i
      · subst e
        unfold upd
        rw [if_pos rfl]
        exact hJ'
      · unfold upd
        rw [if_neg e]
        rw [getD_set_ne false (Ne.symm e)] at hj
        cases hsi : sp i with
        | none => rw [hsi] at hW; exact mono _ _ _ _ hW (hJ j hj)
        | some b => rw [hsi] at hW; exact monoS j i b _ _ _ (Ne.symm e) hsi hW (hJ j hj)
    · intro j hj
      by_cases e : j = i
      · subst e
        rw [hset] at hj
        cases hj
      · unfold upd
        rw [if_neg e]
        rw [getD_set_ne false (Ne.symm e)] at hj
        exact hu j hj
    · intro j o' hj ho' e he hbd
      by_cases ej : e.on = i
      · rw [ej]; exact hset
      · rw [getD_set_ne false (Ne.symm ej)]
        by_cases e2 : j = i
        · subst e2
          rw [ho] at ho'
          cases ho'
          exact hall e he hbd
        · rw [getD_set_ne false (Ne.symm e2)] at hj
          exact hcl j o' hj ho' e he hbd
end

theorem rep_false (n i : Nat) : (Array.replicate n false).getD i false = false := by
  rw [Array.getD_eq_getD_getElem?, Array.getElem?_replicate]
  split <;> rfl

/-- ONE OPERATION'S STEP, of a frame told by its slots -/
def StepD (P : Program) (ops : Array Oper) (Q : Exit → Act → World → Prop) (a : Act) (w : World) (S : List Nat) (js : List Kept) (sp : Option Nat) (i : Nat) (o : Oper) : Prop :=
  ∀ (A : Act) (W : World), BelowS S w W → (∀ d, lateB ops i d = true → A.tmps.getD d undef = a.tmps.getD d undef) →
    (∀ j d, depB o j = true → (ops[j]?).bind (·.dst) = some d → (kAt js j).q (A.tmps.getD d undef) W) →
    ∀ K : Act → World → Prop, (∀ v W', (match sp with | none => Below W.heap.size W W' | some b => BelowS [b] W W') → (kAt js i).q v W' → K (A.put o.dst v) W') →
      if Region.wanted o (yielded ops A.tmps) = true then Oper.wp P o A W K Q else K (A.put o.dst undef) W
/-- each operation, with the block into which it stores -/
def EachD (T : Option Nat → Nat → Oper → Prop) (k : Nat) (sps : List (Option Nat)) (l : List Oper) : Prop := ∀ j o, l[j]? = some o → T (sps.getD j none) (k + j) o
theorem EachD.nil {T : Option Nat → Nat → Oper → Prop} {k : Nat} {sps : List (Option Nat)} : EachD T k sps [] := fun j o h => by simp at h
theorem EachD.cons {T : Option Nat → Nat → Oper → Prop} {k : Nat} {o : Oper} {l : List Oper} {s : Option Nat} {sps : List (Option Nat)} (h : T s k o) (t : EachD T (k + 1) sps l) : EachD T k (s :: sps) (o :: l) := fun j o' h' => by
  cases j with
  | zero => simp only [List.getElem?_cons_zero, Option.some.injEq] at h'; subst h'; exact h
  | succ j =>
    rw [List.getElem?_cons_succ] at h'
    have := t j o' h'
    rw [show k + (j + 1) = k + 1 + j by omega]
    simpa using this

theorem puts_late {ops : Array Oper} (hap : apartB ops = true) {a : Act} (hs : slotsB ops a.tmps.size = true) {f : Nat → Value} {i d : Nat} (hl : lateB ops i d = true) (hu : ∀ k ok, ops[k]? = some ok → depB ok i = true → f k = f0 ops a k) :
    (puts ops a f ops.size).tmps.getD d undef = a.tmps.getD d undef := by
  by_cases h : ∃ k : Nat, (ops[k]?).bind (fun o : Oper => o.dst) = some d
  · obtain ⟨k, hk⟩ := h
    cases e2 : ops[k]? with
    | none => rw [e2] at hk; cases hk
    | some o' =>
      have hkl := (Array.getElem?_eq_some_iff.1 e2).1
      have hk2 := hk
      rw [e2] at hk2
      simp only [Option.bind_some] at hk2
      have hdl : d < a.tmps.size := by
        unfold slotsB at hs
        rw [Array.all_eq_true_iff_forall_mem] at hs
        have := hs o' (Array.mem_of_getElem? e2)
        rw [hk2] at this
        exact of_decide_eq_true this
      rw [puts_at hap hk hdl _ hkl (Nat.le_refl _)]
      unfold lateB at hl
      rw [Array.all_eq_true_iff_forall_mem] at hl
      have h1 := hl o' (Array.mem_of_getElem? e2)
      rw [hk2] at h1
      rw [hu k o' e2 (by simpa using h1)]
      unfold f0
      rw [hk]
  · exact puts_off (fun k e => h ⟨k, e⟩) _

theorem wp_grow_dag {P : Program} {Q : Exit → Act → World → Prop} {id : Nat} {l : List Oper} {a : Act} {w : World} (S : List Nat) (js : List Kept) (sps : List (Option Nat)) (hsp : ∀ i b, sps.getD i none = some b → b ∈ S) (hm : P.follows .mixedOrders = true) (hap : apartB l.toArray = true) (hb : backB l.toArray = true) (hs : slotsB l.toArray a.tmps.size = true)
    (monoS : ∀ i j b v W W', j ≠ i → sps.getD j none = some b → BelowS [b] W W' → (kAt js i).q v W → (kAt js i).q v W')
    (step : EachD (StepD P l.toArray Q a w S js) 0 sps l)
    (fin : ∀ f W, BelowS S w W → (∀ i, i < l.length → (kAt js i).q (f i) W) → ∀ A, puts l.toArray a f l.length = A → Q .normal A W) :
    (Code.region id l.toArray true).wp P Q a w := by
  refine wp_region_any hm ?_
  have h := any_dag (P := P) (ops := l.toArray) (Q := Q) hap hb (a := a) (w := w) S (fun i => sps.getD i none) hsp (fun i => (kAt js i).q) (fun i v W W' h => (kAt js i).mono v W W' h) (fun i j b v W W' h1 h2 h3 h4 => monoS i j b v W W' h1 h2 h3 h4) ?_ ?_ l.toArray.size (Array.replicate l.toArray.size false) (f0 l.toArray a) w.drew (by simp) (by
    refine Nat.le_trans List.countP_le_length ?_
    simp) (BelowS.of (belowDrew w)) (fun i hi => by rw [rep_false] at hi; cases hi) (fun i _ => rfl) (fun i o hi => by rw [rep_false] at hi; cases hi)
  · rw [puts_f0] at h
    exact h
  · intro i o ho f W hB hu hJ K hK
    have ho' : l[i]? = some o := by simpa using ho
    have h := step i o ho'
    rw [Nat.zero_add] at h
    refine h (puts l.toArray a f l.toArray.size) W hB (fun d hd => puts_late hap hs hd hu) ?_ K hK
    intro j d hdep hd
    have hlt : j < l.toArray.size := by
      cases e2 : l.toArray[j]? with
      | none => rw [e2] at hd; cases hd
      | some o' => exact (Array.getElem?_eq_some_iff.1 e2).1
    rw [puts_at hap hd (by
      cases e2 : l.toArray[j]? with
      | none => rw [e2] at hd; cases hd
      | some o' =>
        rw [e2] at hd
        simp only [Option.bind_some] at hd
        unfold slotsB at hs
        rw [Array.all_eq_true_iff_forall_mem] at hs
        have := hs o' (Array.mem_of_getElem? e2)
        rw [hd] at this
        exact of_decide_eq_true this) _ hlt (Nat.le_refl _)]
    unfold depB at hdep
    rw [Array.any_eq_true'] at hdep
    obtain ⟨e, he, hee⟩ := hdep
    simp only [Bool.and_eq_true, beq_iff_eq] at hee
    obtain ⟨rfl, hbd⟩ := hee
    exact hJ e he hbd
  · intro f W hB hF
    exact fin f W hB (fun i hi => hF i (by simpa using hi)) _ rfl
theorem monoS_of {js : List Kept} {sps : List (Option Nat)} (h : ∀ i, i < js.length → ∀ j b, j ≠ i → sps.getD j none = some b → ∀ v W W', BelowS [b] W W' → (kAt js i).q v W → (kAt js i).q v W') :
    ∀ i j b v W W', j ≠ i → sps.getD j none = some b → BelowS [b] W W' → (kAt js i).q v W → (kAt js i).q v W' := by
  intro i j b v W W' h1 h2 h3 h4
  by_cases hi : i < js.length
  · exact h i hi j b h1 h2 v W W' h3 h4
  · unfold kAt at h4 ⊢
    rw [List.getElem?_eq_none (by omega)]
    trivial
/-- the one place of a store -/
def onlyB (sps : List (Option Nat)) (s : Nat) : Bool := (List.range sps.length).all fun j => j == s || (sps.getD j none).isNone
theorem only_of {sps : List (Option Nat)} {s : Nat} (h : onlyB sps s = true) {j b : Nat} (hj : sps.getD j none = some b) : j = s := by
  by_cases hl : j < sps.length
  · unfold onlyB at h
    rw [List.all_eq_true] at h
    have h1 := h j (List.mem_range.2 hl)
    rw [hj] at h1
    simpa using h1
  · rw [List.getD_eq_getElem?_getD, List.getElem?_eq_none (by omega)] at hj
    cases hj
def kHeap (b : Nat) (o : Obj) : Kept := ⟨fun _ W => W.heap[b]? = some o, fun _ _ _ hb h => upb hb h⟩
end Go.Proofs.Ytnigadnjppeckaa.grow
