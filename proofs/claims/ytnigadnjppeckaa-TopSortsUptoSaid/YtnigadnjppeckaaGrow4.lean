/- A LAW FOR A REGION IN WHICH MEMORY ONLY GROWS, BUT FOR ITS LAST TWO OPERATIONS, one after the other, that wait for all others (an append, and the variable that it is put in). -/
import Derived.Test.YtnigadnjppeckaaGrow2
namespace Go.Proofs.Ytnigadnjppeckaa.grow
open Go Go.RowKit
section
variable {P : Program} {ops : Array Oper} {Q : Exit → Act → World → Prop}
theorem any_grow_last2 {n : Nat} {pen last : Oper} (hn : ops.size = n + 2) (hpen : ops[n]? = some pen) (hlast : ops[n + 1]? = some last) (hdep : (depsOf ops (n + 1)).contains n = true) (hgp : pen.guard = none) (hgl : last.guard = none) (hap : ∀ i j d e, i < n → j < i → (ops[i]?).bind (·.dst) = some d → (ops[j]?).bind (·.dst) = some e → d ≠ e)
    (hb : backB ops = true) (htop : topB ops n = true) {a : Act} {w : World} (J : Nat → Value → World → Prop)
    (mono : ∀ i v W W', Below W.heap.size W W' → J i v W → J i v W')
    (step : ∀ i o, i < n → ops[i]? = some o → ∀ f W, Below w.heap.size w W → (∀ e ∈ o.after, Region.binds .any e = true → J e.on (f e.on) W) →
      ∀ K' : Act → World → Prop, (∀ v W', Below W.heap.size W W' → J i v W' → K' ((puts ops a f n).put o.dst v) W') →
        if Region.wanted o (yielded ops (puts ops a f n).tmps) = true then Oper.wp P o (puts ops a f n) W K' Q else K' ((puts ops a f n).put o.dst undef) W)
    (fin : ∀ f W, Below w.heap.size w W → (∀ i, i < n → J i (f i) W) →
      Oper.wp P pen (puts ops a f n) W (fun A1 W1 => Oper.wp P last A1 W1 (fun A W' => Q .normal A W') Q) Q) :
    ∀ (fuel : Nat) (listed : Array Bool) (f : Nat → Value) (W : World), listed.size = ops.size → (List.range ops.size).countP (fun i => !listed.getD i true) ≤ fuel → Below w.heap.size w W →
      (∀ i, i < n → listed.getD i false = true → J i (f i) W) → listed.getD n true = false → (∀ i o, listed.getD i false = true → ops[i]? = some o → ∀ e ∈ o.after, Region.binds .any e = true → listed.getD e.on false = true) →
      wpAny P .any ops Q fuel listed (puts ops a f n) W := by
  have hsame : ∀ (f : Nat → Value) (i : Nat) (v : Value), i < n → (puts ops a f n).put ((ops[i]?).bind (·.dst)) v = puts ops a (upd f i v) n := by
    intro f i v hi
    have h : ∀ k, i < k → k ≤ n → puts ops a (upd f i v) k = (puts ops a f k).put ((ops[i]?).bind (·.dst)) v := by
      intro k
      induction k with
      | zero => intro h; omega
      | succ k ih =>
        intro h hk
        simp only [puts]
        by_cases e : i = k
        · subst e
          rw [puts_same i (Nat.le_refl _), put_put, show upd f i v i = v by unfold upd; rw [if_pos rfl]]
        · rw [ih (by omega) (by omega), show upd f i v k = f k by unfold upd; rw [if_neg (by omega)]]
          refine Act.put_comm _ _ _ ?_
          intro d hd he
          exact hap k i d d (by omega) (by omega) he hd rfl
    exact (h n hi (Nat.le_refl _)).symm
  intro fuel
  induction fuel with
  | zero =>
    intro listed f W hs hc hB hJ hno hcl
    exfalso
    have h0 : (List.range ops.size).countP (fun i => !listed.getD i true) = 0 := by omega
    rw [List.countP_eq_zero] at h0
    have := h0 n (List.mem_range.2 (by omega))
    rw [hno] at this
    simp at this
  | succ fuel ih =>
    intro listed f W hs hc hB hJ hno hcl
    refine ⟨fun hr => ?_, fun i hi => ?_⟩
    · exfalso
      have := all_listed hb hs hr n (by omega)
      have hn' : n < listed.size := by omega
      simp only [Array.getD_eq_getD_getElem?, Array.getElem?_eq_getElem hn', Option.getD_some] at this hno
      rw [this] at hno
      cases hno
    · have hi' := hi
      rw [mem_ready] at hi'
      obtain ⟨h0, o, ho, hall⟩ := hi'
      have hlt : i < ops.size := (Array.getElem?_eq_some_iff.1 ho).1
      by_cases hin1 : i = n + 1
      · exfalso
        subst hin1
        have hd : n ∈ depsOf ops (n + 1) := by simpa using hdep
        unfold depsOf at hd
        rw [ho] at hd
        obtain ⟨e, he, hen⟩ := List.mem_map.1 hd
        have he' := List.mem_filter.1 he
        have := hall e (by simpa using he'.1) he'.2
        have hi2 : n < listed.size := by omega
        rw [hen] at this
        simp only [Array.getD_eq_getD_getElem?, Array.getElem?_eq_getElem hi2, Option.getD_some] at this hno
        rw [this] at hno
        cases hno
      by_cases hin : i = n
      · subst hin
        rw [hpen] at ho
        cases ho
        have hanc : ∀ k, Anc ops i k → k ≠ i → listed.getD k false = true := by
          intro k hk
          induction hk with
          | top => intro h; exact absurd rfl h
          | @step k o' e hk' ho' he hbd ihk =>
            intro _
            by_cases hki : k = i
            · subst hki
              rw [hpen] at ho'
              cases ho'
              exact hall e he hbd
            · exact hcl k o' (ihk hki) ho' e he hbd
        have hfull : ∀ k, k < i → listed.getD k false = true := by
          intro k hk
          unfold topB at htop
          rw [List.all_eq_true] at htop
          have h1 := htop k (List.mem_range.2 hk)
          exact hanc k (ancs_sound ops i k (by simpa using h1)) (by omega)
        have hl1 : listed.getD (i + 1) false = false := by
          cases h : listed.getD (i + 1) false with
          | false => rfl
          | true =>
            have hd : i ∈ depsOf ops (i + 1) := by simpa using hdep
            unfold depsOf at hd
            rw [hlast] at hd
            obtain ⟨e, he, hen⟩ := List.mem_map.1 hd
            have he' := List.mem_filter.1 he
            have := hcl (i + 1) last h hlast e (by simpa using he'.1) he'.2
            have hi2 : i < listed.size := by omega
            rw [hen] at this
            simp only [Array.getD_eq_getD_getElem?, Array.getElem?_eq_getElem hi2, Option.getD_some] at this hno
            rw [this] at hno
            cases hno
        have hl1t : (listed.setIfInBounds i true).getD (i + 1) true = false := by
          rw [getD_set_ne true (by omega)]
          have hi2 : i + 1 < listed.size := by omega
          simp only [Array.getD_eq_getD_getElem?, Array.getElem?_eq_getElem hi2, Option.getD_some] at hl1 ⊢
          exact hl1
        have hcount : 0 < fuel := by
          have h1 := countP_lt (p := fun i => !listed.getD i true) (q := fun j => !(listed.setIfInBounds i true).getD j true) (fun j hj => by
            by_cases e : i = j
            · subst e
              simp only [h0, Bool.not_false]
            · simpa only [getD_set_ne true e] using hj) (i := i) (by simp only [h0, Bool.not_false]) (by
              have : i < listed.size := by omega
              simp [this]) (List.range ops.size) (List.mem_range.2 hlt)
          have h2 : 0 < (List.range ops.size).countP (fun j => !(listed.setIfInBounds i true).getD j true) := by
            rw [List.countP_pos_iff]
            exact ⟨i + 1, List.mem_range.2 (by omega), by rw [hl1t]; rfl⟩
          omega
        refine wpOp_step hpen fun K' hK => ?_
        have hf := fin f W hB (fun k hk => hJ k hk (hfull k hk))
        rw [if_pos (by simp [Region.wanted, hgp])]
        refine Oper.wp_mono (fun A1 W1 h1 => hK A1 W1 ?_) hf
        cases fuel with
        | zero => omega
        | succ fuel =>
          refine ⟨fun hr => ?_, fun x hx => ?_⟩
          · exfalso
            have := all_listed hb (by simpa using hs) hr (i + 1) (by omega)
            have hi2 : i + 1 < (listed.setIfInBounds i true).size := by simp; omega
            simp only [Array.getD_eq_getD_getElem?, Array.getElem?_eq_getElem hi2, Option.getD_some] at this hl1t
            rw [this] at hl1t
            cases hl1t
          · rw [mem_ready] at hx
            obtain ⟨h0, o, ho, hall⟩ := hx
            have hxl : x < ops.size := (Array.getElem?_eq_some_iff.1 ho).1
            have hx1 : x = i + 1 := by
              by_cases e1 : x = i + 1
              · exact e1
              · exfalso
                by_cases e : i = x
                · subst e
                  have : i < listed.size := by omega
                  simp [this] at h0
                · rw [getD_set_ne true e] at h0
                  have h2 := hfull x (by omega)
                  have hk' : x < listed.size := by omega
                  simp only [Array.getD_eq_getD_getElem?, Array.getElem?_eq_getElem hk', Option.getD_some] at h0 h2
                  rw [h2] at h0
                  cases h0
            subst hx1
            refine wpOp_step hlast fun K2 hK2 => ?_
            rw [if_pos (by simp [Region.wanted, hgl])]
            refine Oper.wp_mono (fun A2 W2 hQ => hK2 A2 W2 ?_) h1
            have hall2 : ∀ k, k < ops.size → ((listed.setIfInBounds i true).setIfInBounds (i + 1) true).getD k true = true := by
              intro k hk
              by_cases e1 : i + 1 = k
              · subst e1
                have : i + 1 < listed.size := by omega
                simp [this]
              · rw [getD_set_ne true e1]
                by_cases e : i = k
                · subst e
                  have : i < listed.size := by omega
                  simp [this]
                · rw [getD_set_ne true e]
                  have h2 := hfull k (by omega)
                  have hk' : k < listed.size := by omega
                  simp only [Array.getD_eq_getD_getElem?, Array.getElem?_eq_getElem hk', Option.getD_some] at h2 ⊢
                  exact h2
            have hr : Region.ready .any ops ((listed.setIfInBounds i true).setIfInBounds (i + 1) true) = [] := by
              cases e : Region.ready .any ops ((listed.setIfInBounds i true).setIfInBounds (i + 1) true) with
              | nil => rfl
              | cons x l =>
                have hm : x ∈ Region.ready .any ops ((listed.setIfInBounds i true).setIfInBounds (i + 1) true) := by rw [e]; exact List.mem_cons_self
                rw [mem_ready] at hm
                obtain ⟨h0, o, ho, _⟩ := hm
                have := hall2 x (Array.getElem?_eq_some_iff.1 ho).1
                rw [this] at h0
                cases h0
            cases fuel with
            | zero => exact ⟨hr, hQ⟩
            | succ k => exact ⟨fun _ => hQ, fun x hx => by rw [hr] at hx; cases hx⟩
      · have hin' : i < n := by omega
        refine wpOp_step ho fun K' hK => step i o hin' ho f W hB (fun e he hbd => hJ e.on (by
          unfold backB at hb
          rw [List.all_eq_true] at hb
          have h1 := hb i (List.mem_range.2 hlt)
          rw [ho] at h1
          simp only [Array.all_eq_true_iff_forall_mem] at h1
          have := back_lt hbd (h1 e he)
          omega) (hall e he hbd)) K' fun v W' hW hJ' => hK _ _ ?_
        have e1 : (puts ops a f n).put o.dst v = puts ops a (upd f i v) n := by
          rw [← hsame f i v hin', ho]
          rfl
        rw [e1]
        have hne : ∀ j, j ≠ i → ∀ b, (listed.setIfInBounds i true).getD j b = listed.getD j b := fun j hj b => getD_set_ne b (Ne.symm hj)
        have hset : (listed.setIfInBounds i true).getD i false = true := by
          have : i < listed.size := by omega
          simp [this]
        refine ih _ _ _ (by simpa using hs) ?_ (hB.trans (hW.mono hB.size)) ?_ ?_ ?_
        · have := countP_lt (p := fun i => !listed.getD i true) (q := fun j => !(listed.setIfInBounds i true).getD j true) (fun j hj => by
            by_cases e : i = j
            · subst e
              simp only [h0, Bool.not_false]
            · simpa only [getD_set_ne true e] using hj) (i := i) (by simp only [h0, Bool.not_false]) (by
              have : i < listed.size := by omega
              simp [this]) (List.range ops.size) (List.mem_range.2 hlt)
          omega
        · intro j hjn hj
          by_cases e : j = i
          · subst e
            unfold upd
            rw [if_pos rfl]
            exact hJ'
          · unfold upd
            rw [if_neg e]
            rw [hne j e] at hj
            exact mono _ _ _ _ hW (hJ j hjn hj)
        · rw [hne n (Ne.symm hin)]
          exact hno
        · intro j o' hj ho' e he hbd
          by_cases ej : e.on = i
          · rw [ej]; exact hset
          · rw [hne _ ej]
            by_cases e2 : j = i
            · subst e2
              rw [ho] at ho'
              cases ho'
              exact hall e he hbd
            · rw [hne j e2] at hj
              exact hcl j o' hj ho' e he hbd
end

/-- all but the last two -/
def EachL2 (T : Nat → Oper → Prop) (k : Nat) (l : List Oper) : Prop := ∀ j o, j + 2 < l.length → l[j]? = some o → T (k + j) o
theorem EachL2.nil {T : Nat → Oper → Prop} {k : Nat} {o o2 : Oper} : EachL2 T k [o, o2] := fun j o h _ => by simp only [List.length_cons, List.length_nil] at h; omega
theorem EachL2.cons {T : Nat → Oper → Prop} {k : Nat} {o o2 o3 : Oper} {l : List Oper} (h : T k o) (t : EachL2 T (k + 1) (o2 :: o3 :: l)) : EachL2 T k (o :: o2 :: o3 :: l) := fun j o' hj h' => by
  cases j with
  | zero => simp only [List.getElem?_cons_zero, Option.some.injEq] at h'; subst h'; exact h
  | succ j =>
    rw [List.getElem?_cons_succ] at h'
    have := t j o' (by simpa using hj) h'
    rw [show k + (j + 1) = k + 1 + j by omega]
    exact this
theorem wp_grow_last2 {P : Program} {Q : Exit → Act → World → Prop} {id : Nat} {l : List Oper} {a : Act} {w : World} (n : Nat) (pen last : Oper) (js : List Kept) (hn : l.length = n + 2) (hpen : l[n]? = some pen) (hlast : l[n + 1]? = some last) (hgp : pen.guard = none) (hgl : last.guard = none) (hdep : (depsOf l.toArray (n + 1)).contains n = true) (hm : P.follows .mixedOrders = true)
    (hap : apartL l.toArray n = true) (hb : backB l.toArray = true) (hs : slotsB l.toArray a.tmps.size = true) (htop : topB l.toArray n = true)
    (step : EachL2 (StepL P l.toArray n Q a w js) 0 l)
    (fin : ∀ f W, Below w.heap.size w W → (∀ i, i < n → (kAt js i).q (f i) W) → ∀ A, puts l.toArray a f n = A → Oper.wp P pen A W (fun A1 W1 => Oper.wp P last A1 W1 (fun A W' => Q .normal A W') Q) Q) :
    (Code.region id l.toArray true).wp P Q a w := by
  refine wp_region_any hm ?_
  obtain ⟨f, hf⟩ := puts_own l.toArray a
  have hsz : l.toArray.size = n + 2 := by simpa using hn
  have hl1 : l.toArray[n]? = some pen := by simpa using hpen
  have hl2 : l.toArray[n + 1]? = some last := by simpa using hlast
  have h := any_grow_last2 (P := P) (Q := Q) hsz hl1 hl2 hdep hgp hgl (fun i j d e hi hj hd he => apartL_of hap hi hj hd he) hb htop (a := a) (w := w) (fun i => (kAt js i).q) (fun i v W W' h => (kAt js i).mono v W W' h) ?_ ?_ l.toArray.size (Array.replicate l.toArray.size false) f w.drew (by simp) (by
    refine Nat.le_trans List.countP_le_length ?_
    simp) (belowDrew w) (fun i _ hi => by rw [rep_no] at hi; cases hi) (by
      have : n < l.length := by omega
      simp [this]) (fun i o hi => by rw [rep_no] at hi; cases hi)
  · rw [hf] at h
    exact h
  · intro i o hi ho f W hB hJ K hK
    have ho' : l[i]? = some o := by simpa using ho
    have h := step i o (by omega) ho'
    rw [Nat.zero_add] at h
    refine h (puts l.toArray a f n) W hB (fun d hd => putsL_off (ownL_no hd) _ (Nat.le_refl _)) ?_ K hK
    intro j d hdep hd
    unfold depB at hdep
    rw [Array.any_eq_true'] at hdep
    obtain ⟨e, he, hee⟩ := hdep
    simp only [Bool.and_eq_true, beq_iff_eq] at hee
    obtain ⟨rfl, hbd⟩ := hee
    have hlt : e.on < i := by
      have hb' := hb
      unfold backB at hb'
      rw [List.all_eq_true] at hb'
      have h1 := hb' i (List.mem_range.2 (by omega))
      rw [ho] at h1
      simp only [Array.all_eq_true_iff_forall_mem] at h1
      exact back_lt hbd (h1 e he)
    rw [putsL_at hap hd (by
      cases e2 : l.toArray[e.on]? with
      | none => rw [e2] at hd; cases hd
      | some o' =>
        rw [e2] at hd
        simp only [Option.bind_some] at hd
        unfold slotsB at hs
        rw [Array.all_eq_true_iff_forall_mem] at hs
        have := hs o' (Array.mem_of_getElem? e2)
        rw [hd] at this
        exact of_decide_eq_true this) n (by omega) (Nat.le_refl _)]
    exact hJ e he hbd
  · intro f W hB hF
    exact fin f W hB hF _ rfl
end Go.Proofs.Ytnigadnjppeckaa.grow
