/- Plain laws of nodes of 32 ways: what is under them, and where. No program stands here. -/
import Derived.WalkKit
import Derived.Lib.BitFns
namespace Go.Proofs.Ytenaddjnaeebbaa.hamt

abbrev PL := List (Int × Int)
def lkI : PL → Int → Option Int
  | [], _ => none
  | p :: r, k => if p.1 = k then some p.2 else lkI r k
theorem lkI_append (l r : PL) (k : Int) : lkI (l ++ r) k = (lkI l k).or (lkI r k) := by
  induction l with
  | nil => simp [lkI]
  | cons p l ih =>
    simp only [List.cons_append, lkI]
    split
    · simp
    · exact ih
theorem lkI_none {l : PL} {k : Int} (h : ∀ p ∈ l, p.1 ≠ k) : lkI l k = none := by
  induction l with
  | nil => rfl
  | cons p l ih =>
    simp only [lkI]
    rw [if_neg (h p List.mem_cons_self)]
    exact ih fun q hq => h q (List.mem_cons_of_mem _ hq)
theorem lkI_mem {l : PL} {k v : Int} (h : lkI l k = some v) : (k, v) ∈ l := by
  induction l with
  | nil => simp [lkI] at h
  | cons p l ih =>
    simp only [lkI] at h
    split at h
    · next e => cases h; rw [← e]; exact List.mem_cons_self
    · exact List.mem_cons_of_mem _ (ih h)
/-- no key twice -/
def Dis (l : PL) : Prop := l.Pairwise fun p q => p.1 ≠ q.1
theorem Dis.lk {l : PL} (h : Dis l) {k v : Int} (hm : (k, v) ∈ l) : lkI l k = some v := by
  induction l with
  | nil => cases hm
  | cons p l ih =>
    unfold Dis at h
    rw [List.pairwise_cons] at h
    simp only [lkI]
    rcases List.mem_cons.1 hm with e | e
    · rw [← e, if_pos rfl]
    · rw [if_neg (fun he => h.1 _ e (by rw [he]))]
      exact ih h.2 e

/-- one kid: its way, its block, what is under it -/
abbrev Kid := Nat × Nat × PL
def flat (ks : List Kid) : PL := ks.flatMap fun e => e.2.2
theorem flat_append (a b : List Kid) : flat (a ++ b) = flat a ++ flat b := by unfold flat; rw [List.flatMap_append]
theorem flat_one (e : Kid) : flat [e] = e.2.2 := by simp [flat]
theorem mem_flat {ks : List Kid} {p : Int × Int} : p ∈ flat ks ↔ ∃ e ∈ ks, p ∈ e.2.2 := by unfold flat; rw [List.mem_flatMap]
structure Kids (wy : Int → Nat) (ks : List Kid) : Prop where
  asc : ks.Pairwise fun a b => a.1 < b.1
  lt : ∀ e ∈ ks, e.1 < 32
  route : ∀ e ∈ ks, ∀ p ∈ e.2.2, wy p.1 = e.1
  ne : ∀ e ∈ ks, e.2.2 ≠ []
  dis : ∀ e ∈ ks, Dis e.2.2
theorem Kids.nil (wy : Int → Nat) : Kids wy [] := ⟨List.Pairwise.nil, (fun _ h => by cases h), (fun _ h => by cases h), (fun _ h => by cases h), (fun _ h => by cases h)⟩
theorem Kids.tail {wy : Int → Nat} {e : Kid} {ks : List Kid} (h : Kids wy (e :: ks)) : Kids wy ks :=
  ⟨(List.pairwise_cons.1 h.asc).2, fun x hx => h.lt x (List.mem_cons_of_mem _ hx), fun x hx => h.route x (List.mem_cons_of_mem _ hx), fun x hx => h.ne x (List.mem_cons_of_mem _ hx), fun x hx => h.dis x (List.mem_cons_of_mem _ hx)⟩
theorem Kids.flat_dis {wy : Int → Nat} : ∀ {ks : List Kid}, Kids wy ks → Dis (flat ks)
  | [], _ => List.Pairwise.nil
  | e :: ks, h => by
    have e1 : flat (e :: ks) = e.2.2 ++ flat ks := by rw [← List.singleton_append, flat_append, flat_one]
    rw [e1]
    refine List.pairwise_append.2 ⟨h.dis e List.mem_cons_self, h.tail.flat_dis, fun p hp q hq he => ?_⟩
    obtain ⟨x, hx, hq⟩ := mem_flat.1 hq
    have h1 := h.route e List.mem_cons_self p hp
    have h2 := h.route x (List.mem_cons_of_mem _ hx) q hq
    have h3 := (List.pairwise_cons.1 h.asc).1 x hx
    rw [he] at h1
    omega
theorem Kids.flat_ne {wy : Int → Nat} {ks : List Kid} (h : Kids wy ks) (hn : ks ≠ []) : flat ks ≠ [] := by
  cases ks with
  | nil => exact absurd rfl hn
  | cons e ks =>
    intro he
    have e1 : flat (e :: ks) = e.2.2 ++ flat ks := by rw [← List.singleton_append, flat_append, flat_one]
    rw [e1] at he
    exact h.ne e List.mem_cons_self (List.append_eq_nil_iff.1 he).1
/-- the kids ahead of a way, at it, behind it -/
structure Split (ks : List Kid) (w : Nat) (pre mid post : List Kid) : Prop where
  eq : ks = pre ++ mid ++ post
  ahead : ∀ e ∈ pre, e.1 < w
  here : ∀ e ∈ mid, e.1 = w
  one : mid.length ≤ 1
  behind : ∀ e ∈ post, w < e.1
theorem split_exists (w : Nat) : ∀ {ks : List Kid}, (ks.Pairwise fun a b => a.1 < b.1) → ∃ pre mid post, Split ks w pre mid post
  | [], _ => ⟨[], [], [], rfl, (fun _ h => by cases h), (fun _ h => by cases h), Nat.zero_le _, (fun _ h => by cases h)⟩
  | e :: ks, h => by
    rw [List.pairwise_cons] at h
    by_cases h1 : e.1 < w
    · obtain ⟨pre, mid, post, hs⟩ := split_exists w h.2
      refine ⟨e :: pre, mid, post, by rw [hs.eq]; rfl, fun x hx => ?_, hs.here, hs.one, hs.behind⟩
      rcases List.mem_cons.1 hx with rfl | hx
      · exact h1
      · exact hs.ahead x hx
    · by_cases h2 : e.1 = w
      · refine ⟨[], [e], ks, rfl, (fun _ h => by cases h), fun x hx => ?_, Nat.le_refl _, fun x hx => ?_⟩
        · obtain rfl := List.mem_singleton.1 hx
          exact h2
        · have := h.1 x hx
          omega
      · refine ⟨[], [], e :: ks, rfl, (fun _ h => by cases h), (fun _ h => by cases h), Nat.zero_le _, fun x hx => ?_⟩
        rcases List.mem_cons.1 hx with rfl | hx
        · omega
        · have := h.1 x hx
          omega
theorem flat_route {wy : Int → Nat} {ks : List Kid} (h : ∀ e ∈ ks, ∀ p ∈ e.2.2, wy p.1 = e.1) {k : Int} (hk : ∀ e ∈ ks, e.1 ≠ wy k) : lkI (flat ks) k = none := by
  refine lkI_none fun p hp he => ?_
  obtain ⟨x, hx, hp⟩ := mem_flat.1 hp
  have h1 := h x hx p hp
  rw [he] at h1
  exact hk x hx h1.symm
/-- what is told of a key is told at its way -/
theorem Split.lk {wy : Int → Nat} {ks : List Kid} (h : Kids wy ks) {w : Nat} {pre mid post : List Kid} (hs : Split ks w pre mid post) {k : Int} (hk : wy k = w) : lkI (flat ks) k = lkI (flat mid) k := by
  have hr := h.route
  rw [hs.eq] at hr ⊢
  rw [flat_append, flat_append, lkI_append, lkI_append, flat_route (ks := pre) (fun e he => hr e (by simp [he])) (fun e he => by have := hs.ahead e he; omega),
    flat_route (ks := post) (fun e he => hr e (by simp [he])) (fun e he => by have := hs.behind e he; omega)]
  simp
theorem Split.lk_other {wy : Int → Nat} {ks : List Kid} (h : Kids wy ks) {w : Nat} {pre mid post : List Kid} (hs : Split ks w pre mid post) {k : Int} (hk : wy k ≠ w) : lkI (flat ks) k = (lkI (flat pre) k).or (lkI (flat post) k) := by
  have hr := h.route
  rw [hs.eq] at hr ⊢
  rw [flat_append, flat_append, lkI_append, lkI_append, flat_route (ks := mid) (fun e he => hr e (by simp [he])) (fun e he => by rw [hs.here e he]; exact Ne.symm hk)]
  simp
/-- other kids at a way -/
structure At (wy : Int → Nat) (w : Nat) (mid : List Kid) : Prop where
  way : ∀ e ∈ mid, e.1 = w
  one : mid.length ≤ 1
  route : ∀ e ∈ mid, ∀ p ∈ e.2.2, wy p.1 = e.1
  ne : ∀ e ∈ mid, e.2.2 ≠ []
  dis : ∀ e ∈ mid, Dis e.2.2
theorem At.none (wy : Int → Nat) (w : Nat) : At wy w [] := ⟨(fun _ h => by cases h), Nat.zero_le _, (fun _ h => by cases h), (fun _ h => by cases h), (fun _ h => by cases h)⟩
theorem At.single {wy : Int → Nat} {w b : Nat} {L : PL} (hr : ∀ p ∈ L, wy p.1 = w) (hn : L ≠ []) (hd : Dis L) : At wy w [(w, b, L)] := by
  refine ⟨fun e he => ?_, Nat.le_refl _, fun e he => ?_, fun e he => ?_, fun e he => ?_⟩ <;> (obtain rfl := List.mem_singleton.1 he)
  · rfl
  · exact hr
  · exact hn
  · exact hd
theorem Split.put {wy : Int → Nat} {ks : List Kid} (h : Kids wy ks) {w : Nat} (hw : w < 32) {pre mid post : List Kid} (hs : Split ks w pre mid post) {mid' : List Kid} (ha : At wy w mid') :
    Kids wy (pre ++ mid' ++ post) ∧ Split (pre ++ mid' ++ post) w pre mid' post := by
  have hr := h.route; have hl := h.lt; have hn := h.ne; have hd := h.dis; have hasc := h.asc
  rw [hs.eq] at hr hl hn hd hasc
  rw [List.pairwise_append, List.pairwise_append] at hasc
  obtain ⟨⟨hp, _, _⟩, hq, h3⟩ := hasc
  have hm : ∀ {P : Kid → Prop}, (∀ e ∈ pre ++ mid ++ post, P e) → (∀ e ∈ mid', P e) → ∀ e ∈ pre ++ mid' ++ post, P e := by
    intro P h1 h2 e he
    rcases List.mem_append.1 he with he | he
    · rcases List.mem_append.1 he with he | he
      · exact h1 e (by simp [he])
      · exact h2 e he
    · exact h1 e (by simp [he])
  refine ⟨⟨?_, hm hl fun e he => by rw [ha.way e he]; exact hw, hm hr ha.route, hm hn ha.ne, hm hd ha.dis⟩, rfl, hs.ahead, ha.way, ha.one, hs.behind⟩
  rw [List.pairwise_append, List.pairwise_append]
  refine ⟨⟨hp, ?_, fun a ha' b hb => ?_⟩, hq, fun a ha' b hb => ?_⟩
  · have := ha.one
    match mid', this with
    | [], _ => exact List.Pairwise.nil
    | [x], _ => exact List.pairwise_singleton _ _
  · have := hs.ahead a ha'; rw [ha.way b hb]; exact this
  · rcases List.mem_append.1 ha' with h' | h'
    · exact h3 a (by simp [h']) b hb
    · have := hs.behind b hb; rw [ha.way a h']; exact this
/-- a change at a way is a change of all -/
theorem Split.put_lk {wy : Int → Nat} {ks : List Kid} (h : Kids wy ks) {w : Nat} (hw : w < 32) {pre mid post : List Kid} (hs : Split ks w pre mid post) {mid' : List Kid} (ha : At wy w mid') {k : Int} (hk : wy k = w) {r : Option Int}
    (hl : ∀ j, wy j = w → lkI (flat mid') j = if j = k then r else lkI (flat mid) j) : ∀ j, lkI (flat (pre ++ mid' ++ post)) j = if j = k then r else lkI (flat ks) j := by
  intro j
  obtain ⟨h1, h2⟩ := hs.put h hw ha
  by_cases hj : wy j = w
  · rw [h2.lk h1 hj, hs.lk h hj, hl j hj]
  · rw [h2.lk_other h1 hj, hs.lk_other h hj, if_neg (by rintro rfl; exact hj hk)]
theorem flat_len (pre mid post : List Kid) : (flat (pre ++ mid ++ post)).length = (flat pre).length + (flat mid).length + (flat post).length := by
  rw [flat_append, flat_append, List.length_append, List.length_append]

/-! the ways that there are, as bits -/
structure MaskOf (m : Nat) (ks : List Kid) : Prop where
  lt : m < 2 ^ 32
  bit : ∀ i, m.testBit i = ks.any fun e => e.1 == i
theorem MaskOf.nil : MaskOf 0 [] := ⟨by decide, fun i => by simp⟩
theorem Split.has {ks : List Kid} {m w : Nat} (hm : MaskOf m ks) {pre mid post : List Kid} (hs : Split ks w pre mid post) : m.testBit w = !mid.isEmpty := by
  rw [hm.bit, hs.eq, List.any_append, List.any_append]
  have h1 : (pre.any fun e => e.1 == w) = false := by
    rw [List.any_eq_false]; intro e he; have := hs.ahead e he; simp; omega
  have h2 : (post.any fun e => e.1 == w) = false := by
    rw [List.any_eq_false]; intro e he; have := hs.behind e he; simp; omega
  rw [h1, h2, Bool.false_or, Bool.or_false]
  cases mid with
  | nil => rfl
  | cons e mid => simp [hs.here e List.mem_cons_self]
theorem MaskOf.set {ks : List Kid} {m w : Nat} (hw : w < 32) (hm : MaskOf m ks) {pre mid post : List Kid} (hs : Split ks w pre mid post) (b : Nat) (L : PL) : MaskOf (m ||| 2 ^ w) (pre ++ [(w, b, L)] ++ post) := by
  refine ⟨Nat.or_lt_two_pow hm.lt (Nat.pow_lt_pow_right (by decide) hw), fun i => ?_⟩
  rw [Nat.testBit_or, hm.bit, hs.eq, Nat.testBit_two_pow]
  simp only [List.any_append, List.any_cons, List.any_nil, Bool.or_false]
  have h1 : (mid.any fun e => e.1 == i) = true → (w == i) = true := by
    intro h; obtain ⟨e, he, h⟩ := List.any_eq_true.1 h; rw [hs.here e he] at h; exact h
  by_cases e : w = i
  · subst e; simp
  · have e' : (w == i) = false := by simp [e]
    have h2 : (mid.any fun e => e.1 == i) = false := by
      cases h : mid.any fun e => e.1 == i with
      | false => rfl
      | true => have := h1 h; rw [e'] at this; cases this
    rw [h2, e']
    simp [e]
theorem MaskOf.drop {ks : List Kid} {m w m' : Nat} (hm : MaskOf m ks) {pre mid post : List Kid} (hs : Split ks w pre mid post) (hl : m' < 2 ^ 32) (hb : ∀ i, m'.testBit i = (m.testBit i && decide (i ≠ w))) : MaskOf m' (pre ++ [] ++ post) := by
  refine ⟨hl, fun i => ?_⟩
  rw [hb, hm.bit, hs.eq]
  simp only [List.any_append, List.append_nil]
  by_cases e : i = w
  · subst e
    have h1 : (pre.any fun e => e.1 == i) = false := by
      rw [List.any_eq_false]; intro e he; have := hs.ahead e he; simp; omega
    have h2 : (post.any fun e => e.1 == i) = false := by
      rw [List.any_eq_false]; intro e he; have := hs.behind e he; simp; omega
    rw [h1, h2]; simp
  · have h2 : (mid.any fun e => e.1 == i) = false := by
      rw [List.any_eq_false]; intro x hx; rw [hs.here x hx]; simp; omega
    rw [h2]; simp [e]
theorem MaskOf.same {ks : List Kid} {m w : Nat} (hm : MaskOf m ks) {pre post : List Kid} {e e' : Kid} (hs : ks = pre ++ [e] ++ post) (he : e.1 = w) (he' : e'.1 = w) : MaskOf m (pre ++ [e'] ++ post) := by
  refine ⟨hm.lt, fun i => ?_⟩
  rw [hm.bit, hs]
  simp only [List.any_append, List.any_cons, List.any_nil, he, he']
/-- how many bits are set -/
def ones (x : Nat) : Nat := (List.range 32).countP fun i => x.testBit i
theorem countP_one (n a : Nat) (h : a < n) : (List.range n).countP (fun i => a == i) = 1 := by
  induction n with
  | zero => omega
  | succ n ih =>
    rw [List.range_succ, List.countP_append, List.countP_singleton]
    by_cases e : a = n
    · subst e
      have : (List.range a).countP (fun i => a == i) = 0 := by
        rw [List.countP_eq_zero]; intro i hi; have := List.mem_range.1 hi; simp; omega
      rw [this]; simp
    · rw [ih (by omega)]; simp [e]
theorem countP_ways : ∀ (l : List Kid), (l.Pairwise fun a b => a.1 < b.1) → (∀ e ∈ l, e.1 < 32) → (List.range 32).countP (fun i => l.any fun e => e.1 == i) = l.length
  | [], _, _ => by simp
  | e :: l, h, hl => by
    rw [List.pairwise_cons] at h
    have ih := countP_ways l h.2 fun x hx => hl x (List.mem_cons_of_mem _ hx)
    have hsum : ∀ r : List Nat, r.countP (fun i => (e :: l).any fun x => x.1 == i) = r.countP (fun i => e.1 == i) + r.countP (fun i => l.any fun x => x.1 == i) := by
      intro r
      induction r with
      | nil => rfl
      | cons i r ihr =>
        simp only [List.any_cons] at ihr
        simp only [List.countP_cons, List.any_cons, ihr]
        have e2 : e.1 = i → (l.any fun x => x.1 == i) = false := fun e1 => by
          rw [List.any_eq_false]; intro x hx; have := h.1 x hx; simp; omega
        cases e1 : (e.1 == i) with
        | true => rw [e2 (by simpa using e1)]; simp; omega
        | false => simp only [Bool.false_or, Bool.false_eq_true, if_false]; omega
    rw [hsum, ih, countP_one 32 e.1 (hl e List.mem_cons_self), List.length_cons]
    omega
theorem Split.count {ks : List Kid} {m w : Nat} {wy : Int → Nat} (h : Kids wy ks) (hm : MaskOf m ks) {pre mid post : List Kid} (hs : Split ks w pre mid post) : ones (m &&& (2 ^ w - 1)) = pre.length := by
  have hasc := h.asc; have hlt := h.lt
  rw [hs.eq, List.pairwise_append, List.pairwise_append] at hasc
  rw [hs.eq] at hlt
  rw [← countP_ways pre hasc.1.1 fun e he => hlt e (by simp [he])]
  unfold ones
  refine List.countP_congr fun i _ => ?_
  rw [Nat.testBit_and, hm.bit, Nat.testBit_two_pow_sub_one, hs.eq, List.any_append, List.any_append, Bool.and_eq_true, decide_eq_true_eq]
  constructor
  · rintro ⟨h1, h2⟩
    rcases Bool.or_eq_true_iff.1 h1 with h1 | h1
    · rcases Bool.or_eq_true_iff.1 h1 with h1 | h1
      · exact h1
      · obtain ⟨e, he, h3⟩ := List.any_eq_true.1 h1
        have := hs.here e he
        simp at h3; omega
    · obtain ⟨e, he, h3⟩ := List.any_eq_true.1 h1
      have := hs.behind e he
      simp at h3; omega
  · intro h1
    refine ⟨by rw [h1]; simp, ?_⟩
    obtain ⟨e, he, h3⟩ := List.any_eq_true.1 h1
    have := hs.ahead e he
    simp at h3; omega
theorem and_pow (m w : Nat) : m &&& 2 ^ w = if m.testBit w then 2 ^ w else 0 := by
  apply Nat.eq_of_testBit_eq
  intro i
  rw [Nat.testBit_and, Nat.testBit_two_pow]
  by_cases e : w = i
  · subst e
    cases h : m.testBit w <;> simp
  · cases m.testBit w <;> simp [e]
theorem and_pow_pos (m w : Nat) : decide (0 < m &&& 2 ^ w) = m.testBit w := by
  rw [and_pow]
  cases m.testBit w <;> simp [Nat.two_pow_pos]
end Go.Proofs.Ytenaddjnaeebbaa.hamt
