/- Tries, plainly: what is told of them, against lists of words. -/
import Derived.Test.YteglhcpochcopaaTrieWr
import Derived.Test.YteglhcpochcopaaTrieFi
namespace Go.Proofs.Yteglhcpochcopaa.trie
open Go.RowKit

abbrev Up (l : List (Wd × Int)) : Prop := l.Pairwise fun p q => wlt p.1 q.1
theorem before_or {a b : Wd} : (beforeB a b = true ∨ beforeB b a = true) ↔ a ≠ b := by
  rw [before_iff, before_iff]
  constructor
  · rintro (h | h) rfl
    · exact wlt_irrefl _ h
    · exact wlt_irrefl _ h
  · intro h
    rcases wlt_total a b with h1 | h1 | h1
    · exact .inl h1
    · exact absurd h1 h
    · exact .inr h1
theorem mem_worded {l : List (Wd × Int)} {k : Wd} {v : Int} {p : Wd × Int} : p ∈ worded l k v ↔ (p ∈ l ∧ p.1 ≠ k) ∨ p = (k, v) := by
  unfold worded
  rw [List.mem_append, List.mem_cons, List.mem_filter, List.mem_filter]
  unfold lessK moreK
  rw [← before_or]
  constructor
  · rintro (⟨h, e⟩ | h | ⟨h, e⟩)
    · exact .inl ⟨h, .inl e⟩
    · exact .inr h
    · exact .inl ⟨h, .inr e⟩
  · rintro (⟨h, e | e⟩ | h)
    · exact .inl ⟨h, e⟩
    · exact .inr (.inr ⟨h, e⟩)
    · exact .inr (.inl h)
theorem up_worded {l : List (Wd × Int)} (h : Up l) (k : Wd) (v : Int) : Up (worded l k v) := by
  unfold Up worded
  rw [List.pairwise_append]
  refine ⟨h.sublist List.filter_sublist, ?_, ?_⟩
  · rw [List.pairwise_cons]
    refine ⟨fun q hq => ?_, h.sublist List.filter_sublist⟩
    exact (before_iff _ _).1 (List.mem_filter.1 hq).2
  · intro p hp q hq
    have h1 := (before_iff _ _).1 (List.mem_filter.1 hp).2
    rcases List.mem_cons.1 hq with rfl | hq
    · exact h1
    · exact wlt_trans h1 ((before_iff _ _).1 (List.mem_filter.1 hq).2)
theorem worded_words {T : TT} (u : Wd) (x : Int) : worded (words T []) u x = words (put T u x) [] := by
  refine rise_eq (up_worded (words_rise T []) u x) (words_rise _ _) ?_
  rintro ⟨s, y⟩
  rw [mem_worded, mem_words, mem_words]
  simp only [List.nil_append]
  constructor
  · rintro (⟨⟨s', rfl, h⟩, hne⟩ | h)
    · exact ⟨s, rfl, by rw [get_put, if_neg hne]; exact h⟩
    · cases h; exact ⟨u, rfl, by rw [get_put, if_pos rfl]⟩
  · rintro ⟨s', rfl, h⟩
    rw [get_put] at h
    split at h
    · rename_i e; cases h; exact .inr (by rw [e])
    · rename_i e; exact .inl ⟨⟨s, rfl, h⟩, e⟩
theorem unworded_words {T : TT} (u : Wd) : unworded (words T []) u = words (drop T u) [] := by
  refine rise_eq ((words_rise T []).sublist List.filter_sublist) (words_rise _ _) ?_
  rintro ⟨s, y⟩
  unfold unworded
  rw [List.mem_filter, mem_words, mem_words]
  simp only [List.nil_append, otherK, Bool.not_eq_true', beq_eq_false_iff_ne, ne_eq]
  constructor
  · rintro ⟨⟨s', rfl, h⟩, hne⟩
    exact ⟨s, rfl, by rw [get_drop, if_neg hne]; exact h⟩
  · rintro ⟨s', rfl, h⟩
    rw [get_drop] at h
    split at h
    · cases h
    · rename_i e; exact ⟨⟨s, rfl, h⟩, e⟩

/-- those that begin with a text -/
def unders (l : List (Wd × Int)) (s : Wd) : List (Wd × Int) := l.filter fun p => startsB p.1 s
theorem unders_words {T : TT} (s : Wd) : unders (words T []) s = words (under T s) s := by
  refine rise_eq ((words_rise T []).sublist List.filter_sublist) (words_rise _ _) ?_
  rintro ⟨u, y⟩
  unfold unders
  rw [List.mem_filter, mem_words, mem_words]
  simp only [List.nil_append]
  constructor
  · rintro ⟨⟨s', rfl, h⟩, hs⟩
    obtain ⟨h1, h2⟩ := starts_iff hs
    have e : u = s ++ u.drop s.length := by conv => lhs; rw [← List.take_append_drop s.length u, h2]
    refine ⟨u.drop s.length, e, ?_⟩
    rw [e] at h
    unfold get at h ⊢
    rw [← under_app]
    exact h
  · rintro ⟨r, rfl, h⟩
    refine ⟨⟨_, rfl, by unfold get at h ⊢; rw [under_app]; exact h⟩, ?_⟩
    unfold startsB
    simp
/-- the last one with which a text begins -/
def lastS (s : Wd) : List (Wd × Int) → Option (Wd × Int) → Option (Wd × Int)
  | [], o => o
  | p :: l, o => lastS s l (if startsB s p.1 then some p else o)
theorem lastS_app (s : Wd) (l m : List (Wd × Int)) (o : Option (Wd × Int)) : lastS s (l ++ m) o = lastS s m (lastS s l o) := by
  induction l generalizing o with
  | nil => rfl
  | cons p l ih => exact ih _
theorem starts_short {s u v : Wd} (hu : startsB s u = true) (hv : startsB s v = true) (h : wlt u v) : u.length ≤ v.length := by
  rcases Nat.lt_or_ge v.length u.length with hl | hl
  · obtain ⟨h1, h2⟩ := starts_iff hu
    obtain ⟨h3, h4⟩ := starts_iff hv
    have e : u = v ++ u.drop v.length := by
      conv => lhs; rw [← List.take_append_drop v.length u]
      congr 1
      rw [← h4]
      conv => lhs; rw [← h2]
      rw [List.take_take, Nat.min_eq_left (by rw [List.length_take]; omega)]
      simp
    rw [e] at h
    exfalso
    have h5 : ∀ v r : Wd, ¬ wlt (v ++ r) v := by
      intro v
      induction v with
      | nil => intro r; cases r <;> exact id
      | cons c v ih => rintro r (h | ⟨_, h⟩)
                       · omega
                       · exact ih r h
    exact h5 _ _ h
  · exact hl
theorem lastS_max {s : Wd} {l : List (Wd × Int)} (hl : Up l) : ∀ {o : Option (Wd × Int)}, (∀ q, o = some q → startsB s q.1 = true ∧ ∀ p ∈ l, wlt q.1 p.1) →
    (∀ p, lastS s l o = some p → (p ∈ l ∨ o = some p) ∧ startsB s p.1 = true ∧ (∀ q ∈ l, startsB s q.1 = true → q.1.length ≤ p.1.length)) ∧ (lastS s l o = none → o = none ∧ ∀ q ∈ l, startsB s q.1 = false) := by
  induction l with
  | nil =>
    intro o ho
    refine ⟨fun p h => ⟨.inr h, (ho p h).1, fun q hq => by cases hq⟩, fun h => ⟨h, fun q hq => by cases hq⟩⟩
  | cons x l ih =>
    intro o ho
    have hl' := List.pairwise_cons.1 hl
    simp only [lastS]
    cases hx : startsB s x.1 with
    | true =>
      simp only [if_true]
      obtain ⟨h1, h2⟩ := ih hl'.2 (o := some x) (fun q hq => by cases hq; exact ⟨hx, fun p hp => hl'.1 p hp⟩)
      refine ⟨fun p hp => ?_, fun hn => by cases (h2 hn).1⟩
      obtain ⟨h3, h4, h5⟩ := h1 p hp
      have h6 : x.1.length ≤ p.1.length := by
        rcases h3 with h3 | h3
        · exact starts_short hx h4 (hl'.1 p h3)
        · cases h3; exact Nat.le_refl _
      refine ⟨.inl ?_, h4, fun q hq hqs => ?_⟩
      · rcases h3 with h3 | h3
        · exact List.mem_cons_of_mem _ h3
        · cases h3; exact List.mem_cons_self ..
      · rcases List.mem_cons.1 hq with rfl | hq
        · exact h6
        · exact h5 q hq hqs
    | false =>
      simp only [Bool.false_eq_true, if_false]
      obtain ⟨h1, h2⟩ := ih hl'.2 (o := o) (fun q hq => ⟨(ho q hq).1, fun p hp => (ho q hq).2 p (List.mem_cons_of_mem _ hp)⟩)
      refine ⟨fun p hp => ?_, fun hn => ⟨(h2 hn).1, fun q hq => ?_⟩⟩
      · obtain ⟨h3, h4, h5⟩ := h1 p hp
        refine ⟨h3.imp (List.mem_cons_of_mem _) id, h4, fun q hq hqs => ?_⟩
        rcases List.mem_cons.1 hq with rfl | hq
        · rw [hx] at hqs; cases hqs
        · exact h5 q hq hqs
      · rcases List.mem_cons.1 hq with rfl | hq
        · exact hx
        · exact (h2 hn).2 q hq
theorem lastS_words {T : TT} (s : Wd) : lastS s (words T []) none = best T s (s.length + 1) := by
  obtain ⟨h1, h2⟩ := lastS_max (s := s) (words_rise T []) (o := none) (fun q hq => by cases hq)
  have hw : ∀ {u : Wd} {x : Int}, (u, x) ∈ words T [] ↔ get T u = some x := fun {u x} => by rw [mem_words]; simp
  cases hL : lastS s (words T []) none with
  | none =>
    cases hb : best T s (s.length + 1) with
    | none => rfl
    | some p =>
      obtain ⟨j, hj, e, hg⟩ := best_form hb
      have := (h2 hL).2 (p.1, p.2) (hw.2 hg)
      rw [show ((p.1, p.2) : Wd × Int).1 = p.1 from rfl, e, starts_take] at this
      cases this
  | some p =>
    obtain ⟨hp, hs, hm⟩ := h1 p hL
    have hp' : p ∈ words T [] := by
      rcases hp with h | h
      · exact h
      · cases h
    have hg := hw.1 (show (p.1, p.2) ∈ words T [] from hp')
    obtain ⟨q, hq, hle⟩ := best_max hs (by rw [hg]; rfl) (N := s.length + 1) (by have := (starts_iff hs).1; omega)
    rw [hq]
    obtain ⟨j, hj, e, hgq⟩ := best_form hq
    have hqs : startsB s q.1 = true := by rw [e]; exact starts_take s j
    have h3 := hm (q.1, q.2) (hw.2 hgq) hqs
    have e1 : q.1 = p.1 := by
      have a1 := (starts_iff hqs).2
      have a2 := (starts_iff hs).2
      have a3 : q.1.length = p.1.length := Nat.le_antisymm h3 hle
      rw [← a1, ← a2, a3]
    rw [e1, hg] at hgq
    obtain ⟨p1, p2⟩ := p
    obtain ⟨q1, q2⟩ := q
    simp only at e1
    injection hgq with hgq
    simp only at hgq
    rw [e1, hgq]
/-- a word's value in a list -/
def valS (s : Wd) : List (Wd × Int) → Option Int → Option Int
  | [], o => o
  | p :: l, o => valS s l (if p.1 == s then some p.2 else o)
theorem valS_app (s : Wd) (l m : List (Wd × Int)) (o : Option Int) : valS s (l ++ m) o = valS s m (valS s l o) := by
  induction l generalizing o with
  | nil => rfl
  | cons p l ih => exact ih _
theorem valS_of {s : Wd} {l : List (Wd × Int)} : ∀ {o : Option Int}, (∀ p ∈ l, p.1 = s → ∀ q ∈ l, q.1 = s → p.2 = q.2) → (∀ x, o = some x → ∀ p ∈ l, p.1 = s → p.2 = x) →
    (∀ x, valS s l o = some x → (∃ p ∈ l, p.1 = s ∧ p.2 = x) ∨ o = some x) ∧ (valS s l o = none → o = none ∧ ∀ p ∈ l, p.1 ≠ s) := by
  induction l with
  | nil => intro o _ _; exact ⟨fun x h => .inr h, fun h => ⟨h, fun p hp => by cases hp⟩⟩
  | cons y l ih =>
    intro o hu ho
    simp only [valS]
    by_cases hy : y.1 = s
    · rw [if_pos (by simpa using hy)]
      obtain ⟨h1, h2⟩ := ih (o := some y.2) (fun p hp e q hq f => hu p (List.mem_cons_of_mem _ hp) e q (List.mem_cons_of_mem _ hq) f) (fun x hx p hp e => by cases hx; exact hu p (List.mem_cons_of_mem _ hp) e y (List.mem_cons_self ..) hy)
      refine ⟨fun x hx => .inl ?_, fun hn => by cases (h2 hn).1⟩
      rcases h1 x hx with ⟨p, hp, e, f⟩ | h
      · exact ⟨p, List.mem_cons_of_mem _ hp, e, f⟩
      · cases h; exact ⟨y, List.mem_cons_self .., hy, rfl⟩
    · rw [if_neg (by simpa using hy)]
      obtain ⟨h1, h2⟩ := ih (o := o) (fun p hp e q hq f => hu p (List.mem_cons_of_mem _ hp) e q (List.mem_cons_of_mem _ hq) f) (fun x hx p hp e => ho x hx p (List.mem_cons_of_mem _ hp) e)
      refine ⟨fun x hx => ?_, fun hn => ⟨(h2 hn).1, fun p hp => ?_⟩⟩
      · rcases h1 x hx with ⟨p, hp, e, f⟩ | h
        · exact .inl ⟨p, List.mem_cons_of_mem _ hp, e, f⟩
        · exact .inr h
      · rcases List.mem_cons.1 hp with rfl | hp
        · exact hy
        · exact (h2 hn).2 p hp
theorem valS_words {T : TT} (s : Wd) : valS s (words T []) none = get T s := by
  have hw : ∀ {u : Wd} {x : Int}, (u, x) ∈ words T [] ↔ get T u = some x := fun {u x} => by rw [mem_words]; simp
  obtain ⟨h1, h2⟩ := valS_of (s := s) (l := words T []) (o := none) (fun p hp e q hq f => by
    have a1 := hw.1 (show (p.1, p.2) ∈ words T [] from hp)
    have a2 := hw.1 (show (q.1, q.2) ∈ words T [] from hq)
    rw [e] at a1; rw [f] at a2; rw [a1] at a2; injection a2) (fun x h => by cases h)
  cases hv : valS s (words T []) none with
  | none =>
    cases hg : get T s with
    | none => rfl
    | some x => exact absurd rfl ((h2 hv).2 (s, x) (hw.2 hg))
  | some x =>
    rcases h1 x hv with ⟨p, hp, e, f⟩ | h
    · have := hw.1 (show (p.1, p.2) ∈ words T [] from hp)
      rw [← e, this, f]
    · cases h
end Go.Proofs.Yteglhcpochcopaa.trie
