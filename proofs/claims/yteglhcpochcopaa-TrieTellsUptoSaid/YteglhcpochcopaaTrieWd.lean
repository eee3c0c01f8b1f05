/- Tries, plainly: their words, rising. -/
import Derived.Test.YteglhcpochcopaaRowW
import Derived.Test.YteglhcpochcopaaTrieSo
import Derived.Test.YteglhcpochcopaaTrieV
namespace Go.Proofs.Yteglhcpochcopaa.trie
open Go.RowKit

def wordAt (v : Option Int) (a : Wd) : List (Wd × Int) := match v with
  | some x => [(a, x)]
  | none => []
/-- the words of a trie, each behind a text -/
def words : TT → Wd → List (Wd × Int)
  | .nil, _ => []
  | .node v k, a => wordAt v a ++ bytes.flatMap fun c => words (k c) (a ++ [c])
theorem words_nil (a : Wd) : words .nil a = [] := by rw [words]
theorem words_node (v : Option Int) (k : UInt8 → TT) (a : Wd) : words (.node v k) a = wordAt v a ++ bytes.flatMap fun c => words (k c) (a ++ [c]) := by rw [words]
theorem words_len (t : TT) : ∀ a, (words t a).length = cnt t := by
  induction t with
  | nil => intro a; rw [words_nil, cnt_nil]; rfl
  | node v k ih =>
    intro a
    rw [words_node, cnt_node, List.length_append, List.length_flatMap]
    congr 1
    · cases v <;> rfl
    · congr 1
      exact List.map_congr_left fun c _ => ih c _
theorem mem_words {t : TT} : ∀ {a u : Wd} {x : Int}, (u, x) ∈ words t a ↔ ∃ s, u = a ++ s ∧ get t s = some x := by
  induction t with
  | nil => intro a u x; rw [words_nil]; simp [get_nil]
  | node v k ih =>
    intro a u x
    rw [words_node, List.mem_append, List.mem_flatMap]
    constructor
    · rintro (h | ⟨c, _, h⟩)
      · cases v with
        | none => simp [wordAt] at h
        | some y =>
          simp only [wordAt, List.mem_singleton, Prod.mk.injEq] at h
          exact ⟨[], by simp [h.1], by rw [get_empty, val_node, h.2]⟩
      · obtain ⟨s, e, h⟩ := ih c |>.1 h
        exact ⟨c :: s, by simp [e], h⟩
    · rintro ⟨s, e, h⟩
      cases s with
      | nil =>
        rw [get_empty, val_node] at h
        subst h
        exact .inl (by simp [wordAt, e])
      | cons c s => exact .inr ⟨c, mem_bytes c, (ih c).2 ⟨s, by simp [e], h⟩⟩

/-- one word is ahead of another -/
def wlt : Wd → Wd → Prop
  | [], [] => False
  | [], _ :: _ => True
  | _ :: _, [] => False
  | a :: s, b :: u => a.toNat < b.toNat ∨ a = b ∧ wlt s u
theorem wlt_irrefl (s : Wd) : ¬ wlt s s := by
  induction s with
  | nil => exact id
  | cons c s ih => rintro (h | ⟨_, h⟩); · omega
                   · exact ih h
theorem wlt_trans {s u v : Wd} (h1 : wlt s u) (h2 : wlt u v) : wlt s v := by
  induction s generalizing u v with
  | nil =>
    cases u with
    | nil => exact h1.elim
    | cons b u => cases v with
      | nil => exact h2.elim
      | cons c v => exact trivial
  | cons a s ih =>
    cases u with
    | nil => exact h1.elim
    | cons b u => cases v with
      | nil => exact h2.elim
      | cons c v =>
        rcases h1 with h1 | ⟨rfl, h1⟩
        · rcases h2 with h2 | ⟨rfl, h2⟩
          · exact .inl (Nat.lt_trans h1 h2)
          · exact .inl h1
        · rcases h2 with h2 | ⟨rfl, h2⟩
          · exact .inl h2
          · exact .inr ⟨rfl, ih h1 h2⟩
theorem wlt_total (s u : Wd) : wlt s u ∨ s = u ∨ wlt u s := by
  induction s generalizing u with
  | nil => cases u with
    | nil => exact .inr (.inl rfl)
    | cons b u => exact .inl trivial
  | cons a s ih => cases u with
    | nil => exact .inr (.inr trivial)
    | cons b u =>
      rcases Nat.lt_trichotomy a.toNat b.toNat with h | h | h
      · exact .inl (.inl h)
      · have e := toNat_inj' h
        subst e
        rcases ih u with h | rfl | h
        · exact .inl (.inr ⟨rfl, h⟩)
        · exact .inr (.inl rfl)
        · exact .inr (.inr (.inr ⟨rfl, h⟩))
      · exact .inr (.inr (.inl h))
theorem wlt_pre (a : Wd) {s u : Wd} (h : wlt s u) : wlt (a ++ s) (a ++ u) := by
  induction a with
  | nil => exact h
  | cons c a ih => exact .inr ⟨rfl, ih⟩
theorem words_rise (t : TT) : ∀ a, (words t a).Pairwise fun p q => wlt p.1 q.1 := by
  induction t with
  | nil => intro a; rw [words_nil]; exact .nil
  | node v k ih =>
    intro a
    rw [words_node, List.pairwise_append]
    refine ⟨by cases v <;> simp [wordAt], ?_, ?_⟩
    · rw [List.pairwise_flatMap]
      refine ⟨fun c _ => ih c _, ?_⟩
      refine bytes_rising.imp ?_
      rintro c d h ⟨x1, x2⟩ hx ⟨y1, y2⟩ hy
      obtain ⟨s, rfl, _⟩ := mem_words.1 hx
      obtain ⟨u, rfl, _⟩ := mem_words.1 hy
      simp only [List.append_assoc]
      exact wlt_pre a (.inl h)
    · rintro ⟨x1, x2⟩ hx ⟨y1, y2⟩ hy
      obtain ⟨c, _, hy⟩ := List.mem_flatMap.1 hy
      obtain ⟨u, rfl, _⟩ := mem_words.1 hy
      cases v with
      | none => simp [wordAt] at hx
      | some z =>
        simp only [wordAt, List.mem_singleton, Prod.mk.injEq] at hx
        obtain ⟨rfl, _⟩ := hx
        have := wlt_pre x1 (s := []) (u := c :: u) trivial
        simpa using this
/-- lists that rise are told by what is in them -/
theorem rise_eq {l m : List (Wd × Int)} (hl : l.Pairwise fun p q => wlt p.1 q.1) (hm : m.Pairwise fun p q => wlt p.1 q.1) (h : ∀ p, p ∈ l ↔ p ∈ m) : l = m := by
  induction l generalizing m with
  | nil =>
    cases m with
    | nil => rfl
    | cons y m => exact absurd ((h y).2 (List.mem_cons_self ..)) (by simp)
  | cons x l ih =>
    cases m with
    | nil => exact absurd ((h x).1 (List.mem_cons_self ..)) (by simp)
    | cons y m =>
      rw [List.pairwise_cons] at hl hm
      have e : x = y := by
        rcases List.mem_cons.1 ((h x).1 (List.mem_cons_self ..)) with e | e
        · exact e
        · rcases List.mem_cons.1 ((h y).2 (List.mem_cons_self ..)) with e' | e'
          · exact e'.symm
          · exact absurd (wlt_trans (hm.1 x e) (hl.1 y e')) (wlt_irrefl _)
      subst e
      rw [ih hl.2 hm.2 fun p => ?_]
      constructor
      · intro hp
        rcases List.mem_cons.1 ((h p).1 (List.mem_cons_of_mem _ hp)) with e | e
        · subst e; exact absurd (hl.1 _ hp) (wlt_irrefl _)
        · exact e
      · intro hp
        rcases List.mem_cons.1 ((h p).2 (List.mem_cons_of_mem _ hp)) with e | e
        · subst e; exact absurd (hm.1 _ hp) (wlt_irrefl _)
        · exact e
/-- the keys that are there, rising, are enough -/
theorem keys_flat {β : Type} {ks : List UInt8} (hr : Rising ks) (f : UInt8 → List β) (h0 : ∀ c, c ∉ ks → f c = []) : ks.flatMap f = bytes.flatMap f := by
  have h1 : ∀ l : List UInt8, l.flatMap f = (l.filter fun c => decide (c ∈ ks)).flatMap f := by
    intro l
    induction l with
    | nil => rfl
    | cons c l ih =>
      rw [List.flatMap_cons, List.filter_cons, ih]
      by_cases hc : c ∈ ks
      · simp [hc]
      · simp [hc, h0 c hc]
  rw [h1 bytes]
  congr 1
  have h2 : ∀ (l m : List UInt8), Rising l → Rising m → (∀ c, c ∈ l ↔ c ∈ m) → l = m := by
    intro l
    induction l with
    | nil =>
      intro m _ _ h
      cases m with
      | nil => rfl
      | cons y m => exact absurd ((h y).2 (List.mem_cons_self ..)) (by simp)
    | cons x l ih =>
      intro m hl hm h
      cases m with
      | nil => exact absurd ((h x).1 (List.mem_cons_self ..)) (by simp)
      | cons y m =>
        unfold Rising at hl hm
        rw [List.pairwise_cons] at hl hm
        have e : x = y := by
          rcases List.mem_cons.1 ((h x).1 (List.mem_cons_self ..)) with e | e
          · exact e
          · rcases List.mem_cons.1 ((h y).2 (List.mem_cons_self ..)) with e' | e'
            · exact e'.symm
            · have := hm.1 x e; have := hl.1 y e'; omega
        subst e
        rw [ih m hl.2 hm.2 fun p => ?_]
        constructor
        · intro hp
          rcases List.mem_cons.1 ((h p).1 (List.mem_cons_of_mem _ hp)) with e | e
          · subst e; have := hl.1 _ hp; omega
          · exact e
        · intro hp
          rcases List.mem_cons.1 ((h p).2 (List.mem_cons_of_mem _ hp)) with e | e
          · subst e; have := hm.1 _ hp; omega
          · exact e
  refine h2 _ _ hr (bytes_rising.sublist List.filter_sublist) fun c => ?_
  simp [mem_bytes]

/-- no way down is longer -/
def Deep (t : TT) (n : Nat) : Prop := ∀ s, under t s ≠ .nil → s.length ≤ n
theorem Deep.kid {v : Option Int} {k : UInt8 → TT} {n : Nat} {c : UInt8} (h : Deep (.node v k) n) (hc : k c ≠ .nil) : ∃ m, n = m + 1 ∧ Deep (k c) m := by
  have h1 : 1 ≤ n := h [c] hc
  refine ⟨n - 1, by omega, fun s hs => ?_⟩
  have := h (c :: s) hs
  simp at this
  omega
theorem Ok.some {t : TT} (h : Ok t) (hn : t ≠ .nil) : ∃ s x, get t s = some x := by
  cases t with
  | nil => exact absurd rfl hn
  | node v k => exact pos_get (by unfold Ok at h; exact Nat.pos_of_ne_zero h.1)
theorem deep_of {t : TT} {n : Nat} (h : Ok t) (hn : ∀ s x, get t s = some x → s.length ≤ n) : Deep t n := by
  intro s hs
  obtain ⟨u, x, hx⟩ := (ok_under (s := s) h).some hs
  have h1 : get t (s ++ u) = .some x := by
    unfold get at hx ⊢
    rw [under_app]
    exact hx
  have := hn _ _ h1
  simp at this
  omega
theorem deep_under {t : TT} {n : Nat} (s : Wd) (h : Deep t n) : Deep (under t s) n := by
  intro u hu
  rw [← under_app] at hu
  have := h _ hu
  simp at this
  omega
end Go.Proofs.Yteglhcpochcopaa.trie
