/- Plain laws of keys by their bits: union, what another one has. -/
import Derived.Test.YtenaddjnaeebbaaPatP3
namespace Go.Proofs.Ytenaddjnaeebbaa.pat
open PT

/-- the second one lies under a part of the first one -/
def within (a b : PT) : Prop := b.lev < a.lev ∧ b.key / 2 ^ a.lev * 2 ^ a.lev = a.key
instance (a b : PT) : Decidable (within a b) := inferInstanceAs (Decidable (_ ∧ _))
def union (a b : PT) : PT :=
  if a.key = b.key ∧ a.lev = b.lev then
    match a, b with
    | .node key n al ar, .node _ _ bl br => .node key n (union al bl) (union ar br)
    | a, _ => a
  else if within a b then
    match a with
    | .node key n al ar => if b.key / 2 ^ n % 2 = 0 then .node key n (union al b) ar else .node key n al (union ar b)
    | a => a
  else if within b a then
    match b with
    | .node key n bl br => if a.key / 2 ^ n % 2 = 0 then .node key n (union a bl) br else .node key n bl (union a br)
    | b => b
  else both a b
termination_by a.sz + b.sz
decreasing_by all_goals (simp only [PT.sz]; omega)

theorem apart_of {a b : PT} (ha : Ok a) (hb : Ok b) (h1 : ¬ (a.key = b.key ∧ a.lev = b.lev)) (h2 : ¬ within a b) (h3 : ¬ within b a) : Apart a b := by
  have pa := Nat.two_pow_pos a.lev
  have pb := Nat.two_pow_pos b.lev
  have key : ∀ {a b : PT}, Ok a → Ok b → ¬ (a.key = b.key ∧ a.lev = b.lev) → ¬ within a b → b.lev ≤ a.lev → Apart a b := by
    intro a b ha hb h1 h2 hl
    have pa := Nat.two_pow_pos a.lev
    have d : 2 ^ b.lev ∣ a.key := Nat.dvd_trans (Nat.pow_dvd_pow 2 hl) ha.dvd
    unfold Apart
    by_cases hin : a.key ≤ b.key ∧ b.key < a.key + 2 ^ a.lev
    · exfalso
      rcases Nat.lt_or_ge b.lev a.lev with hlt | hge
      · exact h2 ⟨hlt, (fits_iff pa ha.dvd).2 hin⟩
      · have el : a.lev = b.lev := by omega
        rcases Nat.lt_or_ge a.key b.key with hk | hk
        · have := step_le ha.dvd (by rw [el]; exact hb.dvd) hk
          omega
        · exact h1 ⟨by omega, el⟩
    · rcases Nat.lt_or_ge b.key a.key with hk | hk
      · exact .inr (step_le hb.dvd d hk)
      · left; omega
  rcases Nat.le_total b.lev a.lev with hl | hl
  · exact key ha hb h1 h2 hl
  · exact (key hb ha (fun h => h1 ⟨h.1.symm, h.2.symm⟩) h3 hl).symm

/-- what lies under a part lies in its half -/
theorem half {key n : Nat} {l r : PT} {b : PT} (ha : Ok (.node key n l r)) (hb : Ok b) (hw : within (.node key n l r) b) :
    (b.key / 2 ^ n % 2 = 0 → Sub b key (key + 2 ^ n)) ∧ (¬ b.key / 2 ^ n % 2 = 0 → Sub b (key + 2 ^ n) (key + 2 ^ n + 2 ^ n)) := by
  obtain ⟨h64, hd, _⟩ := ha
  have hlt : b.lev < n + 1 := hw.1
  have hf : b.key / 2 ^ (n + 1) * 2 ^ (n + 1) = key := hw.2
  have e2 := pow_succ2 n
  have hB := Nat.two_pow_pos n
  have hin := (fits_iff (Nat.two_pow_pos _) hd).1 hf
  have hbit := bit_iff (k := b.key) hB (by rw [← e2]; exact hd) hin.1 (by omega)
  have dn : 2 ^ n ∣ key := Nat.dvd_trans ⟨2, by rw [e2, Nat.mul_comm]⟩ hd
  have db : 2 ^ b.lev ∣ 2 ^ n := Nat.pow_dvd_pow 2 (by omega)
  constructor
  · intro h0
    have := hbit.1 h0
    exact ⟨hin.1, step_le hb.dvd (Nat.dvd_add (Nat.dvd_trans db dn) db) this⟩
  · intro h0
    have h1 : key + 2 ^ n ≤ b.key := by
      rcases Nat.lt_or_ge b.key (key + 2 ^ n) with h | h
      · exact absurd (hbit.2 h) h0
      · exact h
    exact ⟨h1, step_le hb.dvd (Nat.dvd_add (Nat.dvd_add (Nat.dvd_trans db dn) db) db) (by omega)⟩

theorem lk_in {t : PT} (h : Ok t) {lo hi : Nat} (hs : Sub t lo hi) {j : Nat} {v : Int} (hj : lk t.list j = some v) : lo ≤ j ∧ j < hi := by
  have := keys_in h _ (lk_mem hj)
  have h1 := hs.1
  have h2 := hs.2
  simp only at this
  omega
theorem lk_no {t : PT} (h : Ok t) {lo hi : Nat} (hs : Sub t lo hi) {j : Nat} (hj : j < lo ∨ hi ≤ j) : lk t.list j = none := by
  cases e : lk t.list j with
  | none => rfl
  | some v => have := lk_in h hs e; omega

theorem sz_pos (t : PT) : 0 < t.sz := by cases t <;> simp only [PT.sz] <;> omega
theorem union_leaf {k : Nat} {v : Int} {b : PT} (h : (PT.leaf k v).key = b.key ∧ (PT.leaf k v).lev = b.lev) : union (.leaf k v) b = .leaf k v := by
  unfold union
  rw [if_pos h]
theorem union_same {key n key' n' : Nat} {al ar bl br : PT} (h : (PT.node key n al ar).key = (PT.node key' n' bl br).key ∧ (PT.node key n al ar).lev = (PT.node key' n' bl br).lev) :
    union (.node key n al ar) (.node key' n' bl br) = .node key n (union al bl) (union ar br) := by
  conv => lhs; unfold union
  rw [if_pos h]
theorem union_in {key n : Nat} {al ar b : PT} (h1 : ¬ ((PT.node key n al ar).key = b.key ∧ (PT.node key n al ar).lev = b.lev)) (h2 : within (.node key n al ar) b) :
    union (.node key n al ar) b = if b.key / 2 ^ n % 2 = 0 then .node key n (union al b) ar else .node key n al (union ar b) := by
  conv => lhs; unfold union
  rw [if_neg h1, if_pos h2]
theorem union_under {key n : Nat} {bl br a : PT} (h1 : ¬ (a.key = (PT.node key n bl br).key ∧ a.lev = (PT.node key n bl br).lev)) (h2 : ¬ within a (.node key n bl br)) (h3 : within (.node key n bl br) a) :
    union a (.node key n bl br) = if a.key / 2 ^ n % 2 = 0 then .node key n (union a bl) br else .node key n bl (union a br) := by
  conv => lhs; unfold union
  rw [if_neg h1, if_neg h2, if_pos h3]
theorem union_both {a b : PT} (h1 : ¬ (a.key = b.key ∧ a.lev = b.lev)) (h2 : ¬ within a b) (h3 : ¬ within b a) : union a b = both a b := by
  conv => lhs; unfold union
  rw [if_neg h1, if_neg h2, if_neg h3]

theorem union_spec : ∀ (m : Nat) (a b : PT), a.sz + b.sz ≤ m → Ok a → Ok b → Ok (union a b) ∧ (∀ lo e, 2 ^ e ∣ lo → Sub a lo (lo + 2 ^ e) → Sub b lo (lo + 2 ^ e) → Sub (union a b) lo (lo + 2 ^ e)) ∧ ∀ j, lk (union a b).list j = (lk a.list j).or (lk b.list j) := by
  intro m
  induction m with
  | zero => intro a b h; have := sz_pos a; omega
  | succ m ih =>
    intro a b hm ha hb
    by_cases h1 : a.key = b.key ∧ a.lev = b.lev
    · match a, b, hm, ha, hb, h1 with
      | .leaf k v, .leaf k' v', _, ha, hb, h1 =>
        rw [union_leaf h1]
        refine ⟨ha, fun lo e _ hs _ => hs, fun j => ?_⟩
        obtain rfl : k = k' := h1.1
        simp only [list, lk]
        by_cases e : k = j <;> simp [e]
      | .leaf k v, .node _ _ _ _, _, _, _, h1 => exact absurd h1.2 (by simp [PT.lev])
      | .node _ _ _ _, .leaf _ _, _, _, _, h1 => exact absurd h1.2 (by simp [PT.lev])
      | .node key n al ar, .node key' n' bl br, hm, ha, hb, h1 =>
        rw [union_same h1]
        obtain rfl : key = key' := h1.1
        have hn : n + 1 = n' + 1 := h1.2
        obtain rfl : n = n' := by omega
        obtain ⟨h64, hd, hal, har, sal, sar⟩ := ha
        obtain ⟨_, _, hbl, hbr, sbl, sbr⟩ := hb
        have e2 := pow_succ2 n
        have e3 : key + 2 ^ (n + 1) = key + 2 ^ n + 2 ^ n := by omega
        have dn : 2 ^ n ∣ key := Nat.dvd_trans ⟨2, by rw [e2, Nat.mul_comm]⟩ hd
        simp only [PT.sz] at hm
        obtain ⟨o1, o2, o3⟩ := ih al bl (by omega) hal hbl
        obtain ⟨q1, q2, q3⟩ := ih ar br (by omega) har hbr
        refine ⟨⟨h64, hd, o1, q1, o2 key n dn sal sbl, by rw [e3]; exact q2 (key + 2 ^ n) n (Nat.dvd_add dn (Nat.dvd_refl _)) (by rw [← e3]; exact sar) (by rw [← e3]; exact sbr)⟩, fun lo e _ hs _ => hs, fun j => ?_⟩
        simp only [list, lk_append, o3, q3]
        rcases Nat.lt_or_ge j (key + 2 ^ n) with hj | hj
        · rw [lk_no har sar (.inl hj), lk_no hbr sbr (.inl hj)]; simp
        · rw [lk_no hal sal (.inr hj), lk_no hbl sbl (.inr hj)]; simp
    · by_cases h2 : within a b
      · match a, hm, ha, h1, h2 with
        | .leaf _ _, _, _, _, h2 => exact absurd h2.1 (by simp [PT.lev])
        | .node key n al ar, hm, ha, h1, h2 =>
          have hh := half ha hb h2
          rw [union_in h1 h2]
          obtain ⟨h64, hd, hal, har, sal, sar⟩ := ha
          have e2 := pow_succ2 n
          have e3 : key + 2 ^ (n + 1) = key + 2 ^ n + 2 ^ n := by omega
          have dn : 2 ^ n ∣ key := Nat.dvd_trans ⟨2, by rw [e2, Nat.mul_comm]⟩ hd
          simp only [PT.sz] at hm
          by_cases h0 : b.key / 2 ^ n % 2 = 0
          · have sb := hh.1 h0
            obtain ⟨o1, o2, o3⟩ := ih al b (by omega) hal hb
            rw [if_pos h0]
            refine ⟨⟨h64, hd, o1, har, o2 key n dn sal sb, sar⟩, fun lo e _ hs _ => hs, fun j => ?_⟩
            simp only [list, lk_append, o3]
            rcases Nat.lt_or_ge j (key + 2 ^ n) with hj | hj
            · rw [lk_no har sar (.inl hj)]; simp
            · rw [lk_no hb sb (.inr hj)]; simp
          · have sb := hh.2 h0
            obtain ⟨o1, o2, o3⟩ := ih ar b (by omega) har hb
            rw [if_neg h0]
            refine ⟨⟨h64, hd, hal, o1, sal, by rw [e3]; exact o2 (key + 2 ^ n) n (Nat.dvd_add dn (Nat.dvd_refl _)) (by rw [← e3]; exact sar) sb⟩, fun lo e _ hs _ => hs, fun j => ?_⟩
            simp only [list, lk_append, o3, Option.or_assoc]
      · by_cases h3 : within b a
        · match b, hm, hb, h1, h2, h3 with
          | .leaf _ _, _, _, _, _, h3 => exact absurd h3.1 (by simp [PT.lev])
          | .node key n bl br, hm, hb, h1, h2, h3 =>
            have hh := half hb ha h3
            rw [union_under h1 h2 h3]
            obtain ⟨h64, hd, hbl, hbr, sbl, sbr⟩ := hb
            have e2 := pow_succ2 n
            have e3 : key + 2 ^ (n + 1) = key + 2 ^ n + 2 ^ n := by omega
            have dn : 2 ^ n ∣ key := Nat.dvd_trans ⟨2, by rw [e2, Nat.mul_comm]⟩ hd
            simp only [PT.sz] at hm
            by_cases h0 : a.key / 2 ^ n % 2 = 0
            · have sa := hh.1 h0
              obtain ⟨o1, o2, o3⟩ := ih a bl (by omega) ha hbl
              rw [if_pos h0]
              refine ⟨⟨h64, hd, o1, hbr, o2 key n dn sa sbl, sbr⟩, fun lo e _ _ hs => hs, fun j => ?_⟩
              simp only [list, lk_append, o3, Option.or_assoc]
            · have sa := hh.2 h0
              obtain ⟨o1, o2, o3⟩ := ih a br (by omega) ha hbr
              rw [if_neg h0]
              refine ⟨⟨h64, hd, hbl, o1, sbl, by rw [e3]; exact o2 (key + 2 ^ n) n (Nat.dvd_add dn (Nat.dvd_refl _)) sa (by rw [← e3]; exact sbr)⟩, fun lo e _ _ hs => hs, fun j => ?_⟩
              simp only [list, lk_append, o3]
              rcases Nat.lt_or_ge j (key + 2 ^ n) with hj | hj
              · rw [lk_no ha sa (.inl hj)]; simp
              · rw [lk_no hbl sbl (.inr hj)]; simp
        · have hap := apart_of ha hb h1 h2 h3
          rw [union_both h1 h2 h3]
          exact ⟨both_ok ha hb hap, fun lo e hd sa sb => both_sub ha hb hap hd sa sb, both_lk ha hb hap⟩

def oget : Option PT → Nat → Option Int
  | none, _ => none
  | some t, k => get t k
/-- those of a tree that another one has, or has not -/
def sifted (o : Option PT) (want : Bool) : PT → Option PT
  | .leaf k v => if (oget o k).isSome = want then some (.leaf k v) else none
  | .node key n l r => two key n (sifted o want l) (sifted o want r)
theorem sifted_spec (o : Option PT) (want : Bool) : ∀ t, Ok t → OOk (sifted o want t) ∧ (∀ lo hi, Sub t lo hi → OSub (sifted o want t) lo hi) ∧ ∀ j, lk (olist (sifted o want t)) j = if (oget o j).isSome = want then lk t.list j else none := by
  intro t
  induction t with
  | leaf k v =>
    intro ht
    simp only [sifted]
    by_cases e : (oget o k).isSome = want
    · rw [if_pos e]
      refine ⟨ht, fun _ _ h => h, fun j => ?_⟩
      simp only [olist, list, lk]
      by_cases ej : k = j
      · subst ej; simp [e]
      · simp [ej]
    · rw [if_neg e]
      refine ⟨trivial, fun _ _ _ => trivial, fun j => ?_⟩
      simp only [olist, list, lk]
      by_cases ej : k = j
      · subst ej; simp [e]
      · simp [ej]
  | node key n l r ihl ihr =>
    rintro ⟨h64, hd, hl, hr, sl, sr⟩
    obtain ⟨o1, o2, o3⟩ := ihl hl
    obtain ⟨q1, q2, q3⟩ := ihr hr
    have s1 := o2 _ _ sl
    have s2 := q2 _ _ sr
    refine ⟨two_ok h64 hd o1 q1 s1 s2, fun lo hi hs => two_sub s1 s2 hs.1 hs.2, fun j => ?_⟩
    simp only [sifted, two_list, lk_append, o3, q3, list]
    split <;> simp
end Go.Proofs.Ytenaddjnaeebbaa.pat
