/- Tries, plainly: words by their beginnings. No program stands here. -/
import Derived.Test.YteglhcpochcopaaBase
namespace Go.Proofs.Yteglhcpochcopaa.trie

/-- a word, byte by byte -/
abbrev Wd := List UInt8
inductive TT where
  | nil
  | node (v : Option Int) (kids : UInt8 → TT)
def TT.val : TT → Option Int
  | .nil => none
  | .node v _ => v
def TT.kid : TT → UInt8 → TT
  | .nil, _ => .nil
  | .node _ k, c => k c
@[simp] theorem val_nil : TT.val .nil = none := rfl
@[simp] theorem kid_nil (c : UInt8) : TT.kid .nil c = .nil := rfl
@[simp] theorem val_node (v : Option Int) (k : UInt8 → TT) : TT.val (.node v k) = v := rfl
@[simp] theorem kid_node (v : Option Int) (k : UInt8 → TT) (c : UInt8) : TT.kid (.node v k) c = k c := rfl

/-- all bytes, rising -/
def bytes : List UInt8 := (List.range 256).map UInt8.ofNat
theorem toNat_ofNat {n : Nat} (h : n < 256) : (UInt8.ofNat n).toNat = n := by simp [UInt8.toNat_ofNat']; omega
theorem ofNat_toNat' (c : UInt8) : UInt8.ofNat c.toNat = c := by simp
theorem toNat_lt' (c : UInt8) : c.toNat < 256 := c.toBitVec.isLt
theorem toNat_inj' {a b : UInt8} (h : a.toNat = b.toNat) : a = b := by rw [← ofNat_toNat' a, ← ofNat_toNat' b, h]
theorem mem_bytes (c : UInt8) : c ∈ bytes := List.mem_map.2 ⟨c.toNat, List.mem_range.2 (toNat_lt' c), ofNat_toNat' c⟩
theorem bytes_rising : bytes.Pairwise fun a b => a.toNat < b.toNat := by
  unfold bytes
  rw [List.pairwise_map]
  refine (List.pairwise_lt_range (n := 256)).imp_of_mem ?_
  intro a b ha hb h
  rw [toNat_ofNat (List.mem_range.1 ha), toNat_ofNat (List.mem_range.1 hb)]
  exact h
theorem bytes_nodup : bytes.Nodup := bytes_rising.imp fun h e => by rw [e] at h; omega

attribute [irreducible] bytes
/-- how many words -/
def cnt : TT → Nat
  | .nil => 0
  | .node v k => (if v.isSome then 1 else 0) + (bytes.map fun c => cnt (k c)).sum
theorem cnt_node (v : Option Int) (k : UInt8 → TT) : cnt (.node v k) = (if v.isSome then 1 else 0) + (bytes.map fun c => cnt (k c)).sum := by rw [cnt]
@[simp] theorem cnt_nil : cnt .nil = 0 := by rw [cnt]

theorem sum_le {l : List UInt8} {f : UInt8 → Nat} {c : UInt8} (h : c ∈ l) : f c ≤ (l.map f).sum := by
  induction l with
  | nil => cases h
  | cons x l ih =>
    simp only [List.map_cons, List.sum_cons]
    rcases List.mem_cons.1 h with e | e
    · subst e; omega
    · have := ih e; omega
theorem sum_zero {l : List UInt8} {f : UInt8 → Nat} (h : ∀ c ∈ l, f c = 0) : (l.map f).sum = 0 := by
  induction l with
  | nil => rfl
  | cons x l ih => simp only [List.map_cons, List.sum_cons, h x (List.mem_cons_self ..), ih fun c hc => h c (List.mem_cons_of_mem _ hc)]
theorem kid_le (v : Option Int) (k : UInt8 → TT) (c : UInt8) : cnt (k c) ≤ cnt (.node v k) := by
  rw [cnt_node]
  have := sum_le (f := fun c => cnt (k c)) (mem_bytes c)
  omega
theorem cnt_zero {v : Option Int} {k : UInt8 → TT} : cnt (.node v k) = 0 ↔ v = none ∧ ∀ c, cnt (k c) = 0 := by
  constructor
  · intro h
    refine ⟨?_, fun c => by have := kid_le v k c; omega⟩
    rw [cnt_node] at h
    cases v with
    | none => rfl
    | some x => simp at h
  · rintro ⟨rfl, h⟩
    rw [cnt_node, sum_zero fun c _ => h c]
    rfl

/-- the tree under a word -/
def under : TT → Wd → TT
  | t, [] => t
  | t, c :: s => under (t.kid c) s
def get (t : TT) (s : Wd) : Option Int := (under t s).val
@[simp] theorem get_empty (t : TT) : get t [] = t.val := rfl
@[simp] theorem get_cons (t : TT) (c : UInt8) (s : Wd) : get t (c :: s) = get (t.kid c) s := rfl
@[simp] theorem under_nil (s : Wd) : under .nil s = .nil := by induction s with | nil => rfl | cons c s ih => exact ih
theorem get_nil (s : Wd) : get .nil s = none := by unfold get; rw [under_nil]; rfl
theorem under_app (t : TT) (a b : Wd) : under t (a ++ b) = under (under t a) b := by
  induction a generalizing t with
  | nil => rfl
  | cons c a ih => exact ih (t.kid c)
theorem get_pos {t : TT} : ∀ {s : Wd} {x : Int}, get t s = some x → 0 < cnt t := by
  induction t with
  | nil => intro s x h; rw [get_nil] at h; cases h
  | node v k ih =>
    intro s x h
    cases s with
    | nil =>
      obtain rfl : v = some x := h
      rw [cnt_node]; simp; omega
    | cons c s =>
      have h1 := ih c (s := s) h
      have := kid_le v k c
      omega
theorem pos_get {t : TT} : 0 < cnt t → ∃ s x, get t s = some x := by
  induction t with
  | nil => intro h; simp at h
  | node v k ih =>
    intro h
    cases v with
    | some x => exact ⟨[], x, rfl⟩
    | none =>
      by_cases hc : ∃ c, 0 < cnt (k c)
      · obtain ⟨c, hc⟩ := hc
        obtain ⟨s, x, hs⟩ := ih c hc
        exact ⟨c :: s, x, hs⟩
      · exfalso
        have : cnt (.node none k) = 0 := cnt_zero.2 ⟨rfl, fun c => Nat.eq_zero_of_not_pos fun h => hc ⟨c, h⟩⟩
        omega

/-- a node, or none, if it has nothing -/
def mk (v : Option Int) (k : UInt8 → TT) : TT := if cnt (.node v k) = 0 then .nil else .node v k
def upd (k : UInt8 → TT) (c : UInt8) (t : TT) (d : UInt8) : TT := if d = c then t else k d
def put : TT → Wd → Int → TT
  | t, [], x => mk (some x) t.kid
  | t, c :: s, x => mk t.val (upd t.kid c (put (t.kid c) s x))
def drop : TT → Wd → TT
  | .nil, _ => .nil
  | .node _ k, [] => mk none k
  | .node v k, c :: s => match k c with
    | .nil => .node v k
    | .node v' k' => mk v (upd k c (drop (.node v' k') s))

theorem get_mk (v : Option Int) (k : UInt8 → TT) (s : Wd) : get (mk v k) s = get (.node v k) s := by
  unfold mk
  split
  · rename_i h
    rw [get_nil]
    cases hg : get (.node v k) s with
    | none => rfl
    | some x => have := get_pos hg; omega
  · rfl
theorem cnt_mk (v : Option Int) (k : UInt8 → TT) : cnt (mk v k) = cnt (.node v k) := by
  unfold mk
  split
  · rename_i h; rw [h, cnt_nil]
  · rfl
theorem mk_ne {v : Option Int} {k : UInt8 → TT} (h : cnt (.node v k) ≠ 0) : mk v k = .node v k := if_neg h
theorem get_put (t : TT) (s u : Wd) (x : Int) : get (put t s x) u = if u = s then some x else get t u := by
  induction s generalizing t u with
  | nil =>
    unfold put
    rw [get_mk]
    cases u with
    | nil => rfl
    | cons c u => rfl
  | cons c s ih =>
    unfold put
    rw [get_mk]
    cases u with
    | nil => rfl
    | cons d u =>
      simp only [get_cons, kid_node, List.cons.injEq]
      unfold upd
      by_cases hd : d = c
      · subst hd
        simp only [if_true, true_and]
        exact ih _ _
      · simp [hd]
theorem get_drop (t : TT) (s u : Wd) : get (drop t s) u = if u = s then none else get t u := by
  induction s generalizing t u with
  | nil =>
    cases t with
    | nil => simp [drop, get_nil]
    | node v k =>
      unfold drop
      rw [get_mk]
      cases u with
      | nil => rfl
      | cons c u => rfl
  | cons c s ih =>
    cases t with
    | nil => simp [drop, get_nil]
    | node v k =>
      unfold drop
      cases hk : k c with
      | nil =>
        simp only
        cases u with
        | nil => rfl
        | cons d u =>
          simp only [List.cons.injEq]
          split
          · rename_i h
            obtain ⟨rfl, rfl⟩ := h
            rw [get_cons, kid_node, hk, get_nil]
          · rfl
      | node v' k' =>
        simp only
        rw [get_mk]
        cases u with
        | nil => rfl
        | cons d u =>
          simp only [get_cons, kid_node, List.cons.injEq]
          unfold upd
          by_cases hd : d = c
          · subst hd
            simp only [if_true, true_and, hk]
            exact ih _ _
          · simp [hd]

/-- no node without a word -/
def Ok : TT → Prop
  | .nil => True
  | .node v k => cnt (.node v k) ≠ 0 ∧ ∀ c, Ok (k c)
theorem Ok.kid {t : TT} (h : Ok t) (c : UInt8) : Ok (t.kid c) := by
  cases t with
  | nil => exact trivial
  | node v k => exact h.2 c
theorem ok_mk {v : Option Int} {k : UInt8 → TT} (h : ∀ c, Ok (k c)) : Ok (mk v k) := by
  unfold mk
  split
  · exact trivial
  · rename_i h0; exact ⟨h0, h⟩
theorem ok_upd {k : UInt8 → TT} {c : UInt8} {t : TT} (h : ∀ c, Ok (k c)) (ht : Ok t) : ∀ d, Ok (upd k c t d) := by
  intro d
  unfold upd
  split
  · exact ht
  · exact h d
theorem ok_put {t : TT} {s : Wd} {x : Int} (h : Ok t) : Ok (put t s x) := by
  induction s generalizing t with
  | nil => exact ok_mk fun c => h.kid c
  | cons c s ih => exact ok_mk (ok_upd (fun c => h.kid c) (ih (h.kid c)))
theorem ok_drop {t : TT} {s : Wd} (h : Ok t) : Ok (drop t s) := by
  induction s generalizing t with
  | nil =>
    cases t with
    | nil => exact trivial
    | node v k => exact ok_mk fun c => h.2 c
  | cons c s ih =>
    cases t with
    | nil => exact trivial
    | node v k =>
      unfold drop
      cases hk : k c with
      | nil => exact h
      | node v' k' => exact ok_mk (ok_upd (fun c => h.2 c) (ih (by have := h.2 c; rw [hk] at this; exact this)))
theorem ok_under {t : TT} {s : Wd} (h : Ok t) : Ok (under t s) := by
  induction s generalizing t with
  | nil => exact h
  | cons c s ih => exact ih (h.kid c)
/-- two tries that tell the same are one -/
theorem ext {t u : TT} (ht : Ok t) (hu : Ok u) (h : ∀ s, get t s = get u s) : t = u := by
  induction t generalizing u with
  | nil =>
    cases u with
    | nil => rfl
    | node v k =>
      exfalso
      obtain ⟨s, x, hs⟩ := pos_get (t := .node v k) (by have := hu.1; omega)
      have := h s
      rw [hs, get_nil] at this
      cases this
  | node v k ih =>
    cases u with
    | nil =>
      exfalso
      obtain ⟨s, x, hs⟩ := pos_get (t := .node v k) (by have := ht.1; omega)
      have := h s
      rw [hs, get_nil] at this
      cases this
    | node v' k' =>
      obtain rfl : v = v' := h []
      congr 1
      funext c
      exact ih c (ht.2 c) (hu.2 c) fun s => h (c :: s)

/-- one kid turned: what the sum turns by -/
theorem sum_upd {l : List UInt8} (hn : l.Nodup) {c : UInt8} (hc : c ∈ l) (f g : UInt8 → Nat) (h : ∀ d, d ≠ c → f d = g d) : (l.map f).sum + g c = (l.map g).sum + f c := by
  induction l with
  | nil => cases hc
  | cons x l ih =>
    have hn' := List.nodup_cons.1 hn
    simp only [List.map_cons, List.sum_cons]
    rcases List.mem_cons.1 hc with e | e
    · subst e
      have : l.map f = l.map g := List.map_congr_left fun d hd => h d fun e => hn'.1 (e ▸ hd)
      rw [this]; omega
    · have h1 := ih hn'.2 e
      rw [h x fun e' => hn'.1 (e' ▸ e)]
      omega
theorem cnt_upd (v : Option Int) (k : UInt8 → TT) (c : UInt8) (t : TT) : cnt (.node v (upd k c t)) + cnt (k c) = cnt (.node v k) + cnt t := by
  rw [cnt_node, cnt_node]
  have h := sum_upd bytes_nodup (mem_bytes c) (fun d => cnt (upd k c t d)) (fun d => cnt (k d)) (fun d hd => by simp [upd, hd])
  have e : cnt (upd k c t c) = cnt t := by simp [upd]
  simp only [e] at h
  omega
theorem val_le (t : TT) (x : Int) : cnt (.node (some x) t.kid) ≤ cnt t + 1 := by
  cases t with
  | nil =>
    rw [cnt_node, sum_zero fun c _ => by simp]
    simp
  | node v k =>
    rw [cnt_node, cnt_node]
    cases v <;> simp [TT.kid] <;> omega
theorem none_le (t : TT) : cnt (.node t.val t.kid) = cnt t := by
  cases t with
  | nil =>
    rw [cnt_node, sum_zero fun c _ => by simp]
    simp
  | node v k => rfl
theorem cnt_put (t : TT) (s : Wd) (x : Int) : cnt (put t s x) ≤ cnt t + 1 := by
  induction s generalizing t with
  | nil => unfold put; rw [cnt_mk]; exact val_le t x
  | cons c s ih =>
    unfold put
    rw [cnt_mk]
    have h1 := cnt_upd t.val t.kid c (put (t.kid c) s x)
    have h2 := ih (t.kid c)
    have h3 := none_le t
    omega
theorem cnt_drop (t : TT) (s : Wd) : cnt (drop t s) ≤ cnt t := by
  induction s generalizing t with
  | nil =>
    cases t with
    | nil => simp [drop]
    | node v k =>
      unfold drop
      rw [cnt_mk, cnt_node, cnt_node]
      simp
  | cons c s ih =>
    cases t with
    | nil => simp [drop]
    | node v k =>
      unfold drop
      cases hk : k c with
      | nil => exact Nat.le_refl _
      | node v' k' =>
        simp only
        rw [cnt_mk]
        have h1 := cnt_upd v k c (drop (.node v' k') s)
        have h2 := ih (.node v' k')
        rw [hk] at h1
        omega
theorem cnt_under (t : TT) (s : Wd) : cnt (under t s) ≤ cnt t := by
  induction s generalizing t with
  | nil => exact Nat.le_refl _
  | cons c s ih =>
    refine Nat.le_trans (ih (t.kid c)) ?_
    cases t with
    | nil => exact Nat.le_refl _
    | node v k => exact kid_le v k c

/-- the sum over those keys that a map has, in whatever order, is the sum over all bytes -/
theorem sum_keys {ks : List UInt8} (hn : ks.Nodup) (f : UInt8 → Nat) (h0 : ∀ c, c ∉ ks → f c = 0) : (ks.map f).sum = (bytes.map f).sum := by
  have hp : List.Perm ks (bytes.filter fun c => ks.contains c) := by
    rw [List.perm_ext_iff_of_nodup hn (bytes_nodup.filter _)]
    intro c
    simp [mem_bytes]
  rw [(hp.map f).sum_nat]
  generalize bytes = l
  induction l with
  | nil => rfl
  | cons x l ih =>
    rw [List.filter_cons]
    by_cases hx : x ∈ ks
    · rw [if_pos (by simpa using hx)]
      simp only [List.map_cons, List.sum_cons, ih]
    · rw [if_neg (by simpa using hx)]
      simp only [List.map_cons, List.sum_cons, ih, h0 x hx]
      omega
end Go.Proofs.Yteglhcpochcopaa.trie
