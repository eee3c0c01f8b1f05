/- Lists that rise, of the same numbers, are the same. No program stands here. -/
import Derived.Test.YtnigadnjppeckaaBase
import Derived.Test.YtnigadnjppeckaaLeftZ
import Derived.Test.YtnigadnjppeckaaPairZ
import Derived.Test.YtnigadnjppeckaaBinoY
import Derived.Test.YtnigadnjppeckaaOrdM
import Derived.Test.YtnigadnjppeckaaInvZZ
import Derived.Test.YtnigadnjppeckaaSame
namespace Go.Proofs.Ytnigadnjppeckaa.tops

/-- a list that rises, of so many of each number -/
def Srt (l : Int → Nat) (xs : List Int) : Prop := xs.Pairwise (· ≤ ·) ∧ ∀ z, xs.count z = l z
theorem Srt.eq {l : Int → Nat} {xs ys : List Int} (h : Srt l xs) (h' : Srt l ys) : xs = ys :=
  List.Perm.eq_of_pairwise (le := (· ≤ ·)) (fun a b _ _ h1 h2 => Int.le_antisymm h1 h2) h.1 h'.1 (List.perm_iff_count.2 fun z => by rw [h.2, h'.2])
theorem Srt.length {xs l m : List Int} (h : Srt (fun z => l.count z + m.count z) xs) : xs.length = l.length + m.length := by
  have e : xs.Perm (l ++ m) := List.perm_iff_count.2 fun z => by rw [h.2, List.count_append]
  rw [e.length_eq, List.length_append]
theorem Srt.step {l : Int → Nat} {xs : List Int} (h : Srt l xs) {i : Nat} (h0 : 0 < i) (hi : i < xs.length) : xs.getD (i - 1) 0 ≤ xs.getD i 0 := by
  have h1 := List.pairwise_iff_getElem.1 h.1 (i - 1) i (by omega) hi (by omega)
  rw [List.getD_eq_getElem?_getD, List.getD_eq_getElem?_getD, List.getElem?_eq_getElem (by omega), List.getElem?_eq_getElem hi]
  exact h1
end Go.Proofs.Ytnigadnjppeckaa.tops
/- All heaps are one: what goes out of them, and of an order, rises, and is of the same numbers. -/
namespace Go.Proofs.Ytnigadnjppeckaa.tops
open Go.RowKit

/-- how often a number is in two lists -/
def both (l m : List Int) (z : Int) : Nat := l.count z + m.count z
theorem srt_left {l m : List Int} {t u : BT Int} (h : left.OfQ l t) (h' : left.OfQ m u) : Srt (both l m) (left.ints (left.mrg t u)) ∧ (left.mrg t u).size = l.length + m.length := by
  rw [left.OfQ] at h h'
  subst h
  subst h'
  have hi := left.ints_both _ (left.mrg (left.ofList l) (left.ofList m)) (Nat.le_refl _) (left.HO_mrg (left.HO_ofList l) (left.HO_ofList m))
  exact ⟨⟨hi.1, fun z => by rw [hi.2, left.num_mrg, show left.num z (left.ofList l) = l.count z from left.num_ofList z l, show left.num z (left.ofList m) = m.count z from left.num_ofList z m]; rfl⟩, by rw [left.size_mrg, left.size_ofList, left.size_ofList]⟩
theorem srt_pair {l m : List Int} {t u : BT Int} {n k : Int} (h : pair.OfQ l n t) (h' : pair.OfQ m k u) : Srt (both l m) (pair.ints (pair.meet t u)) ∧ n = l.length ∧ k = m.length ∧ pair.hsz (pair.meet t u) = l.length + m.length := by
  obtain ⟨rfl, rfl⟩ := h
  obtain ⟨rfl, rfl⟩ := h'
  have hi := pair.ints_both _ (pair.meet (pair.ofList l) (pair.ofList m)) (Nat.le_refl _) (pair.HO_meet (pair.HO_ofList l) (pair.HO_ofList m))
  exact ⟨⟨hi.1, fun z => by rw [hi.2, pair.cn_meet, pair.cn_ofList, pair.cn_ofList]; rfl⟩, rfl, rfl, by rw [pair.hsz_meet, pair.hsz_ofList, pair.hsz_ofList]⟩
theorem Fo.lower {B B' : Nat} {W : World} (hB : B ≤ B') : ∀ {t : bino.F} {ps : List (Option Addr)}, bino.Fo B' W ps t → bino.Fo B W ps t
  | .nil, _, h => h
  | .node _ _ _, _, ⟨b, rest, v, kps, h1, h2, h3, h4, h5, h6⟩ => ⟨b, rest, v, kps, h1, Nat.le_trans hB h2, h3, bino.RowR.lower hB h4, Fo.lower hB h5, Fo.lower hB h6⟩
theorem HeapR.lower {B B' : Nat} {W : World} {v : Value} {f : bino.F} (hB : B ≤ B') (h : bino.HeapR B' W v f) : bino.HeapR B W v f := by
  obtain ⟨ps, h1, h2⟩ := h
  exact ⟨ps, bino.RowR.lower hB h1, Fo.lower hB h2⟩
theorem srt_ord {l m : List Int} {t u v : BT Int} (h : ord.OfQ l t) (h' : ord.OfQ m u) (hv : ord.MQ t u v) : Srt (both l m) v.inorder ∧ v.size = l.length + m.length :=
  ⟨⟨hv.2.1, fun z => by rw [hv.2.2, h.2.2, h'.2.2]; rfl⟩, by rw [hv.1, h.1, h'.1]⟩
theorem srt53 {t : BT Int} (h : ord.OfQ [5, 3] t) : t.inorder = [3, 5] ∧ t.size = 2 :=
  ⟨Srt.eq (l := fun z => ([5, 3] : List Int).count z) ⟨h.2.1, h.2.2⟩ ⟨by decide, fun z => by
    simp only [List.count_cons, List.count_nil]
    omega⟩, h.1⟩
theorem own_cap {w : World} {B n c : Nat} {a : Option Addr} {xs : List Int} (h : OwnI 3 w B (.slice a n c) xs) : xs.length ≤ c := by
  rcases h.2 with ⟨e1, e2⟩ | ⟨g, cap, cur, e1, _, _, e3, _⟩
  · omega
  · injection e1 with _ _ e4
    omega

/-- a list that came in -/
def Lst (w : World) (a : Option Addr) (c n : Nat) (l : List Int) : Prop := l.length = n ∧ Reads w a l ∧ (a = none → c = 0) ∧ n ≤ 1048576
theorem Lst.up {w W : World} {a : Option Addr} {c n : Nat} {l : List Int} (h : Lst w a c n l) (hb : Below w.heap.size w W) : Lst W a c n l := ⟨h.1, h.2.1.up hb, h.2.2⟩

theorem left_of {w : World} {a : Option Addr} {c n : Nat} {l : List Int} (h : Lst w a c n l) :
    Calls Try.prog 33 #[.slice a n c] w (left.RetS w.heap.size w (left.OfQ l)) := by
  obtain ⟨rfl, h1, h2, h3⟩ := h
  exact left.Of_any w a c l (by omega) h1 h2
theorem pair_of {w : World} {a : Option Addr} {c n : Nat} {l : List Int} (h : Lst w a c n l) :
    Calls Try.prog 36 #[.slice a n c] w (pair.RetS w.heap.size w (pair.OfQ l)) := by
  obtain ⟨rfl, h1, h2, h3⟩ := h
  exact pair.Of_any w a c l (by omega) h1 h2
theorem bino_of {w : World} {a : Option Addr} {c n : Nat} {l : List Int} (h : Lst w a c n l) :
    Calls Try.prog 30 #[.slice a n c] w fun e w' => ∃ f, bino.OfQ l f ∧ bino.RetH w.heap.size w f e w' := by
  obtain ⟨h0, h1, h2, h3⟩ := h
  exact bino.Of_any w a c n l h0 (by omega) h1
theorem ord_of {w : World} {a : Option Addr} {c n : Nat} {l : List Int} (h : Lst w a c n l) :
    Calls Try.prog 17 #[.slice a n c] w (manyO.RetM w.heap.size w (ord.OfQ l)) := by
  obtain ⟨rfl, h1, h2, h3⟩ := h
  exact ord.Of_any w a c l (by omega) h1 h2
/-- what each tells of the two lists -/
def RetSrt (w : World) (l m : List Int) (n : Nat) (e : Ending) (w' : World) : Prop :=
  ∃ a c xs, e = .returned (.slice a n c) ∧ xs.length = n ∧ Srt (both l m) xs ∧ OwnI 3 w' w.heap.size (.slice a n c) xs ∧ Below w.heap.size w w'
theorem RetSrt.of {w : World} {l m xs : List Int} {n : Nat} {e : Ending} {w' : World} (h : RetI 3 w xs e w') (hs : Srt (both l m) xs) (hn : xs.length = n) : RetSrt w l m n e w' := by
  obtain ⟨a, c, rfl, h2, h3⟩ := h
  subst hn
  exact ⟨a, c, xs, rfl, rfl, hs, h2, h3⟩
theorem left_all {w : World} {p q : Option Addr} {t u : BT Int} {l m : List Int} {n : Nat} (hl : l.length + m.length = n) (hn : n ≤ 2097152) (h : left.OfQ l t) (h' : left.OfQ m u) (hp : left.In 0 w p t) (hq : left.In 0 w q u) :
    Calls Try.prog 34 #[.agg #[.pointer p], .agg #[.pointer q]] w fun e w1 => ∃ r, e = .returned (.agg #[.pointer r]) ∧ Below w.heap.size w w1 ∧ Calls Try.prog 35 #[.agg #[.pointer r]] w1 (RetSrt w1 l m n) := by
  obtain ⟨hs, hz⟩ := srt_left h h'
  have hz2 := left.size_mrg t u
  refine (left.Join_any 0 w p t q u (Nat.zero_le _) hp hq (by omega)).mono ?_
  rintro e w1 ⟨r, _, rfl, rfl, hr, hb⟩
  refine ⟨r, rfl, hb, (left.ints_any 0 w1 r _ hr (by omega)).mono ?_⟩
  intro e w2 h2
  exact .of h2 hs (by rw [left.ints_length]; omega)
theorem pair_all {w : World} {p q : Option Addr} {t u : BT Int} {i j : Int} {l m : List Int} {n : Nat} (hl : l.length + m.length = n) (hn : n ≤ 2097152) (h : pair.OfQ l i t) (h' : pair.OfQ m j u) (hp : pair.In 0 w p t) (hq : pair.In 0 w q u) :
    Calls Try.prog 37 #[.agg #[.pointer p, .int .i64 i], .agg #[.pointer q, .int .i64 j]] w fun e w1 => ∃ r k, e = .returned (.agg #[.pointer r, .int .i64 k]) ∧ Below w.heap.size w w1 ∧ Calls Try.prog 38 #[.agg #[.pointer r, .int .i64 k]] w1 (RetSrt w1 l m n) := by
  obtain ⟨hs, hi, hj, hz⟩ := srt_pair h h'
  refine (pair.Join_any 0 w p t i q u j (Nat.zero_le _) hp hq (by omega) (by omega) (by omega)).mono ?_
  rintro e w1 ⟨r, k, _, rfl, ⟨rfl, rfl⟩, hr, hb⟩
  refine ⟨r, _, rfl, hb, ?_⟩
  have hk : i + j = (pair.hsz (pair.meet t u) : Nat) := by omega
  rw [hk]
  refine (pair.ints_any 0 w1 r _ hr (by omega)).mono ?_
  intro e w2 h2
  exact .of h2 hs (by rw [pair.ints_length]; omega)
theorem bino_all {w : World} {a b : Option Addr} {x c y d : Nat} {f g : bino.F} {l m : List Int} {n : Nat} (hl : l.length + m.length = n) (hn : n ≤ 2097152) (h : bino.OfQ l f) (h' : bino.OfQ m g) (hp : bino.HeapR 0 w (.slice a x c) f) (hq : bino.HeapR 0 w (.slice b y d) g) :
    Calls Try.prog 31 #[.agg #[.slice a x c], .agg #[.slice b y d]] w fun e w1 => ∃ r z v, e = .returned (.agg #[.slice r z v]) ∧ Below w.heap.size w w1 ∧ Calls Try.prog 32 #[.agg #[.slice r z v]] w1 (RetSrt w1 l m n) := by
  have hf := h.1
  have hg := h'.1
  obtain ⟨fr, ⟨h1, h2⟩, h3⟩ := bino.Join_any f g (by omega)
  obtain ⟨xs, h4, ⟨h5, h6⟩, h7⟩ := bino.ints_any fr (by omega)
  refine (h3 0 w a x c b y d (Nat.zero_le _) hp hq).mono ?_
  rintro e w1 ⟨r, z, v, rfl, hr, hb⟩
  refine ⟨r, z, v, rfl, hb, (h7 0 w1 r z v (Nat.zero_le _) hr).mono ?_⟩
  intro e w2 h8
  exact .of h8 ⟨h6 (h2.2 h.2.1 h'.2.1), fun z => by rw [h5, h2.1, h.2.2, h'.2.2]; rfl⟩ (by omega)
theorem ord_all {w : World} {p q : Option Addr} {t u : BT Int} {l m : List Int} {n : Nat} (hl : l.length + m.length = n) (hn : n ≤ 2097152) (h : ord.OfQ l t) (h' : ord.OfQ m u) (hp : ord.In 0 w p t) (hq : ord.In 0 w q u) :
    Calls Try.prog 39 #[.agg #[.pointer p], .agg #[.pointer q]] w fun e w1 => ∃ r, e = .returned (.agg #[.pointer r]) ∧ Below w.heap.size w w1 ∧ Calls Try.prog 19 #[.agg #[.pointer r]] w1 (RetSrt w1 l m n) := by
  have h1 := h.1
  have h2 := h'.1
  refine (ord.Merge_any w p t q u hp hq (by omega) h.2.1 h'.2.1).mono ?_
  rintro e w1 ⟨r, v, rfl, hv, hr, hb⟩
  obtain ⟨hs, hz⟩ := srt_ord h h' hv
  refine ⟨r, rfl, hb, (ord.ints_any 0 w1 r v hr (by omega)).mono ?_⟩
  intro e w2 h2
  exact .of h2 hs (by rw [BT.length_inorder]; omega)
/-- ord.Of([]int{5, 3}).Ints() -/
theorem fact_any (w : World) (g : Nat) (h : w.heap[g]? = some (.cells #[.int .i64 5, .int .i64 3] 3 (0, 0))) :
    Calls Try.prog 17 #[.slice (some ⟨g, 0, none⟩) 2 2] w fun e w1 => ∃ r, e = .returned (.agg #[.pointer r]) ∧ Below w.heap.size w w1 ∧ Calls Try.prog 19 #[.agg #[.pointer r]] w1 (RetI 3 w1 [3, 5]) := by
  have hr : Reads w (some ⟨g, 0, none⟩) [5, 3] := .inr ⟨g, 0, rfl, fun i hi => by
    match i, hi with
    | 0, _ => simp [World.cell?, h]
    | 1, _ => simp [World.cell?, h]⟩
  refine (ord.Of_any w (some ⟨g, 0, none⟩) 2 [5, 3] (by decide) hr (fun h => by cases h)).mono ?_
  rintro e w1 ⟨r, t, rfl, ht, hin, hb⟩
  obtain ⟨e1, e2⟩ := srt53 ht
  refine ⟨r, rfl, hb, ?_⟩
  have h2 := ord.ints_any 0 w1 r t (Holds.lower (Nat.zero_le _) hin) (by omega)
  rw [e1] at h2
  exact h2
end Go.Proofs.Ytnigadnjppeckaa.tops
