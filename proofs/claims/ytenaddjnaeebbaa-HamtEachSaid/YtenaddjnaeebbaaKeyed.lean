/- The reference's lists of pairs: with a key, without one, a key's value. -/
import Derived.Test.YtenaddjnaeebbaaGatherP
namespace Go.Proofs.Ytenaddjnaeebbaa
open Go.RowKit

/-- a slice of pairs is being made -/
structure Gath (w : World) (v : Value) (xs : List (Int × Int)) (wr : World) : Prop where
  own : OwnP wr w.heap.size v xs
  bel : Below w.heap.size w wr
theorem Gath.app {w wr w1 : World} {v v' : Value} {xs : List (Int × Int)} {p : Int × Int} {o : Obj} (h : Gath w v xs wr)
    (hown : w1.ownsRow w.heap.size 31 2 v' (xs.length + 1) (cellsP xs ++ [.int .i64 p.1, .int .i64 p.2])) (hg : (wr.alloc o).grownBy w1 v.ownBlock) : Gath w v' (xs ++ [p]) w1 := by
  refine ⟨?_, Below.grown (h.bel.alloc h.bel.size o) hg (by have := h.bel.size; simp; omega) (fun k hk => (h.own.block k hk).1)⟩
  unfold OwnP
  rw [cellsP_append, List.length_append]
  exact hown
theorem Gath.start (w : World) : Gath w (.slice none 0 0) [] w := ⟨World.ownsRow_nil _ _ _ _, Below.refl _ _⟩

/-- those of which t is true, of the first j -/
def kept (t : Int × Int → Bool) (l : List (Int × Int)) (j : Nat) : List (Int × Int) := (l.take j).filter t
theorem kept_yes {t : Int × Int → Bool} {l : List (Int × Int)} {j : Nat} {y : Int × Int} (hj : j < l.length) (hy : y = l.getD j (0, 0)) (h : t y = true) : kept t l (j + 1) = kept t l j ++ [y] := by
  unfold kept
  rw [List.take_succ_eq_append_getElem hj, List.filter_append]
  have e : l[j] = y := by rw [hy]; simp [List.getD_eq_getElem?_getD, hj]
  rw [e]
  simp [h]
theorem kept_no {t : Int × Int → Bool} {l : List (Int × Int)} {j : Nat} {y : Int × Int} (hj : j < l.length) (hy : y = l.getD j (0, 0)) (h : t y = false) : kept t l (j + 1) = kept t l j := by
  unfold kept
  rw [List.take_succ_eq_append_getElem hj, List.filter_append]
  have e : l[j] = y := by rw [hy]; simp [List.getD_eq_getElem?_getD, hj]
  rw [e]
  simp [h]
theorem kept_all {t : Int × Int → Bool} {l : List (Int × Int)} {j : Nat} (hj : l.length ≤ j) : kept t l j = l.filter t := by unfold kept; rw [List.take_of_length_le hj]
theorem kept_len (t : Int × Int → Bool) (l : List (Int × Int)) (j : Nat) : (kept t l j).length ≤ j := by
  unfold kept
  have h1 := List.length_filter_le t (l.take j)
  have h2 := List.length_take_le j l
  omega
def lessK (k : Int) (p : Int × Int) : Bool := decide (p.1 < k)
def moreK (k : Int) (p : Int × Int) : Bool := decide (k < p.1)
def otherK (k : Int) (p : Int × Int) : Bool := decide (p.1 ≠ k)
def keyed (l : List (Int × Int)) (k v : Int) : List (Int × Int) := l.filter (lessK k) ++ (k, v) :: l.filter (moreK k)
def unkeyed (l : List (Int × Int)) (k : Int) : List (Int × Int) := l.filter (otherK k)
theorem less_more (k : Int) (l : List (Int × Int)) (j : Nat) : (l.filter (lessK k)).length + (kept (moreK k) l j).length ≤ l.length := by
  unfold kept
  induction l generalizing j with
  | nil => simp
  | cons p t ih =>
    cases j with
    | zero => have := List.length_filter_le (lessK k) (p :: t); simpa using this
    | succ j =>
      have := ih j
      have e1 : lessK k p = decide (p.1 < k) := rfl
      have e2 : moreK k p = decide (k < p.1) := rfl
      simp only [List.take_succ_cons, List.filter_cons, e1, e2, decide_eq_true_eq, List.length_cons]
      by_cases h1 : p.1 < k
      · rw [if_pos h1, if_neg (by omega)]; simp only [List.length_cons]; omega
      · rw [if_neg h1]
        by_cases h2 : k < p.1
        · rw [if_pos h2]; simp only [List.length_cons]; omega
        · rw [if_neg h2]; omega

def RetL (w : World) (n : Nat) (xs : List (Int × Int)) (e : Ending) (w' : World) : Prop :=
  ∃ a c, e = .returned (.slice a n c) ∧ OwnP w' w.heap.size (.slice a n c) xs ∧ Below w.heap.size w w'
theorem RetL.mk {w w' : World} {xs : List (Int × Int)} {v : Value} {n : Nat} (h : Gath w v xs w') (hn : xs.length = n) : RetL w n xs (.returned v) w' := by
  obtain ⟨a, c, rfl, _⟩ := h.own.form
  exact ⟨a, c, by rw [hn], by rw [← hn]; exact h.own, h.bel⟩


set_option maxHeartbeats 4000000 in
theorem Keyed_any (a : Option Addr) (c n m : Nat) (l : List (Int × Int)) (k v : Int) (w : World) (hl : l.length = n) (hn : n ≤ 8796093022206) (hr : ReadsP w a l) (hm : (keyed l k v).length = m) :
    Calls Try.prog 20 #[.slice a n c, .int .i64 k, .int .i64 v] w (RetL w m (keyed l k v)) := by
  obtain ⟨i0, hi, hz0, hz1, hz2⟩ := info_parts infoP
  have HR := Lib.hid (And.intro hr hl)
  have HM := Lib.hid hm
  have Hi := Lib.hid (And.intro hi (And.intro hz0 (And.intro hz1 hz2)))
  clear hr hl hm hi hz0 hz1 hz2
  have HS0 : Hid (Gath w (.slice none 0 0) ([] ++ kept (lessK k) l 0) w) := Lib.hid (Gath.start w)
  go_enter Try.func20, Try.ntmps20
  go_wp2_with fail
  go_loopw [7, 8] (fun ov iv wr => ∃ (j : Nat) (ow : Value), ow = ov ∧ iv = .int .i64 j ∧ j ≤ n ∧ Hid (Gath w ow ([] ++ kept (lessK k) l j) wr)) (fun _ iv _ => n - (intOf iv).toNat)
  case atStart => exact ⟨0, _, rfl, rfl, Nat.zero_le _, HS0⟩
  case round =>
    obtain ⟨j, ow, rfl, rfl, hj, HG⟩ := hrel
    have hln : ([] ++ kept (lessK k) l j).length ≤ j := kept_len (lessK k) l j
    obtain ⟨ys, hys⟩ : ∃ ys, ys = ([] ++ kept (lessK k) l j) := ⟨_, rfl⟩
    rw [← hys] at HG hln
    have HYS := Lib.hid hys
    clear hys
    have j0 : (0 : Int) ≤ (j : Int) := by omega
    by_cases hlt : j < n
    · obtain ⟨b, o, rfl, q1, q2⟩ := (HR.out.1.up HG.out.bel).at (k := j) (by rw [HR.out.2]; exact hlt)
      have j1 : (j : Int) < (n : Int) := by omega
      obtain ⟨y, hy⟩ : ∃ y, y = l.getD j (0, 0) := ⟨_, rfl⟩
      have HY := Lib.hid hy
      obtain ⟨y1, y2⟩ := y
      rw [← hy] at q1 q2
      dsimp only at q1 q2
      clear hy
      by_cases ht : y1 < k
      · have hs := kept_yes (t := lessK k) (by rw [HR.out.2]; exact hlt) HY.out (decide_eq_true ht)
        have HS := Lib.hid hs
        have q1' := upc (belowAlloc wr (.cells #[.int .i64 y1, .int .i64 y2] 31)) q1
        have hown : wr.ownsRow w.heap.size 31 2 ow ys.length (cellsP ys) := HG.out.own
        have Ho := Lib.hid hown
        have Hb := Lib.hid HG.out.bel
        clear hs hown
        go_wp2_with (at_builtin; obtain ⟨hi, hz0, hz1, hz2⟩ := Hi.out; refine wpList_append_own _ rfl (.tmp 23) (.tmp 28) 28 rfl w.heap.size 31 i0 (.agg #[.int .i64 0, .int .i64 0]) 2 16 Try.underlying28 hi hz0 hz1 hz2 rfl (by decide) ow _ _ rfl (Ho.out.alloc _) ⟨wr.heap.size, 0, none⟩ 1 1 [.int .i64 y1, .int .i64 y2] rfl rfl ?c1 ?c2 ?c3 ?c4 ?c5 ?_)
        case c1 => exact World.news_of_block (cs := #[.int .i64 y1, .int .i64 y2]) (t := 31) (fr := (0, 0)) (heap_alloc_new _ _)
        case c2 => simp [Value.oneCell']
        case c3 => unfold maxLen; omega
        case c4 => omega
        case c5 => have := Hb.out.size; simp; omega
        intro v' w1 hown1 hgrow _
        have HG1 := Lib.hid (HG.out.app (p := (y1, y2)) hown1 hgrow)
        clear hown1 hgrow q1'
        go_wp2_with fail
        go_roundw
        case rel => exact ⟨j + 1, _, rfl, by go_num, hlt, by rw [HS.out, ← List.append_assoc, ← HYS.out]; exact HG1⟩
        case measure => simp [intOf]; omega
      · have hs := kept_no (t := lessK k) (by rw [HR.out.2]; exact hlt) HY.out (decide_eq_false ht)
        have HS := Lib.hid hs
        clear hs
        go_wp2_with fail
        go_roundw
        case rel => exact ⟨j + 1, _, rfl, by go_num, hlt, by rw [HS.out, ← HYS.out]; exact HG⟩
        case measure => simp [intOf]; omega
    · obtain rfl : n = j := by omega
      have HF : Hid (Gath w ow (l.filter (lessK k)) wr) := by
        have h := HG.out
        rw [HYS.out, kept_all (by rw [HR.out.2]; exact Nat.le_refl _)] at h
        exact Lib.hid h
      clear HG
      have hln : (l.filter (lessK k)).length ≤ n := by have h := List.length_filter_le (lessK k) l; rw [HR.out.2] at h; exact h
      have hown : wr.ownsRow w.heap.size 31 2 ow (l.filter (lessK k)).length (cellsP (l.filter (lessK k))) := HF.out.own
      have Ho := Lib.hid hown
      have Hb := Lib.hid HF.out.bel
      clear hown
      go_wp2_with (at_builtin; obtain ⟨hi, hz0, hz1, hz2⟩ := Hi.out; refine wpList_append_own _ rfl (.tmp 30) (.tmp 34) 28 rfl w.heap.size 31 i0 (.agg #[.int .i64 0, .int .i64 0]) 2 16 Try.underlying28 hi hz0 hz1 hz2 rfl (by decide) ow _ _ rfl (Ho.out.alloc _) ⟨wr.heap.size, 0, none⟩ 1 1 [.int .i64 k, .int .i64 v] rfl rfl ?c1 ?c2 ?c3 ?c4 ?c5 ?_)
      case c1 => exact World.news_of_block (cs := #[.int .i64 k, .int .i64 v]) (t := 31) (fr := (0, 0)) (heap_alloc_new _ _)
      case c2 => simp [Value.oneCell']
      case c3 => unfold maxLen; omega
      case c4 => omega
      case c5 => have := Hb.out.size; simp; omega
      intro v1 w1 hown1 hgrow _
      have HG1 := Lib.hid (HF.out.app (p := (k, v)) hown1 hgrow)
      clear hown1 hgrow HF Ho Hb
      have HS0 : Hid (Gath w v1 ((l.filter (lessK k) ++ [(k, v)]) ++ kept (moreK k) l 0) w1) := by rw [show kept (moreK k) l 0 = [] from rfl, List.append_nil]; exact HG1
      clear HG1
      go_wp2_with fail
      go_loopw [7, 9] (fun ov iv wr => ∃ (j : Nat) (ow : Value), ow = ov ∧ iv = .int .i64 j ∧ j ≤ n ∧ Hid (Gath w ow ((l.filter (lessK k) ++ [(k, v)]) ++ kept (moreK k) l j) wr)) (fun _ iv _ => n - (intOf iv).toNat)
      case atStart => exact ⟨0, _, rfl, rfl, Nat.zero_le _, HS0⟩
      case round =>
        obtain ⟨j, ow, rfl, rfl, hj, HG⟩ := hrel
        have hln : ((l.filter (lessK k) ++ [(k, v)]) ++ kept (moreK k) l j).length ≤ n + 1 := by have h := less_more k l j; rw [HR.out.2] at h; simp only [List.length_append, List.length_cons, List.length_nil]; omega
        obtain ⟨ys, hys⟩ : ∃ ys, ys = ((l.filter (lessK k) ++ [(k, v)]) ++ kept (moreK k) l j) := ⟨_, rfl⟩
        rw [← hys] at HG hln
        have HYS := Lib.hid hys
        clear hys
        have j0 : (0 : Int) ≤ (j : Int) := by omega
        by_cases hlt : j < n
        · obtain ⟨b, o, rfl, q1, q2⟩ := (HR.out.1.up HG.out.bel).at (k := j) (by rw [HR.out.2]; exact hlt)
          have j1 : (j : Int) < (n : Int) := by omega
          obtain ⟨y, hy⟩ : ∃ y, y = l.getD j (0, 0) := ⟨_, rfl⟩
          have HY := Lib.hid hy
          obtain ⟨y1, y2⟩ := y
          rw [← hy] at q1 q2
          dsimp only at q1 q2
          clear hy
          by_cases ht : k < y1
          · have hs := kept_yes (t := moreK k) (by rw [HR.out.2]; exact hlt) HY.out (decide_eq_true ht)
            have HS := Lib.hid hs
            have q1' := upc (belowAlloc wr (.cells #[.int .i64 y1, .int .i64 y2] 31)) q1
            have hown : wr.ownsRow w.heap.size 31 2 ow ys.length (cellsP ys) := HG.out.own
            have Ho := Lib.hid hown
            have Hb := Lib.hid HG.out.bel
            clear hs hown
            go_wp2_with (at_builtin; obtain ⟨hi, hz0, hz1, hz2⟩ := Hi.out; refine wpList_append_own _ rfl (.tmp 49) (.tmp 54) 28 rfl w.heap.size 31 i0 (.agg #[.int .i64 0, .int .i64 0]) 2 16 Try.underlying28 hi hz0 hz1 hz2 rfl (by decide) ow _ _ rfl (Ho.out.alloc _) ⟨wr.heap.size, 0, none⟩ 1 1 [.int .i64 y1, .int .i64 y2] rfl rfl ?c1 ?c2 ?c3 ?c4 ?c5 ?_)
            case c1 => exact World.news_of_block (cs := #[.int .i64 y1, .int .i64 y2]) (t := 31) (fr := (0, 0)) (heap_alloc_new _ _)
            case c2 => simp [Value.oneCell']
            case c3 => unfold maxLen; omega
            case c4 => omega
            case c5 => have := Hb.out.size; simp; omega
            intro v' w1 hown1 hgrow _
            have HG1 := Lib.hid (HG.out.app (p := (y1, y2)) hown1 hgrow)
            clear hown1 hgrow q1'
            go_wp2_with fail
            go_roundw
            case rel => exact ⟨j + 1, _, rfl, by go_num, hlt, by rw [HS.out, ← List.append_assoc, ← HYS.out]; exact HG1⟩
            case measure => simp [intOf]; omega
          · have hs := kept_no (t := moreK k) (by rw [HR.out.2]; exact hlt) HY.out (decide_eq_false ht)
            have HS := Lib.hid hs
            clear hs
            go_wp2_with fail
            go_roundw
            case rel => exact ⟨j + 1, _, rfl, by go_num, hlt, by rw [HS.out, ← HYS.out]; exact HG⟩
            case measure => simp [intOf]; omega
        · obtain rfl : n = j := by omega
          have HF : Hid (Gath w ow (keyed l k v) wr) := by
            have h := HG.out
            rw [HYS.out, kept_all (by rw [HR.out.2]; exact Nat.le_refl _)] at h
            have e : keyed l k v = l.filter (lessK k) ++ [(k, v)] ++ l.filter (moreK k) := by simp [keyed]
            rw [e]
            exact Lib.hid h
          clear HG
          go_wp2_with fail
          go_ret
          exact RetL.mk HF.out HM.out

set_option maxHeartbeats 4000000 in
theorem Unkeyed_any (a : Option Addr) (c n m : Nat) (l : List (Int × Int)) (k : Int) (w : World) (hl : l.length = n) (hn : n ≤ 8796093022207) (hr : ReadsP w a l) (hm : (unkeyed l k).length = m) :
    Calls Try.prog 22 #[.slice a n c, .int .i64 k] w (RetL w m (unkeyed l k)) := by
  obtain ⟨i0, hi, hz0, hz1, hz2⟩ := info_parts infoP
  have HR := Lib.hid (And.intro hr hl)
  have HM := Lib.hid hm
  have Hi := Lib.hid (And.intro hi (And.intro hz0 (And.intro hz1 hz2)))
  clear hr hl hm hi hz0 hz1 hz2
  have HS0 : Hid (Gath w (.slice none 0 0) ([] ++ kept (otherK k) l 0) w) := Lib.hid (Gath.start w)
  go_enter Try.func22, Try.ntmps22
  go_wp2_with fail
  go_loopw [5, 6] (fun ov iv wr => ∃ (j : Nat) (ow : Value), ow = ov ∧ iv = .int .i64 j ∧ j ≤ n ∧ Hid (Gath w ow ([] ++ kept (otherK k) l j) wr)) (fun _ iv _ => n - (intOf iv).toNat)
  case atStart => exact ⟨0, _, rfl, rfl, Nat.zero_le _, HS0⟩
  case round =>
    obtain ⟨j, ow, rfl, rfl, hj, HG⟩ := hrel
    have hln : ([] ++ kept (otherK k) l j).length ≤ j := kept_len (otherK k) l j
    obtain ⟨ys, hys⟩ : ∃ ys, ys = ([] ++ kept (otherK k) l j) := ⟨_, rfl⟩
    rw [← hys] at HG hln
    have HYS := Lib.hid hys
    clear hys
    have j0 : (0 : Int) ≤ (j : Int) := by omega
    by_cases hlt : j < n
    · obtain ⟨b, o, rfl, q1, q2⟩ := (HR.out.1.up HG.out.bel).at (k := j) (by rw [HR.out.2]; exact hlt)
      have j1 : (j : Int) < (n : Int) := by omega
      obtain ⟨y, hy⟩ : ∃ y, y = l.getD j (0, 0) := ⟨_, rfl⟩
      have HY := Lib.hid hy
      obtain ⟨y1, y2⟩ := y
      rw [← hy] at q1 q2
      dsimp only at q1 q2
      clear hy
      by_cases ht : y1 ≠ k
      · have hs := kept_yes (t := otherK k) (by rw [HR.out.2]; exact hlt) HY.out (decide_eq_true ht)
        have hu : (y1 != k) = true := by simpa using ht
        have Ht := Lib.hid ht
        clear ht
        have HS := Lib.hid hs
        have q1' := upc (belowAlloc wr (.cells #[.int .i64 y1, .int .i64 y2] 31)) q1
        have hown : wr.ownsRow w.heap.size 31 2 ow ys.length (cellsP ys) := HG.out.own
        have Ho := Lib.hid hown
        have Hb := Lib.hid HG.out.bel
        clear hs hown
        go_wp2_with (at_builtin; obtain ⟨hi, hz0, hz1, hz2⟩ := Hi.out; refine wpList_append_own _ rfl (.tmp 20) (.tmp 25) 28 rfl w.heap.size 31 i0 (.agg #[.int .i64 0, .int .i64 0]) 2 16 Try.underlying28 hi hz0 hz1 hz2 rfl (by decide) ow _ _ rfl (Ho.out.alloc _) ⟨wr.heap.size, 0, none⟩ 1 1 [.int .i64 y1, .int .i64 y2] rfl rfl ?c1 ?c2 ?c3 ?c4 ?c5 ?_)
        case c1 => exact World.news_of_block (cs := #[.int .i64 y1, .int .i64 y2]) (t := 31) (fr := (0, 0)) (heap_alloc_new _ _)
        case c2 => simp [Value.oneCell']
        case c3 => unfold maxLen; omega
        case c4 => omega
        case c5 => have := Hb.out.size; simp; omega
        intro v' w1 hown1 hgrow _
        have HG1 := Lib.hid (HG.out.app (p := (y1, y2)) hown1 hgrow)
        clear hown1 hgrow q1'
        go_wp2_with fail
        go_roundw
        case rel => exact ⟨j + 1, _, rfl, by go_num, hlt, by rw [HS.out, ← List.append_assoc, ← HYS.out]; exact HG1⟩
        case measure => simp [intOf]; omega
      · have hs := kept_no (t := otherK k) (by rw [HR.out.2]; exact hlt) HY.out (decide_eq_false ht)
        have hu : (y1 != k) = false := by simpa using ht
        have Ht := Lib.hid ht
        clear ht
        have HS := Lib.hid hs
        clear hs
        go_wp2_with fail
        go_roundw
        case rel => exact ⟨j + 1, _, rfl, by go_num, hlt, by rw [HS.out, ← HYS.out]; exact HG⟩
        case measure => simp [intOf]; omega
    · obtain rfl : n = j := by omega
      have HF : Hid (Gath w ow (unkeyed l k) wr) := by
        have h := HG.out
        rw [HYS.out, kept_all (by rw [HR.out.2]; exact Nat.le_refl _)] at h
        exact Lib.hid h
      clear HG
      go_wp2_with fail
      go_ret
      exact RetL.mk HF.out HM.out

/-- a key's value -/
def valued : List (Int × Int) → Int → Option Int
  | [], _ => none
  | p :: t, k => if p.1 = k then some p.2 else valued t k
theorem valued_append {l t : List (Int × Int)} {k : Int} (h : valued l k = none) : valued (l ++ t) k = valued t k := by
  induction l with
  | nil => rfl
  | cons p l ih =>
    simp only [valued] at h
    by_cases e : p.1 = k
    · simp [e] at h
    · simp only [if_neg e] at h
      simp only [List.cons_append, valued, if_neg e]
      exact ih h
theorem valued_take {l : List (Int × Int)} {k : Int} {j : Nat} {y : Int × Int} (hj : j < l.length) (hy : y = l.getD j (0, 0)) (h : valued (l.take j) k = none) :
    (y.1 = k → valued l k = some y.2) ∧ (y.1 ≠ k → valued (l.take (j + 1)) k = none) := by
  have e : l[j] = y := by rw [hy]; simp [List.getD_eq_getElem?_getD, hj]
  constructor
  · intro hk
    have h2 := valued_append (t := l.drop j) h
    rw [List.take_append_drop, List.drop_eq_getElem_cons hj, e] at h2
    rw [h2]
    simp [valued, hk]
  · intro hk
    rw [List.take_succ_eq_append_getElem hj, valued_append h, e]
    simp [valued, hk]
def RetVal (w : World) (r : Option Int) (e : Ending) (w' : World) : Prop := e = .returned (.tuple #[.int .i64 (r.getD 0), .bool r.isSome]) ∧ w = w'
set_option maxHeartbeats 2000000 in
theorem Valued_any (a : Option Addr) (c n : Nat) (l : List (Int × Int)) (k : Int) (w : World) (hl : l.length = n) (hn : n ≤ 8796093022208) (hr : ReadsP w a l) (r : Option Int) (hv : valued l k = r) :
    Calls Try.prog 23 #[.slice a n c, .int .i64 k] w (RetVal w r) := by
  have HR := Lib.hid (And.intro hr (And.intro hl hv))
  clear hr hl hv
  go_enter Try.func23, Try.ntmps23
  go_wp2_with fail
  go_loopw [6] (fun iv wr => ∃ j : Nat, iv = .int .i64 j ∧ j ≤ n ∧ w = wr ∧ Hid (valued (l.take j) k = none)) (fun iv _ => n - (intOf iv).toNat)
  case atStart => exact ⟨0, rfl, Nat.zero_le _, rfl, Lib.hid rfl⟩
  case round =>
    obtain ⟨j, rfl, hj, rfl, HV⟩ := hrel
    have j0 : (0 : Int) ≤ (j : Int) := by omega
    by_cases hlt : j < n
    · obtain ⟨b, o, rfl, q1, q2⟩ := HR.out.1.at (k := j) (by rw [HR.out.2.1]; exact hlt)
      have j1 : (j : Int) < (n : Int) := by omega
      obtain ⟨y, hy⟩ : ∃ y, y = l.getD j (0, 0) := ⟨_, rfl⟩
      have HT := Lib.hid (valued_take (by rw [HR.out.2.1]; exact hlt) hy HV.out)
      obtain ⟨y1, y2⟩ := y
      rw [← hy] at q1 q2
      dsimp only at q1 q2
      clear hy
      by_cases ht : y1 = k
      · have hu : (y1 == k) = true := by simpa using ht
        have HF := Lib.hid (HT.out.1 ht)
        clear HT ht
        go_wp2_with fail
        go_ret2
        rw [← HR.out.2.2, HF.out]
        exact ⟨rfl, by first | rfl | trivial⟩
      · have hu : (y1 == k) = false := by simpa using ht
        have HF := Lib.hid (HT.out.2 ht)
        clear HT ht
        go_wp2_with fail
        go_roundw
        case rel => exact ⟨j + 1, by go_num, hlt, by first | rfl | trivial, HF⟩
        case measure => simp [intOf]; omega
    · obtain rfl : n = j := by omega
      have HF : Hid (r = none) := by
        have h := HV.out
        rw [List.take_of_length_le (by rw [HR.out.2.1]; exact Nat.le_refl _), HR.out.2.2] at h
        exact Lib.hid h
      clear HV
      go_wp2_with fail
      go_ret2
      rw [HF.out]
      exact ⟨rfl, by first | rfl | trivial⟩
end Go.Proofs.Ytenaddjnaeebbaa
