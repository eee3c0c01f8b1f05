/- The reference's lists of words: with a word, without one. (Printed by twr.py.) -/
import Derived.Test.YteglhcpochcopaaSameW
import Derived.Test.YteglhcpochcopaaTrieBe
import Derived.Test.YteglhcpochcopaaTrieWo
namespace Go.Proofs.Yteglhcpochcopaa.trie
open Go.RowKit

theorem bw_eql (a b : Wd) : ((bw a).toList == (bw b).toList) = (a == b) := by
  unfold bw
  rw [bytes_list, bytes_list]
/-- a slice of words is being made -/
structure Gath (w : World) (v : Value) (xs : List (Wd × Int)) (wr : World) : Prop where
  own : OwnW wr w.heap.size v xs
  bel : Below w.heap.size w wr
theorem Gath.up {w : World} {v : Value} {xs : List (Wd × Int)} {wr wq : World} (h : Gath w v xs wr) (hb : Below wr.heap.size wr wq) : Gath w v xs wq := ⟨OwnW.up h.own hb, h.bel.trans (hb.mono h.bel.size)⟩
theorem Gath.app {w wr w1 : World} {v v' : Value} {xs : List (Wd × Int)} {p : Wd × Int} {o : Obj} (h : Gath w v xs wr)
    (hown : w1.ownsRow w.heap.size 29 2 v' (xs.length + 1) (cellsW xs ++ [sv p.1, .int .i64 p.2])) (hg : (wr.alloc o).grownBy w1 v.ownBlock) : Gath w v' (xs ++ [p]) w1 := by
  refine ⟨?_, Below.grown (h.bel.alloc h.bel.size o) hg (by have := h.bel.size; simp; omega) (fun k hk => (OwnW.block h.own k hk).1)⟩
  unfold OwnW
  rw [cellsW_append, List.length_append]
  exact hown
theorem Gath.start (w : World) : Gath w (.slice none 0 0) [] w := ⟨World.ownsRow_nil _ _ _ _, Below.refl _ _⟩

/-- those of which t is true, of the first j -/
def kept (t : Wd × Int → Bool) (l : List (Wd × Int)) (j : Nat) : List (Wd × Int) := (l.take j).filter t
theorem kept_yes {t : Wd × Int → Bool} {l : List (Wd × Int)} {j : Nat} {y : Wd × Int} (hj : j < l.length) (hy : y = l.getD j ([], 0)) (h : t y = true) : kept t l (j + 1) = kept t l j ++ [y] := by
  unfold kept
  rw [List.take_succ_eq_append_getElem hj, List.filter_append]
  have e : l[j] = y := by rw [hy]; simp [List.getD_eq_getElem?_getD, hj]
  rw [e]
  simp [h]
theorem kept_no {t : Wd × Int → Bool} {l : List (Wd × Int)} {j : Nat} {y : Wd × Int} (hj : j < l.length) (hy : y = l.getD j ([], 0)) (h : t y = false) : kept t l (j + 1) = kept t l j := by
  unfold kept
  rw [List.take_succ_eq_append_getElem hj, List.filter_append]
  have e : l[j] = y := by rw [hy]; simp [List.getD_eq_getElem?_getD, hj]
  rw [e]
  simp [h]
theorem kept_all {t : Wd × Int → Bool} {l : List (Wd × Int)} {j : Nat} (hj : l.length ≤ j) : kept t l j = l.filter t := by unfold kept; rw [List.take_of_length_le hj]
theorem kept_len (t : Wd × Int → Bool) (l : List (Wd × Int)) (j : Nat) : (kept t l j).length ≤ j := by
  unfold kept
  have h1 := List.length_filter_le t (l.take j)
  have h2 := List.length_take_le j l
  omega
def lessK (k : Wd) (p : Wd × Int) : Bool := beforeB p.1 k
def moreK (k : Wd) (p : Wd × Int) : Bool := beforeB k p.1
def otherK (k : Wd) (p : Wd × Int) : Bool := !(p.1 == k)
def worded (l : List (Wd × Int)) (k : Wd) (v : Int) : List (Wd × Int) := l.filter (lessK k) ++ (k, v) :: l.filter (moreK k)
def unworded (l : List (Wd × Int)) (k : Wd) : List (Wd × Int) := l.filter (otherK k)
theorem less_more (k : Wd) (l : List (Wd × Int)) (j : Nat) : (l.filter (lessK k)).length + (kept (moreK k) l j).length ≤ 2 * l.length := by
  have h1 := List.length_filter_le (lessK k) l
  have h2 : (kept (moreK k) l j).length ≤ l.length := by
    unfold kept
    have h3 := List.length_filter_le (moreK k) (l.take j)
    have h4 := List.length_take_le' j l
    omega
  omega

def RetR (w : World) (n : Nat) (xs : List (Wd × Int)) (e : Ending) (w' : World) : Prop :=
  ∃ a c, e = .returned (.slice a n c) ∧ OwnW w' w.heap.size (.slice a n c) xs ∧ Below w.heap.size w w'
theorem RetR.mk {w w' : World} {xs : List (Wd × Int)} {v : Value} {n : Nat} (h : Gath w v xs w') (hn : xs.length = n) : RetR w n xs (.returned v) w' := by
  obtain ⟨a, c, rfl, _⟩ := OwnW.form h.own
  exact ⟨a, c, by rw [hn], by rw [← hn]; exact h.own, h.bel⟩

set_option maxHeartbeats 4000000 in
theorem Worded_any (a : Option Addr) (c n m : Nat) (l : List (Wd × Int)) (k : Wd) (v : Int) (w : World) (hl : l.length = n) (hn : n ≤ 1048576) (hr : ReadsW w a l) (hq : ∀ p ∈ l, p.1.length ≤ 140737488351232) (hkl : k.length ≤ 140737488351232) (hm : (worded l k v).length = m) :
    Calls Try.prog 18 #[.slice a n c, sv k, .int .i64 v] w (RetR w m (worded l k v)) := by
  obtain ⟨K, hK⟩ : ∃ K, K = bw k := ⟨_, rfl⟩
  rw [sv_bw, ← hK]
  have HK := Lib.hid hK
  have HKl := Lib.hid hkl
  obtain ⟨i0, hi, hz0, hz1, hz2⟩ := info_parts infoW
  have HR := Lib.hid (And.intro hr (And.intro hl hq))
  have HM := Lib.hid hm
  have Hi := Lib.hid (And.intro hi (And.intro hz0 (And.intro hz1 hz2)))
  clear hr hl hm hi hz0 hz1 hz2 hq hkl hK
  have HS0 : Hid (Gath w (.slice none 0 0) ([] ++ kept (lessK k) l 0) w) := Lib.hid (Gath.start w)
  go_enter Try.func18, Try.ntmps18
  go_wp2_with fail
  go_loopw [7, 8] (fun ov iv wr => ∃ (j : Nat) (ow : Value), ow = ov ∧ iv = .int .i64 j ∧ j ≤ n ∧ Hid (Gath w ow ([] ++ kept (lessK k) l j) wr)) (fun _ iv _ => n - (intOf iv).toNat)
  case atStart => exact ⟨0, _, rfl, rfl, Nat.zero_le _, HS0⟩
  case round =>
    obtain ⟨j, ow, rfl, rfl, hj, HG⟩ := hrel
    clear HS0
    have hln : ([] ++ kept (lessK k) l j).length ≤ j := kept_len (lessK k) l j
    obtain ⟨ys, hys⟩ : ∃ ys, ys = ([] ++ kept (lessK k) l j) := ⟨_, rfl⟩
    rw [← hys] at HG hln
    have HYS := Lib.hid hys
    clear hys
    have j0 : (0 : Int) ≤ (j : Int) := by omega
    by_cases hlt : j < n
    · obtain ⟨b, o, rfl, q1, q2⟩ := (HR.out.1.up HG.out.bel).at (k := j) (by rw [HR.out.2.1]; exact hlt)
      have j1 : (j : Int) < (n : Int) := by omega
      have hw1 : IntKind.i64.wrap ((j : Int) + 1) = (j : Int) + 1 := IntWalk.i64_in _ (by omega)
      obtain ⟨y, hy⟩ : ∃ y, y = l.getD j ([], 0) := ⟨_, rfl⟩
      have HY := Lib.hid hy
      have hyl : y.1.length ≤ 140737488351232 := by rw [hy, List.getD_eq_getElem?_getD, List.getElem?_eq_getElem (by rw [HR.out.2.1]; exact hlt)]; exact HR.out.2.2 _ (List.getElem_mem _)
      obtain ⟨y1, y2⟩ := y
      rw [← hy] at q1 q2
      dsimp only at q1 q2 hyl
      clear hy
      obtain ⟨Y, hY⟩ : ∃ Y, Y = bw y1 := ⟨_, rfl⟩
      rw [sv_bw, ← hY] at q1
      have HBe := Lib.hid (Before_any wr y1 k hyl)
      rw [sv_bw, sv_bw, ← hY, ← HK.out] at HBe
      have HYb := Lib.hid hY
      clear hY hyl
      cases ht : beforeB y1 k with
      | false =>
        have HS := Lib.hid (kept_no (t := lessK k) (by rw [HR.out.2.1]; exact hlt) HY.out ht)
        rw [ht] at HBe
        clear ht
        go_wp2_with fail
        refine HBe.out.mono ?_
        rintro e wx ⟨rfl, hbx⟩
        clear HBe
        have HGx := Lib.hid (HG.out.up hbx)
        replace q1 := upc hbx q1
        replace q2 := upc hbx q2
        clear HG hbx
        go_wp2_with fail
        go_roundw
        case rel => exact ⟨j + 1, _, rfl, by go_num, hlt, by rw [HS.out, ← HYS.out]; exact HGx⟩
        case measure => simp [intOf]; omega
      | true =>
        have HS := Lib.hid (kept_yes (t := lessK k) (by rw [HR.out.2.1]; exact hlt) HY.out ht)
        rw [ht] at HBe
        clear ht
        go_wp2_with fail
        refine HBe.out.mono ?_
        rintro e wx ⟨rfl, hbx⟩
        clear HBe
        have HGx := Lib.hid (HG.out.up hbx)
        replace q1 := upc hbx q1
        replace q2 := upc hbx q2
        clear HG hbx
        have q1' := upc (belowAlloc wx (.cells #[.string Y, .int .i64 y2] 29)) q1
        have Ho : Hid (wx.ownsRow w.heap.size 29 2 ow ys.length (cellsW ys)) := Lib.hid HGx.out.own
        have Hb := Lib.hid HGx.out.bel
        go_wp2_with (at_builtin; obtain ⟨hi, hz0, hz1, hz2⟩ := Hi.out; refine wpList_append_own _ rfl (.tmp 23) (.tmp 28) 37 rfl w.heap.size 29 i0 (.agg #[.string { data := #[] }, .int .i64 0]) 2 24 Try.underlying37 hi hz0 hz1 hz2 rfl (by decide) ow _ _ rfl (Ho.out.alloc _) ⟨wx.heap.size, 0, none⟩ 1 1 [.string Y, .int .i64 y2] rfl rfl ?c1 ?c2 ?c3 ?c4 ?c5 ?_)
        case c1 => exact World.news_of_block (cs := #[.string Y, .int .i64 y2]) (t := 29) (fr := (0, 0)) (heap_alloc_new _ _)
        case c2 => simp [Value.oneCell']
        case c3 => unfold maxLen; omega
        case c4 => omega
        case c5 => have := Hb.out.size; simp; omega
        intro v' w1 hown1 hgrow _
        have HG1 := Lib.hid (HGx.out.app (p := (y1, y2)) (by rw [HYb.out] at hown1; exact hown1) hgrow)
        clear hown1 hgrow q1'
        go_wp2_with fail
        go_roundw
        case rel => exact ⟨j + 1, _, rfl, by go_num, hlt, by rw [HS.out, ← List.append_assoc, ← HYS.out]; exact HG1⟩
        case measure => simp [intOf]; omega
    · obtain rfl : n = j := by omega
      have HF : Hid (Gath w ow (l.filter (lessK k)) wr) := by
        have h := HG.out
        rw [HYS.out, kept_all (by rw [HR.out.2.1]; exact Nat.le_refl _)] at h
        exact Lib.hid h
      clear HG
      have hln : (l.filter (lessK k)).length ≤ n := by have h := List.length_filter_le (lessK k) l; rw [HR.out.2.1] at h; exact h
      have Ho : Hid (wr.ownsRow w.heap.size 29 2 ow (l.filter (lessK k)).length (cellsW (l.filter (lessK k)))) := Lib.hid HF.out.own
      have Hb := Lib.hid HF.out.bel
      go_wp2_with (at_builtin; obtain ⟨hi, hz0, hz1, hz2⟩ := Hi.out; refine wpList_append_own _ rfl (.tmp 30) (.tmp 34) 37 rfl w.heap.size 29 i0 (.agg #[.string { data := #[] }, .int .i64 0]) 2 24 Try.underlying37 hi hz0 hz1 hz2 rfl (by decide) ow _ _ rfl (Ho.out.alloc _) ⟨wr.heap.size, 0, none⟩ 1 1 [.string K, .int .i64 v] rfl rfl ?c1 ?c2 ?c3 ?c4 ?c5 ?_)
      case c1 => exact World.news_of_block (cs := #[.string K, .int .i64 v]) (t := 29) (fr := (0, 0)) (heap_alloc_new _ _)
      case c2 => simp [Value.oneCell']
      case c3 => unfold maxLen; omega
      case c4 => omega
      case c5 => have := Hb.out.size; simp; omega
      intro v1 w1 hown1 hgrow _
      have HG1 := Lib.hid (HF.out.app (p := (k, v)) (by rw [HK.out] at hown1; exact hown1) hgrow)
      clear hown1 hgrow HF Ho Hb
      have HS0 : Hid (Gath w v1 ((l.filter (lessK k) ++ [(k, v)]) ++ kept (moreK k) l 0) w1) := by rw [show kept (moreK k) l 0 = [] from rfl, List.append_nil]; exact HG1
      clear HG1
      go_wp2_with fail
      go_loopw [7, 9] (fun ov iv wr => ∃ (j : Nat) (ow : Value), ow = ov ∧ iv = .int .i64 j ∧ j ≤ n ∧ Hid (Gath w ow ((l.filter (lessK k) ++ [(k, v)]) ++ kept (moreK k) l j) wr)) (fun _ iv _ => n - (intOf iv).toNat)
      case atStart => exact ⟨0, _, rfl, rfl, Nat.zero_le _, HS0⟩
      case round =>
        obtain ⟨j, ow, rfl, rfl, hj, HG⟩ := hrel
        clear HS0
        have hln : ((l.filter (lessK k) ++ [(k, v)]) ++ kept (moreK k) l j).length ≤ 2 * n + 1 := by have h := less_more k l j; rw [HR.out.2.1] at h; simp only [List.length_append, List.length_cons, List.length_nil]; omega
        obtain ⟨ys, hys⟩ : ∃ ys, ys = ((l.filter (lessK k) ++ [(k, v)]) ++ kept (moreK k) l j) := ⟨_, rfl⟩
        rw [← hys] at HG hln
        have HYS := Lib.hid hys
        clear hys
        have j0 : (0 : Int) ≤ (j : Int) := by omega
        by_cases hlt : j < n
        · obtain ⟨b, o, rfl, q1, q2⟩ := (HR.out.1.up HG.out.bel).at (k := j) (by rw [HR.out.2.1]; exact hlt)
          have j1 : (j : Int) < (n : Int) := by omega
          have hw1 : IntKind.i64.wrap ((j : Int) + 1) = (j : Int) + 1 := IntWalk.i64_in _ (by omega)
          obtain ⟨y, hy⟩ : ∃ y, y = l.getD j ([], 0) := ⟨_, rfl⟩
          have HY := Lib.hid hy
          have hyl : y.1.length ≤ 140737488351232 := by rw [hy, List.getD_eq_getElem?_getD, List.getElem?_eq_getElem (by rw [HR.out.2.1]; exact hlt)]; exact HR.out.2.2 _ (List.getElem_mem _)
          obtain ⟨y1, y2⟩ := y
          rw [← hy] at q1 q2
          dsimp only at q1 q2 hyl
          clear hy
          obtain ⟨Y, hY⟩ : ∃ Y, Y = bw y1 := ⟨_, rfl⟩
          rw [sv_bw, ← hY] at q1
          have HBe := Lib.hid (Before_any wr k y1 HKl.out)
          rw [sv_bw, sv_bw, ← hY, ← HK.out] at HBe
          have HYb := Lib.hid hY
          clear hY hyl
          cases ht : beforeB k y1 with
          | false =>
            have HS := Lib.hid (kept_no (t := moreK k) (by rw [HR.out.2.1]; exact hlt) HY.out ht)
            rw [ht] at HBe
            clear ht
            go_wp2_with fail
            refine HBe.out.mono ?_
            rintro e wx ⟨rfl, hbx⟩
            clear HBe
            have HGx := Lib.hid (HG.out.up hbx)
            replace q1 := upc hbx q1
            replace q2 := upc hbx q2
            clear HG hbx
            go_wp2_with fail
            go_roundw
            case rel => exact ⟨j + 1, _, rfl, by go_num, hlt, by rw [HS.out, ← HYS.out]; exact HGx⟩
            case measure => simp [intOf]; omega
          | true =>
            have HS := Lib.hid (kept_yes (t := moreK k) (by rw [HR.out.2.1]; exact hlt) HY.out ht)
            rw [ht] at HBe
            clear ht
            go_wp2_with fail
            refine HBe.out.mono ?_
            rintro e wx ⟨rfl, hbx⟩
            clear HBe
            have HGx := Lib.hid (HG.out.up hbx)
            replace q1 := upc hbx q1
            replace q2 := upc hbx q2
            clear HG hbx
            have q1' := upc (belowAlloc wx (.cells #[.string Y, .int .i64 y2] 29)) q1
            have Ho : Hid (wx.ownsRow w.heap.size 29 2 ow ys.length (cellsW ys)) := Lib.hid HGx.out.own
            have Hb := Lib.hid HGx.out.bel
            go_wp2_with (at_builtin; obtain ⟨hi, hz0, hz1, hz2⟩ := Hi.out; refine wpList_append_own _ rfl (.tmp 49) (.tmp 54) 37 rfl w.heap.size 29 i0 (.agg #[.string { data := #[] }, .int .i64 0]) 2 24 Try.underlying37 hi hz0 hz1 hz2 rfl (by decide) ow _ _ rfl (Ho.out.alloc _) ⟨wx.heap.size, 0, none⟩ 1 1 [.string Y, .int .i64 y2] rfl rfl ?c1 ?c2 ?c3 ?c4 ?c5 ?_)
            case c1 => exact World.news_of_block (cs := #[.string Y, .int .i64 y2]) (t := 29) (fr := (0, 0)) (heap_alloc_new _ _)
            case c2 => simp [Value.oneCell']
            case c3 => unfold maxLen; omega
            case c4 => omega
            case c5 => have := Hb.out.size; simp; omega
            intro v' w1 hown1 hgrow _
            have HG1 := Lib.hid (HGx.out.app (p := (y1, y2)) (by rw [HYb.out] at hown1; exact hown1) hgrow)
            clear hown1 hgrow q1'
            go_wp2_with fail
            go_roundw
            case rel => exact ⟨j + 1, _, rfl, by go_num, hlt, by rw [HS.out, ← List.append_assoc, ← HYS.out]; exact HG1⟩
            case measure => simp [intOf]; omega
        · obtain rfl : n = j := by omega
          have HF : Hid (Gath w ow (worded l k v) wr) := by
            have h := HG.out
            rw [HYS.out, kept_all (by rw [HR.out.2.1]; exact Nat.le_refl _)] at h
            have e : worded l k v = l.filter (lessK k) ++ [(k, v)] ++ l.filter (moreK k) := by simp [worded]
            rw [e]
            exact Lib.hid h
          clear HG
          go_wp2_with fail
          go_ret
          exact RetR.mk HF.out HM.out
set_option maxHeartbeats 4000000 in
theorem Unworded_any (a : Option Addr) (c n m : Nat) (l : List (Wd × Int)) (k : Wd) (w : World) (hl : l.length = n) (hn : n ≤ 1048576) (hr : ReadsW w a l) (hq : ∀ p ∈ l, p.1.length ≤ 140737488351232) (hm : (unworded l k).length = m) :
    Calls Try.prog 19 #[.slice a n c, sv k] w (RetR w m (unworded l k)) := by
  obtain ⟨K, hK⟩ : ∃ K, K = bw k := ⟨_, rfl⟩
  rw [sv_bw, ← hK]
  have HK := Lib.hid hK
  obtain ⟨i0, hi, hz0, hz1, hz2⟩ := info_parts infoW
  have HR := Lib.hid (And.intro hr (And.intro hl hq))
  have HM := Lib.hid hm
  have Hi := Lib.hid (And.intro hi (And.intro hz0 (And.intro hz1 hz2)))
  clear hr hl hm hi hz0 hz1 hz2 hq hK
  have HS0 : Hid (Gath w (.slice none 0 0) ([] ++ kept (otherK k) l 0) w) := Lib.hid (Gath.start w)
  go_enter Try.func19, Try.ntmps19
  go_wp2_with fail
  go_loopw [5, 6] (fun ov iv wr => ∃ (j : Nat) (ow : Value), ow = ov ∧ iv = .int .i64 j ∧ j ≤ n ∧ Hid (Gath w ow ([] ++ kept (otherK k) l j) wr)) (fun _ iv _ => n - (intOf iv).toNat)
  case atStart => exact ⟨0, _, rfl, rfl, Nat.zero_le _, HS0⟩
  case round =>
    obtain ⟨j, ow, rfl, rfl, hj, HG⟩ := hrel
    clear HS0
    have hln : ([] ++ kept (otherK k) l j).length ≤ j := kept_len (otherK k) l j
    obtain ⟨ys, hys⟩ : ∃ ys, ys = ([] ++ kept (otherK k) l j) := ⟨_, rfl⟩
    rw [← hys] at HG hln
    have HYS := Lib.hid hys
    clear hys
    have j0 : (0 : Int) ≤ (j : Int) := by omega
    by_cases hlt : j < n
    · obtain ⟨b, o, rfl, q1, q2⟩ := (HR.out.1.up HG.out.bel).at (k := j) (by rw [HR.out.2.1]; exact hlt)
      have j1 : (j : Int) < (n : Int) := by omega
      have hw1 : IntKind.i64.wrap ((j : Int) + 1) = (j : Int) + 1 := IntWalk.i64_in _ (by omega)
      obtain ⟨y, hy⟩ : ∃ y, y = l.getD j ([], 0) := ⟨_, rfl⟩
      have HY := Lib.hid hy
      have hyl : y.1.length ≤ 140737488351232 := by rw [hy, List.getD_eq_getElem?_getD, List.getElem?_eq_getElem (by rw [HR.out.2.1]; exact hlt)]; exact HR.out.2.2 _ (List.getElem_mem _)
      obtain ⟨y1, y2⟩ := y
      rw [← hy] at q1 q2
      dsimp only at q1 q2 hyl
      clear hy
      obtain ⟨Y, hY⟩ : ∃ Y, Y = bw y1 := ⟨_, rfl⟩
      rw [sv_bw, ← hY] at q1
      have hu : (Y.toList == K.toList) = (y1 == k) := by rw [hY, HK.out]; exact bw_eql _ _
      have HYb := Lib.hid hY
      clear hY hyl
      cases ht : (!(y1 == k)) with
      | false =>
        have HS := Lib.hid (kept_no (t := otherK k) (by rw [HR.out.2.1]; exact hlt) HY.out ht)
        have hu2 : (Y.toList == K.toList) = true := by rw [hu]; simpa using ht
        clear hu ht
        go_wp2_with fail
        go_roundw
        case rel => exact ⟨j + 1, _, rfl, by go_num, hlt, by rw [HS.out, ← HYS.out]; exact HG⟩
        case measure => simp [intOf]; omega
      | true =>
        have HS := Lib.hid (kept_yes (t := otherK k) (by rw [HR.out.2.1]; exact hlt) HY.out ht)
        have hu2 : (Y.toList == K.toList) = false := by rw [hu]; simpa using ht
        clear hu ht
        have q1' := upc (belowAlloc wr (.cells #[.string Y, .int .i64 y2] 29)) q1
        have Ho : Hid (wr.ownsRow w.heap.size 29 2 ow ys.length (cellsW ys)) := Lib.hid HG.out.own
        have Hb := Lib.hid HG.out.bel
        go_wp2_with (at_builtin; obtain ⟨hi, hz0, hz1, hz2⟩ := Hi.out; refine wpList_append_own _ rfl (.tmp 20) (.tmp 25) 37 rfl w.heap.size 29 i0 (.agg #[.string { data := #[] }, .int .i64 0]) 2 24 Try.underlying37 hi hz0 hz1 hz2 rfl (by decide) ow _ _ rfl (Ho.out.alloc _) ⟨wr.heap.size, 0, none⟩ 1 1 [.string Y, .int .i64 y2] rfl rfl ?c1 ?c2 ?c3 ?c4 ?c5 ?_)
        case c1 => exact World.news_of_block (cs := #[.string Y, .int .i64 y2]) (t := 29) (fr := (0, 0)) (heap_alloc_new _ _)
        case c2 => simp [Value.oneCell']
        case c3 => unfold maxLen; omega
        case c4 => omega
        case c5 => have := Hb.out.size; simp; omega
        intro v' w1 hown1 hgrow _
        have HG1 := Lib.hid (HG.out.app (p := (y1, y2)) (by rw [HYb.out] at hown1; exact hown1) hgrow)
        clear hown1 hgrow q1'
        go_wp2_with fail
        go_roundw
        case rel => exact ⟨j + 1, _, rfl, by go_num, hlt, by rw [HS.out, ← List.append_assoc, ← HYS.out]; exact HG1⟩
        case measure => simp [intOf]; omega
    · obtain rfl : n = j := by omega
      have HF : Hid (Gath w ow (unworded l k) wr) := by
        have h := HG.out
        rw [HYS.out, kept_all (by rw [HR.out.2.1]; exact Nat.le_refl _)] at h
        exact Lib.hid h
      clear HG
      go_wp2_with fail
      go_ret
      exact RetR.mk HF.out HM.out
end Go.Proofs.Yteglhcpochcopaa.trie
