/- The reference's lists of numbers: Often, Below, With, Once. -/
import Derived.Test.YtnebmncjohoekaaDoorRowI
import Derived.Test.YtnebmncjohoekaaDoorAppRow
import Derived.Test.YtnebmncjohoekaaDoorGrow2
import Derived.Laws.OwnMore
namespace Go.Proofs.YtnebmncjohoekaaDoor
open Go.RowKit

def manyI (t : Int → Bool) (l : List Int) : Nat := (l.filter t).length
theorem manyI_snoc (t : Int → Bool) (l : List Int) (j : Nat) (h : j < l.length) : manyI t (l.take (j + 1)) = manyI t (l.take j) + if t (l.getD j 0) = true then 1 else 0 := by
  unfold manyI
  rw [List.take_succ_eq_append_getElem h, List.filter_append, List.length_append]
  have e : l.getD j 0 = l[j] := by simp [List.getD_eq_getElem?_getD, h]
  rw [e]
  cases ht : t l[j] <;> simp [ht]
theorem manyI_le (t : Int → Bool) (l : List Int) (j : Nat) : manyI t (l.take j) ≤ j := by
  unfold manyI
  have h1 := List.length_filter_le t (l.take j)
  have h2 := List.length_take_le j l
  omega
theorem Reads.at {w : World} {a : Option Addr} {xs : List Int} (h : Reads w a xs) {k : Nat} (hk : k < xs.length) : ∃ b o, a = some ⟨b, o, none⟩ ∧ w.cell? ⟨b, o + k, none⟩ = some (.int .i64 (xs.getD k 0)) := by
  rcases h with h | ⟨b, o, ha, hc⟩
  · rw [h] at hk; simp at hk
  · exact ⟨b, o, ha, hc k hk⟩
def eqI (x y : Int) : Bool := decide (y = x)
def ltI (x y : Int) : Bool := decide (y < x)

set_option maxHeartbeats 2000000 in
theorem Often_any (a : Option Addr) (c n : Nat) (l : List Int) (x : Int) (w : World) (hl : l.length = n) (hn : n ≤ 17592186044416) (hr : Reads w a l) (m : Nat) (hm : manyI (eqI x) l = m) :
    Calls Tryd.prog 30 #[.slice a n c, .int .i64 x] w fun e w' => e = .returned (.int .i64 (m : Nat)) ∧ w = w' := by
  have HR := Lib.hid (And.intro hr (And.intro hl hm))
  clear hr hl hm
  go_enter Tryd.func30, Tryd.ntmps30
  go_wp2_with fail
  go_loopw [5, 6] (fun nv iv wr => ∃ j k : Nat, nv = .int .i64 k ∧ iv = .int .i64 j ∧ j ≤ n ∧ k ≤ j ∧ w = wr ∧ Hid (manyI (eqI x) (l.take j) = k)) (fun _ iv _ => n - (intOf iv).toNat)
  case atStart => exact ⟨0, 0, rfl, rfl, Nat.zero_le _, Nat.le_refl _, rfl, Lib.hid rfl⟩
  case round =>
    obtain ⟨j, k, rfl, rfl, hj, hkj, rfl, HV⟩ := hrel
    have j0 : (0 : Int) ≤ (j : Int) := by omega
    by_cases hlt : j < n
    · obtain ⟨b, o, rfl, q1⟩ := HR.out.1.at (k := j) (by rw [HR.out.2.1]; exact hlt)
      have j1 : (j : Int) < (n : Int) := by omega
      have hsn := manyI_snoc (eqI x) l j (by rw [HR.out.2.1]; exact hlt)
      obtain ⟨y, hy⟩ : ∃ y, y = l.getD j 0 := ⟨_, rfl⟩
      rw [← hy, HV.out] at hsn
      rw [← hy] at q1
      clear hy
      by_cases ht : y = x
      · have HS : Hid (manyI (eqI x) (l.take (j + 1)) = k + 1) := by rw [show (eqI x) y = true from decide_eq_true ht, if_pos rfl] at hsn; exact Lib.hid hsn
        have hu : (y == x) = true := by simpa using ht
        have Ht := Lib.hid ht
        clear ht
        clear hsn
        go_wp2_with fail
        go_roundw
        case rel => exact ⟨j + 1, k + 1, by go_num, by go_num, hlt, by omega, by first | rfl | trivial, HS⟩
        case measure => simp [intOf]; omega
      · have HS : Hid (manyI (eqI x) (l.take (j + 1)) = k) := by rw [show (eqI x) y = false from decide_eq_false ht, if_neg (by decide)] at hsn; exact Lib.hid hsn
        have hu : (y == x) = false := by simpa using ht
        have Ht := Lib.hid ht
        clear ht
        clear hsn
        go_wp2_with fail
        go_roundw
        case rel => exact ⟨j + 1, k, rfl, by go_num, hlt, by omega, by first | rfl | trivial, HS⟩
        case measure => simp [intOf]; omega
    · obtain rfl : n = j := by omega
      have HF : Hid (m = k) := by
        have h := HV.out
        rw [List.take_of_length_le (by rw [HR.out.2.1]; exact Nat.le_refl _), HR.out.2.2] at h
        exact Lib.hid h
      clear HV
      go_wp2_with fail
      go_ret
      rw [HF.out]
      exact ⟨rfl, by first | rfl | trivial⟩

set_option maxHeartbeats 2000000 in
theorem Below_any (a : Option Addr) (c n : Nat) (l : List Int) (x : Int) (w : World) (hl : l.length = n) (hn : n ≤ 17592186044416) (hr : Reads w a l) (m : Nat) (hm : manyI (ltI x) l = m) :
    Calls Tryd.prog 32 #[.slice a n c, .int .i64 x] w fun e w' => e = .returned (.int .i64 (m : Nat)) ∧ w = w' := by
  have HR := Lib.hid (And.intro hr (And.intro hl hm))
  clear hr hl hm
  go_enter Tryd.func32, Tryd.ntmps32
  go_wp2_with fail
  go_loopw [5, 6] (fun nv iv wr => ∃ j k : Nat, nv = .int .i64 k ∧ iv = .int .i64 j ∧ j ≤ n ∧ k ≤ j ∧ w = wr ∧ Hid (manyI (ltI x) (l.take j) = k)) (fun _ iv _ => n - (intOf iv).toNat)
  case atStart => exact ⟨0, 0, rfl, rfl, Nat.zero_le _, Nat.le_refl _, rfl, Lib.hid rfl⟩
  case round =>
    obtain ⟨j, k, rfl, rfl, hj, hkj, rfl, HV⟩ := hrel
    have j0 : (0 : Int) ≤ (j : Int) := by omega
    by_cases hlt : j < n
    · obtain ⟨b, o, rfl, q1⟩ := HR.out.1.at (k := j) (by rw [HR.out.2.1]; exact hlt)
      have j1 : (j : Int) < (n : Int) := by omega
      have hsn := manyI_snoc (ltI x) l j (by rw [HR.out.2.1]; exact hlt)
      obtain ⟨y, hy⟩ : ∃ y, y = l.getD j 0 := ⟨_, rfl⟩
      rw [← hy, HV.out] at hsn
      rw [← hy] at q1
      clear hy
      by_cases ht : y < x
      · have HS : Hid (manyI (ltI x) (l.take (j + 1)) = k + 1) := by rw [show (ltI x) y = true from decide_eq_true ht, if_pos rfl] at hsn; exact Lib.hid hsn
        have Ht := Lib.hid ht
        clear Ht
        clear hsn
        go_wp2_with fail
        go_roundw
        case rel => exact ⟨j + 1, k + 1, by go_num, by go_num, hlt, by omega, by first | rfl | trivial, HS⟩
        case measure => simp [intOf]; omega
      · have HS : Hid (manyI (ltI x) (l.take (j + 1)) = k) := by rw [show (ltI x) y = false from decide_eq_false ht, if_neg (by decide)] at hsn; exact Lib.hid hsn
        have Ht := Lib.hid ht
        clear Ht
        clear hsn
        go_wp2_with fail
        go_roundw
        case rel => exact ⟨j + 1, k, rfl, by go_num, hlt, by omega, by first | rfl | trivial, HS⟩
        case measure => simp [intOf]; omega
    · obtain rfl : n = j := by omega
      have HF : Hid (m = k) := by
        have h := HV.out
        rw [List.take_of_length_le (by rw [HR.out.2.1]; exact Nat.le_refl _), HR.out.2.2] at h
        exact Lib.hid h
      clear HV
      go_wp2_with fail
      go_ret
      rw [HF.out]
      exact ⟨rfl, by first | rfl | trivial⟩


theorem ownI_cap {E B n c : Nat} {a : Option Addr} {w : World} {xs : List Int} (h : OwnI E w B (.slice a n c) xs) : n ≤ c := by
  rcases h.2 with ⟨h1, _⟩ | ⟨g, cap, cur, h1, _, _, h2, _⟩
  · cases h1; exact Nat.le_refl _
  · cases h1; exact h2
theorem reads_part {w : World} {b o i : Nat} {l : List Int} (hr : ∀ i, i < l.length → w.cell? ⟨b, o + i, none⟩ = some (.int .i64 (l.getD i 0))) : ∀ k, k < (l.drop i).length → w.cell? ⟨b, o + i + k, none⟩ = some (.int .i64 ((l.drop i).getD k 0)) := by
  intro k hk
  rw [List.length_drop] at hk
  have h := hr (i + k) (by omega)
  rw [Nat.add_assoc, h]
  simp [List.getD_eq_getElem?_getD]
set_option maxHeartbeats 4000000 in
theorem With_some (b o c n i : Nat) (l : List Int) (x : Int) (w : World) (hl : l.length = n) (hn : n ≤ 8796093022208) (hi : i ≤ n) (hc : n ≤ c) (hr : ∀ i, i < l.length → w.cell? ⟨b, o + i, none⟩ = some (.int .i64 (l.getD i 0))) :
    Calls Tryd.prog 31 #[.slice (some ⟨b, o, none⟩) n c, .int .i64 (i : Nat), .int .i64 x] w fun e w' => ∃ a' c', e = .returned (.slice a' (n + 1) c') ∧ OwnI 3 w' w.heap.size (.slice a' (n + 1) c') (l.take i ++ x :: l.drop i) ∧ Below w.heap.size w w' := by
  obtain ⟨i0, hi1, hz0, hz1, hz2⟩ := info_parts infoInt
  have Hi := Lib.hid (And.intro hi1 (And.intro hz0 (And.intro hz1 hz2)))
  have hR0 := cells_of_reads (xs := l.take i) (w := w) (b := b) (o := o) (fun k hk => by
    rw [List.length_take] at hk
    have h := hr k (by omega)
    rw [h]
    simp [List.getD_eq_getElem?_getD, show k < i by omega])
  have HR := Lib.hid (And.intro hr (And.intro hl hR0))
  have i0' : (0 : Int) ≤ (i : Int) := by omega
  have i1 : (i : Int) ≤ (c : Int) := by omega
  have i2 : (i : Int) ≤ (n : Int) := by omega
  have htl : (l.take i).length = i := by rw [List.length_take]; omega
  have hdl : (l.drop i).length = n - i := by rw [List.length_drop]; omega
  obtain ⟨ys, hys⟩ : ∃ ys, l.take i = ys := ⟨_, rfl⟩
  obtain ⟨zs, hzs⟩ : ∃ zs, l.drop i = zs := ⟨_, rfl⟩
  have HZ := Lib.hid (And.intro hys hzs)
  rw [hys] at htl
  rw [hzs] at hdl
  rw [hys, hzs]
  have HT := Lib.hid (And.intro htl hdl)
  clear hi1 hz0 hz1 hz2 hr hl hR0 htl hdl hys hzs
  go_enter Tryd.func31, Tryd.ntmps31
  go_wp2_with (at_builtin; obtain ⟨hi1, hz0, hz1, hz2⟩ := Hi.out; refine wpList_append_row _ rfl (.tmp 8) (.tmp 11) 41 rfl w.heap.size 3 i0 (.int .i64 0) 1 8 Tryd.underlying41 hi1 hz0 hz1 hz2 rfl (by decide) (.slice none 0 0) 0 [] rfl (World.ownsRow_nil _ _ _ _) (some ⟨b, o, none⟩) i c (ys.map (Value.int .i64)) rfl (fun h => by cases h) ?c1 ?c2 (ints_oneCell _ _) ?c3 ?c4 (Nat.le_refl _) ?_)
  case c1 => rw [List.length_map, HT.out.1, Nat.mul_one]
  case c2 => intro y hy; cases hy; rw [← HZ.out.1]; exact HR.out.2.2
  case c3 => unfold maxLen; omega
  case c4 => omega
  intro v1 w1 hown hgrow
  try simp only [Nat.zero_add, List.nil_append] at hown
  have hb1 : Below w.heap.size w w1 := Below.grown (Below.refl _ _) hgrow (Nat.le_refl _) (by simp [Value.ownBlock])
  have Ho := Lib.hid hown
  have HB := Lib.hid hb1
  have hsz := hb1.size
  clear hown hgrow hb1
  go_wp2_with (at_builtin; obtain ⟨hi1, hz0, hz1, hz2⟩ := Hi.out; refine wpList_append_own _ rfl (.tmp 13) (.tmp 15) 41 rfl w.heap.size 3 i0 (.int .i64 0) 1 8 Tryd.underlying41 hi1 hz0 hz1 hz2 rfl (by decide) v1 i (ys.map (Value.int .i64)) rfl (Ho.out.alloc _) ⟨w1.heap.size, 0, none⟩ 1 1 [.int .i64 x] rfl rfl ?c1 ?c2 ?c3 ?c4 ?c5 ?_)
  case c1 => exact World.news_of_block (cs := #[.int .i64 x]) (t := 3) (fr := (0, 0)) (heap_alloc_new _ _)
  case c2 => simp [Value.oneCell']
  case c3 => unfold maxLen; omega
  case c4 => omega
  case c5 => simp; omega
  intro v2 w2 hown hgrow _
  have hb2 : Below w.heap.size w w2 := Below.grown (HB.out.alloc hsz _) hgrow (by simp; omega) (fun k hk => (Ho.out.lt k hk).1)
  have Ho2 := Lib.hid hown
  have HB2 := Lib.hid hb2
  have hsz2 := hb2.size
  have hN := cells_of_reads (reads_part (w := w2) (i := i) (l := l) (b := b) (o := o) (fun k hk => upc hb2 (HR.out.1 k hk)))
  rw [HZ.out.2] at hN
  have HN := Lib.hid hN
  clear hN
  have HL := Lib.hid HT.out.2
  clear hown hgrow hb2
  by_cases hic : i = c
  · have hin : n = i := by omega
    have HD : Hid (zs = []) := Lib.hid (List.eq_nil_of_length_eq_zero (by rw [HL.out]; omega))
    subst hin
    subst hic
    go_wp2_with (at_builtin; obtain ⟨hi1, hz0, hz1, hz2⟩ := Hi.out; refine wpList_append_row _ rfl (.tmp 17) (.tmp 20) 41 rfl w.heap.size 3 i0 (.int .i64 0) 1 8 Tryd.underlying41 hi1 hz0 hz1 hz2 rfl (by decide) v2 (n + 1) (ys.map (Value.int .i64) ++ [.int .i64 x]) rfl Ho2.out (some ⟨b, o, none⟩) 0 0 [] rfl (fun h => by cases h) ?c1 ?c2 ?c6 ?c3 ?c4 ?c5 ?_)
    case c1 => rfl
    case c2 => intro y hy j u hu; cases hu
    case c6 => intro u hu; cases hu
    case c3 => unfold maxLen; omega
    case c4 => omega
    case c5 => exact hsz2
    intro v3 w3 hown hgrow
    have hb3 : Below w.heap.size w w3 := Below.grown HB2.out hgrow hsz2 (fun k hk => (Ho2.out.lt k hk).1)
    have HF : Hid (OwnI 3 w3 w.heap.size v3 (ys ++ x :: zs) ∧ Below w.heap.size w w3) := by
      refine Lib.hid ⟨?_, hb3⟩
      unfold OwnI
      rw [HD.out]
      simpa [HT.out.1] using hown
    clear hown hgrow hb3
    have e : (ys ++ x :: zs).length = n + 1 := by rw [List.length_append, List.length_cons, HT.out.1, HL.out]; omega
    obtain ⟨a', c', hv, -⟩ := HF.out.1.form
    rw [e] at hv
    subst hv
    have He := Lib.hid e
    clear e
    go_wp2_with fail
    go_ret
    exact ⟨a', c', by first | rfl | simp, HF.out.1, HF.out.2⟩
  · have hlc : i < c := by omega
    have hlc' : (i : Int) < (c : Int) := by omega
    clear hic
    go_wp2_with (at_builtin; obtain ⟨hi1, hz0, hz1, hz2⟩ := Hi.out; refine wpList_append_row _ rfl (.tmp 17) (.tmp 20) 41 rfl w.heap.size 3 i0 (.int .i64 0) 1 8 Tryd.underlying41 hi1 hz0 hz1 hz2 rfl (by decide) v2 (i + 1) (ys.map (Value.int .i64) ++ [.int .i64 x]) rfl Ho2.out (some ⟨b, o + i, none⟩) (n - i) (c - i) (zs.map (Value.int .i64)) rfl (fun h => by cases h) ?c1 ?c2 (ints_oneCell _ _) ?c3 ?c4 ?c5 ?_)
    case c1 => rw [List.length_map, HL.out, Nat.mul_one]
    case c2 => intro y hy; cases hy; exact HN.out
    case c3 => unfold maxLen; omega
    case c4 => omega
    case c5 => exact hsz2
    intro v3 w3 hown hgrow
    have hb3 : Below w.heap.size w w3 := Below.grown HB2.out hgrow hsz2 (fun k hk => (Ho2.out.lt k hk).1)
    have HF : Hid (OwnI 3 w3 w.heap.size v3 (ys ++ x :: zs) ∧ Below w.heap.size w w3) := by
      refine Lib.hid ⟨?_, hb3⟩
      unfold OwnI
      have e : (ys ++ x :: zs).length = i + 1 + (n - i) := by rw [List.length_append, List.length_cons, HT.out.1, HL.out]; omega
      rw [e]
      simpa using hown
    clear hown hgrow hb3
    have e : (ys ++ x :: zs).length = n + 1 := by rw [List.length_append, List.length_cons, HT.out.1, HL.out]; omega
    obtain ⟨a', c', hv, -⟩ := HF.out.1.form
    rw [e] at hv
    subst hv
    have He := Lib.hid e
    clear e
    go_wp2_with fail
    go_ret
    exact ⟨a', c', by first | rfl | simp, HF.out.1, HF.out.2⟩
set_option maxHeartbeats 2000000 in
theorem With_none (x : Int) (w : World) :
    Calls Tryd.prog 31 #[.slice none 0 0, .int .i64 ((0 : Nat) : Int), .int .i64 x] w fun e w' => ∃ a' c', e = .returned (.slice a' 1 c') ∧ OwnI 3 w' w.heap.size (.slice a' 1 c') [x] ∧ Below w.heap.size w w' := by
  obtain ⟨i0, hi1, hz0, hz1, hz2⟩ := info_parts infoInt
  have Hi := Lib.hid (And.intro hi1 (And.intro hz0 (And.intro hz1 hz2)))
  clear hi1 hz0 hz1 hz2
  go_enter Tryd.func31, Tryd.ntmps31
  go_wp2_with (at_builtin; obtain ⟨hi1, hz0, hz1, hz2⟩ := Hi.out; refine wpList_append_row _ rfl (.tmp 8) (.tmp 11) 41 rfl w.heap.size 3 i0 (.int .i64 0) 1 8 Tryd.underlying41 hi1 hz0 hz1 hz2 rfl (by decide) (.slice none 0 0) 0 [] rfl (World.ownsRow_nil _ _ _ _) none 0 0 [] rfl (fun _ => ⟨rfl, rfl⟩) ?c1 ?c2 ?c6 ?c3 ?c4 (Nat.le_refl _) ?_)
  case c1 => rfl
  case c2 => intro y hy; cases hy
  case c6 => intro u hu; cases hu
  case c3 => unfold maxLen; omega
  case c4 => omega
  intro v1 w1 hown hgrow
  try simp only [Nat.zero_add, List.nil_append] at hown
  have hb1 : Below w.heap.size w w1 := Below.grown (Below.refl _ _) hgrow (Nat.le_refl _) (by simp [Value.ownBlock])
  have Ho := Lib.hid hown
  have HB := Lib.hid hb1
  have hsz := hb1.size
  clear hown hgrow hb1
  go_wp2_with (at_builtin; obtain ⟨hi1, hz0, hz1, hz2⟩ := Hi.out; refine wpList_append_own _ rfl (.tmp 13) (.tmp 15) 41 rfl w.heap.size 3 i0 (.int .i64 0) 1 8 Tryd.underlying41 hi1 hz0 hz1 hz2 rfl (by decide) v1 0 [] rfl (Ho.out.alloc _) ⟨w1.heap.size, 0, none⟩ 1 1 [.int .i64 x] rfl rfl ?c1 ?c2 ?c3 ?c4 ?c5 ?_)
  case c1 => exact World.news_of_block (cs := #[.int .i64 x]) (t := 3) (fr := (0, 0)) (heap_alloc_new _ _)
  case c2 => simp [Value.oneCell']
  case c3 => unfold maxLen; omega
  case c4 => omega
  case c5 => simp; omega
  intro v2 w2 hown hgrow _
  have hb2 : Below w.heap.size w w2 := Below.grown (HB.out.alloc hsz _) hgrow (by simp; omega) (fun k hk => (Ho.out.lt k hk).1)
  have Ho2 := Lib.hid hown
  have HB2 := Lib.hid hb2
  have hsz2 := hb2.size
  clear hown hgrow hb2
  go_wp2_with (at_builtin; obtain ⟨hi1, hz0, hz1, hz2⟩ := Hi.out; refine wpList_append_row _ rfl (.tmp 17) (.tmp 20) 41 rfl w.heap.size 3 i0 (.int .i64 0) 1 8 Tryd.underlying41 hi1 hz0 hz1 hz2 rfl (by decide) v2 (0 + 1) ([] ++ [.int .i64 x]) rfl Ho2.out none 0 0 [] rfl (fun _ => ⟨rfl, rfl⟩) ?c1 ?c2 ?c6 ?c3 ?c4 ?c5 ?_)
  case c1 => rfl
  case c2 => intro y hy; cases hy
  case c6 => intro u hu; cases hu
  case c3 => unfold maxLen; omega
  case c4 => omega
  case c5 => exact hsz2
  intro v3 w3 hown hgrow
  have hb3 : Below w.heap.size w w3 := Below.grown HB2.out hgrow hsz2 (fun k hk => (Ho2.out.lt k hk).1)
  have HF : Hid (OwnI 3 w3 w.heap.size v3 [x] ∧ Below w.heap.size w w3) := by
    refine Lib.hid ⟨?_, hb3⟩
    unfold OwnI
    simpa using hown
  clear hown hgrow hb3
  obtain ⟨a', c', hv, -⟩ := HF.out.1.form
  simp only [List.length_cons, List.length_nil, Nat.zero_add] at hv
  subst hv
  go_wp2_with fail
  go_ret
  exact ⟨a', c', by first | rfl | simp, HF.out.1, HF.out.2⟩
theorem With_own {B : Nat} (a : Option Addr) (c n i : Nat) (l : List Int) (x : Int) (w : World) (h : OwnI 3 w B (.slice a n c) l) (hl : l.length = n) (hn : n ≤ 8796093022208) (hi : i ≤ n) :
    Calls Tryd.prog 31 #[.slice a n c, .int .i64 (i : Nat), .int .i64 x] w fun e w' => ∃ a' c', e = .returned (.slice a' (n + 1) c') ∧ OwnI 3 w' w.heap.size (.slice a' (n + 1) c') (l.take i ++ x :: l.drop i) ∧ Below w.heap.size w w' := by
  have hc := ownI_cap h
  obtain ⟨a', c', e, hno, hr, hg⟩ := h.form
  rw [hl] at e
  cases e
  cases a with
  | none =>
    have hc0 := hno rfl
    subst hc0
    have hn0 : n = 0 := by omega
    subst hn0
    have hi0 : i = 0 := by omega
    subst hi0
    have hl0 : l = [] := List.eq_nil_of_length_eq_zero hl
    subst hl0
    exact With_none x w
  | some y =>
    obtain ⟨g, rfl, _⟩ := hg y rfl
    refine With_some g 0 c n i l x w hl hn hi hc ?_
    rcases hr with h | ⟨b, o, ha, hc⟩
    · intro k hk; rw [h] at hk; simp at hk
    · cases ha; exact hc

/-- a list of numbers, each once -/
structure Onc (w : World) (l : List Int) (j : Nat) (v : Value) (wr : World) : Prop where
  row : ∃ ks, OwnI 3 wr w.heap.size v ks ∧ ks.length ≤ j ∧ ∀ z, z ∈ ks ↔ z ∈ l.take j
  bel : Below w.heap.size w wr
theorem many_zero {y : Int} {ks : List Int} : manyI (eqI y) ks = 0 ↔ y ∉ ks := by
  unfold manyI
  rw [List.length_eq_zero_iff, List.filter_eq_nil_iff]
  constructor
  · intro h hy; exact h y hy (by simp [eqI])
  · intro h a ha e
    have : a = y := of_decide_eq_true e
    exact h (by rw [← this]; exact ha)
theorem mem_with {z x : Int} {l : List Int} (i : Nat) : z ∈ l.take i ++ x :: l.drop i ↔ z = x ∨ z ∈ l := by
  constructor
  · intro h
    rcases List.mem_append.1 h with h | h
    · exact .inr (List.mem_of_mem_take h)
    · rcases List.mem_cons.1 h with h | h
      · exact .inl h
      · exact .inr (List.mem_of_mem_drop h)
  · intro h
    rcases h with h | h
    · exact List.mem_append.2 (.inr (by rw [h]; exact List.mem_cons_self))
    · rw [← List.take_append_drop i l] at h
      rcases List.mem_append.1 h with h | h
      · exact List.mem_append.2 (.inl h)
      · exact List.mem_append.2 (.inr (List.mem_cons_of_mem _ h))
theorem mem_take_succ {l : List Int} {j : Nat} (h : j < l.length) (z : Int) : z ∈ l.take (j + 1) ↔ z = l.getD j 0 ∨ z ∈ l.take j := by
  rw [List.take_succ_eq_append_getElem h, List.mem_append, List.mem_singleton]
  have e : l.getD j 0 = l[j] := by simp [List.getD_eq_getElem?_getD, h]
  rw [e]
  exact Or.comm
def kOwnI (B m : Nat) (xs : List Int) : grow.Kept := ⟨fun v W => ∃ a c, v = .slice a m c ∧ OwnI 3 W B (.slice a m c) xs, fun _ _ _ hb ⟨a, c, e, h⟩ => ⟨a, c, e, h.up hb⟩⟩
/-- what 'Once' hands back -/
def RetO (w : World) (l : List Int) (e : Ending) (w' : World) : Prop := ∃ a m c ks, e = .returned (.slice a m c) ∧ OwnI 3 w' w.heap.size (.slice a m c) ks ∧ ks.length = m ∧ m ≤ l.length ∧ (∀ z, z ∈ ks ↔ z ∈ l) ∧ Below w.heap.size w w'
theorem OwnI.lower {E B B' : Nat} {v : Value} {xs : List Int} {w : World} (h : OwnI E w B v xs) (hb : B' ≤ B) : OwnI E w B' v xs := by
  refine ⟨h.1, ?_⟩
  rcases h.2 with h | ⟨g, cap, cur, hv, hg, r⟩
  · exact .inl h
  · exact .inr ⟨g, cap, cur, hv, Nat.le_trans hb hg, r⟩

set_option maxRecDepth 100000 in
set_option maxHeartbeats 4000000 in
theorem Once_any (a : Option Addr) (c n : Nat) (l : List Int) (w : World) (hl : l.length = n) (hn : n ≤ 8796093022208) (hr : Reads w a l) :
    Calls Tryd.prog 18 #[.slice a n c] w (RetO w l) := by
  have HR := Lib.hid (And.intro hr hl)
  have HI : Hid (Onc w l 0 (.slice none 0 0) w) := Lib.hid ⟨⟨[], World.ownsRow_nil _ _ _ _, Nat.le_refl _, fun z => by simp⟩, Below.refl _ _⟩
  clear hr hl
  go_enter Tryd.func18, Tryd.ntmps18
  go_wp2_with fail
  go_loopw [3, 4] (fun ov iv wr => ∃ (j : Nat) (ow : Value), ow = ov ∧ iv = .int .i64 j ∧ j ≤ n ∧ Hid (Onc w l j ow wr)) (fun _ iv _ => n - (intOf iv).toNat)
  case atStart => exact ⟨0, _, rfl, rfl, Nat.zero_le _, HI⟩
  case round =>
    obtain ⟨j, ow, rfl, rfl, hj, HO⟩ := hrel
    have j0 : (0 : Int) ≤ (j : Int) := by omega
    obtain ⟨ks, hks, hkl, hmem⟩ := HO.out.row
    obtain ⟨aw, cw, hov, -⟩ := hks.form
    obtain ⟨k, hk⟩ : ∃ k, ks.length = k := ⟨_, rfl⟩
    rw [hk] at hov hkl
    subst hov
    by_cases hlt : j < n
    · obtain ⟨b, o, rfl, q0⟩ := HR.out.1.at (k := j) (by rw [HR.out.2]; exact hlt)
      have q1 := upc HO.out.bel q0
      have j1 : (j : Int) < (n : Int) := by omega
      have hts := mem_take_succ (l := l) (j := j) (by rw [HR.out.2]; exact hlt)
      obtain ⟨y, hy⟩ : ∃ y, y = l.getD j 0 := ⟨_, rfl⟩
      rw [← hy] at q0 q1 hts
      obtain ⟨m, hm⟩ : ∃ m, manyI (eqI y) ks = m := ⟨_, rfl⟩
      have hz : m = 0 ↔ y ∉ ks := by rw [← hm]; exact many_zero
      have HOf := Lib.hid (Often_any aw cw k ks y wr hk (by omega) hks.reads m hm)
      have HK := Lib.hid (And.intro hks (And.intro hk (And.intro hmem hts)))
      have HB := Lib.hid HO.out.bel
      clear hks hk hmem hts hy hm HO q0
      go_wp2_with fail
      refine HOf.out.mono ?_
      rintro e w2 ⟨rfl, rfl⟩
      by_cases hm0 : m = 0
      · have HN : Hid (y ∉ ks) := Lib.hid (hz.1 hm0)
        subst hm0
        obtain ⟨m2, hm2⟩ : ∃ m, manyI (ltI y) ks = m := ⟨_, rfl⟩
        have hm2k : m2 ≤ k := by
          have h := manyI_le (ltI y) ks ks.length
          rw [List.take_of_length_le (Nat.le_refl _), hm2, HK.out.2.1] at h
          exact h
        have HM2 := Lib.hid hm2
        clear hz hm2 HOf
        go_wp2_with fail
        refine grow.wp_grow_last 12 _ [grow.kEq (.slice aw k cw), grow.kEq (.slice aw k cw), grow.kEq (.slice (some ⟨b, o, none⟩) n c), grow.kEq (.int .i64 (j : Nat)), grow.kEq (.pointer (some ⟨b, o + j, none⟩)), grow.kEq (.int .i64 y), grow.kEq (.int .i64 (m2 : Nat)), grow.kEq (.slice (some ⟨b, o, none⟩) n c), grow.kEq (.int .i64 (j : Nat)), grow.kEq (.pointer (some ⟨b, o + j, none⟩)), grow.kEq (.int .i64 y), kOwnI w.heap.size (k + 1) (ks.take m2 ++ y :: ks.drop m2)] rfl rfl rfl (by kernel_rfl) (by kernel_rfl) (by kernel_rfl) (by kernel_rfl) (by kernel_rfl) ?step ?fin
        case step =>
          refine grow.EachL.cons ?_ ?_
          · intro A W hB hs hJ K hK
            have s0 := hs 3 (by kernel_rfl)
            simp at s0
            rw [if_pos (by rfl)]
            clear hs hJ
            go_simp
            exact hK _ _ (Below.refl _ _) rfl
          refine grow.EachL.cons ?_ ?_
          · intro A W hB hs hJ K hK
            have s0 := hs 3 (by kernel_rfl)
            simp at s0
            rw [if_pos (by rfl)]
            clear hs hJ
            go_simp
            exact hK _ _ (Below.refl _ _) rfl
          refine grow.EachL.cons ?_ ?_
          · intro A W hB hs hJ K hK
            have s0 := hs 0 (by kernel_rfl)
            simp at s0
            rw [if_pos (by rfl)]
            clear hs hJ
            go_simp
            exact hK _ _ (Below.refl _ _) rfl
          refine grow.EachL.cons ?_ ?_
          · intro A W hB hs hJ K hK
            have s0 := hs 4 (by kernel_rfl)
            simp at s0
            rw [if_pos (by rfl)]
            clear hs hJ
            go_simp
            exact hK _ _ (Below.refl _ _) rfl
          refine grow.EachL.cons ?_ ?_
          · intro A W hB hs hJ K hK
            have s0 : A.tmps.getD 20 undef = .slice (some ⟨b, o, none⟩) n c := hJ 2 20 (by kernel_rfl) (by kernel_rfl)
            simp at s0
            have s1 : A.tmps.getD 21 undef = .int .i64 (j : Nat) := hJ 3 21 (by kernel_rfl) (by kernel_rfl)
            simp at s1
            rw [if_pos (by rfl)]
            clear hs hJ
            go_simp
            exact hK _ _ (Below.refl _ _) rfl
          refine grow.EachL.cons ?_ ?_
          · intro A W hB hs hJ K hK
            have s0 : A.tmps.getD 22 undef = .pointer (some ⟨b, o + j, none⟩) := hJ 4 22 (by kernel_rfl) (by kernel_rfl)
            simp at s0
            have kk := upc hB q1
            rw [if_pos (by rfl)]
            clear hs hJ
            go_simp
            exact hK _ _ (Below.refl _ _) rfl
          refine grow.EachL.cons ?_ ?_
          · intro A W hB hs hJ K hK
            have s0 : A.tmps.getD 19 undef = .slice aw k cw := hJ 1 19 (by kernel_rfl) (by kernel_rfl)
            simp at s0
            have s1 : A.tmps.getD 23 undef = .int .i64 y := hJ 5 23 (by kernel_rfl) (by kernel_rfl)
            simp at s1
            rw [if_pos (by rfl)]
            clear hs hJ
            go_simp
            go_at_call 32
            refine (Below_any aw cw k ks y W HK.out.2.1 (by omega) ((OwnI.reads HK.out.1).up hB) m2 HM2.out).mono ?_
            rintro e W2 ⟨rfl, rfl⟩
            exact hK _ _ (Below.refl _ _) rfl
          refine grow.EachL.cons ?_ ?_
          · intro A W hB hs hJ K hK
            have s0 := hs 0 (by kernel_rfl)
            simp at s0
            rw [if_pos (by rfl)]
            clear hs hJ
            go_simp
            exact hK _ _ (Below.refl _ _) rfl
          refine grow.EachL.cons ?_ ?_
          · intro A W hB hs hJ K hK
            have s0 := hs 4 (by kernel_rfl)
            simp at s0
            rw [if_pos (by rfl)]
            clear hs hJ
            go_simp
            exact hK _ _ (Below.refl _ _) rfl
          refine grow.EachL.cons ?_ ?_
          · intro A W hB hs hJ K hK
            have s0 : A.tmps.getD 25 undef = .slice (some ⟨b, o, none⟩) n c := hJ 7 25 (by kernel_rfl) (by kernel_rfl)
            simp at s0
            have s1 : A.tmps.getD 26 undef = .int .i64 (j : Nat) := hJ 8 26 (by kernel_rfl) (by kernel_rfl)
            simp at s1
            rw [if_pos (by rfl)]
            clear hs hJ
            go_simp
            exact hK _ _ (Below.refl _ _) rfl
          refine grow.EachL.cons ?_ ?_
          · intro A W hB hs hJ K hK
            have s0 : A.tmps.getD 27 undef = .pointer (some ⟨b, o + j, none⟩) := hJ 9 27 (by kernel_rfl) (by kernel_rfl)
            simp at s0
            have kk := upc hB q1
            rw [if_pos (by rfl)]
            clear hs hJ
            go_simp
            exact hK _ _ (Below.refl _ _) rfl
          refine grow.EachL.cons ?_ ?_
          · intro A W hB hs hJ K hK
            have s0 : A.tmps.getD 18 undef = .slice aw k cw := hJ 0 18 (by kernel_rfl) (by kernel_rfl)
            simp at s0
            have s1 : A.tmps.getD 24 undef = .int .i64 (m2 : Nat) := hJ 6 24 (by kernel_rfl) (by kernel_rfl)
            simp at s1
            have s2 : A.tmps.getD 28 undef = .int .i64 y := hJ 10 28 (by kernel_rfl) (by kernel_rfl)
            simp at s2
            rw [if_pos (by rfl)]
            clear hs hJ
            go_simp
            go_at_call 31
            refine (With_own aw cw k m2 ks y W (HK.out.1.up hB) HK.out.2.1 (by omega) hm2k).mono ?_
            rintro e W2 ⟨aZ, cZ, rfl, hoZ, hbZ⟩
            exact hK _ _ hbZ ⟨aZ, cZ, rfl, OwnI.lower hoZ (szle hB HB.out.size)⟩
          exact grow.EachL.nil
        case fin =>
          intro f W hB hF
          have f0 : f 0 = .slice aw k cw := hF 0 (by decide)
          have f1 : f 1 = .slice aw k cw := hF 1 (by decide)
          have f2 : f 2 = .slice (some ⟨b, o, none⟩) n c := hF 2 (by decide)
          have f3 : f 3 = .int .i64 (j : Nat) := hF 3 (by decide)
          have f4 : f 4 = .pointer (some ⟨b, o + j, none⟩) := hF 4 (by decide)
          have f5 : f 5 = .int .i64 y := hF 5 (by decide)
          have f6 : f 6 = .int .i64 (m2 : Nat) := hF 6 (by decide)
          have f7 : f 7 = .slice (some ⟨b, o, none⟩) n c := hF 7 (by decide)
          have f8 : f 8 = .int .i64 (j : Nat) := hF 8 (by decide)
          have f9 : f 9 = .pointer (some ⟨b, o + j, none⟩) := hF 9 (by decide)
          have f10 : f 10 = .int .i64 y := hF 10 (by decide)
          obtain ⟨aN_11, cN_11, f11, hN_11⟩ := hF 11 (by decide)
          clear hF
          intro A hA
          simp only [grow.puts, Act.put, List.getElem?_toArray, List.getElem?_cons_zero, List.getElem?_cons_succ, Option.bind_some, List.setIfInBounds_toArray, List.set_cons_zero, List.set_cons_succ, f0, f1, f2, f3, f4, f5, f6, f7, f8, f9, f10, f11] at hA
          subst hA
          have HS : Hid (Onc w l (j + 1) (.slice aN_11 (k + 1) cN_11) W) := by
            refine Lib.hid ⟨⟨_, hN_11, ?_, fun z => ?_⟩, HB.out.trans (hB.mono HB.out.size)⟩
            · rw [List.length_append, List.length_cons, List.length_take, List.length_drop, HK.out.2.1]; omega
            · rw [mem_with, HK.out.2.2.1, HK.out.2.2.2]
          clear hB hN_11 q1
          go_simp
          go_wp2_with fail
          go_roundw
          case rel => exact ⟨j + 1, _, rfl, by go_num, hlt, HS⟩
          case measure => simp [intOf]; omega
      · have HN : Hid (¬ y ∉ ks) := Lib.hid (fun h => hm0 (hz.2 h))
        have hmp : ((m : Int) == 0) = false := by simp; omega
        have HS : Hid (Onc w l (j + 1) (.slice aw k cw) wr) := by
          refine Lib.hid ⟨⟨ks, HK.out.1, by rw [HK.out.2.1]; omega, fun z => ?_⟩, HB.out⟩
          rw [HK.out.2.2.2, ← HK.out.2.2.1]
          constructor
          · intro h; exact .inr h
          · rintro (h | h)
            · rw [h]; exact Classical.not_not.1 HN.out
            · exact h
        clear hz hm0 HOf q1
        go_wp2_with fail
        go_roundw
        case rel => exact ⟨j + 1, _, rfl, by go_num, hlt, HS⟩
        case measure => simp [intOf]; omega
    · obtain rfl : n = j := by omega
      have HF : Hid (RetO w l (.returned (.slice aw k cw)) wr) := by
        refine Lib.hid ⟨aw, k, cw, ks, rfl, by rw [← hk]; rw [← hk] at hks; exact hks, hk, by rw [HR.out.2]; exact hkl, fun z => ?_, HO.out.bel⟩
        rw [hmem, List.take_of_length_le (by rw [HR.out.2]; exact Nat.le_refl _)]
      clear hks hk hkl hmem HO
      go_wp2_with fail
      go_ret
      exact HF.out
end Go.Proofs.YtnebmncjohoekaaDoor
