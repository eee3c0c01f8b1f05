/- Plain laws of maps of keys; 'pated' is true. -/
import Derived.Test.YtnebmncjohoekaaPatPairs
import Derived.Test.YtnebmncjohoekaaSameP
namespace Go.Proofs.Ytnebmncjohoekaa.pat
open Go.RowKit

theorem cnt_both (a b : PT) : (both a b).cnt = a.cnt + b.cnt := by
  unfold both
  split
  · rfl
  · simp only [PT.cnt]; omega
theorem oput_spec {o : Option PT} (ho : OOk o) {k : Nat} (hk : k < 2 ^ 64) (v : Int) : Ok (oput o k v) ∧ ∀ j, lk (oput o k v).list j = if j = k then some v else lk (olist o) j := by
  cases o with
  | none =>
    refine ⟨hk, fun j => ?_⟩
    simp only [oput, PT.list, lk, olist]
    by_cases e : k = j
    · simp [e]
    · simp [e, Ne.symm e]
  | some t => obtain ⟨h1, _, h3⟩ := put_spec k v hk t ho; exact ⟨h1, h3⟩
theorem odrop_spec {o : Option PT} (ho : OOk o) (k : Nat) : OOk (odrop o k) ∧ ∀ j, lk (olist (odrop o k)) j = if j = k then none else lk (olist o) j := by
  cases o with
  | none => exact ⟨trivial, fun j => by simp [odrop, olist, lk]⟩
  | some t => obtain ⟨h1, _, h3⟩ := drop_spec k t ho; exact ⟨h1, h3⟩
theorem oget_eq {o : Option PT} (ho : OOk o) (k : Nat) : oget o k = lk (olist o) k := by
  cases o with
  | none => rfl
  | some t => exact get_eq k t ho
theorem orising {o : Option PT} (ho : OOk o) : Rising (olist o) := by
  cases o with
  | none => trivial
  | some t => exact rising ho
theorem told_ext {o o' : Option PT} (ho : OOk o) (ho' : OOk o') (h : ∀ j, lk (olist o) j = lk (olist o') j) : told o = told o' := by
  unfold told
  rw [rising_ext (orising ho) (orising ho') h]
theorem cnt_oput_le (o : Option PT) (k : Nat) (v : Int) : (oput o k v).cnt ≤ ocnt o + 1 := by
  cases o with
  | none => exact Nat.le_refl _
  | some t => exact cnt_put_le k v t
theorem cnt_odrop_le (o : Option PT) (k : Nat) : ocnt (odrop o k) ≤ ocnt o := by
  cases o with
  | none => exact Nat.le_refl _
  | some t => exact cnt_drop_le k t

theorem lk_split {k : Nat} {v : Int} : ∀ {l : KL}, Rising l → lk l k = some v → ∃ pre post, l = pre ++ (k, v) :: post ∧ Rising (pre ++ post) ∧ ∀ j, lk (pre ++ post) j = if j = k then none else lk l j
  | [], _, h => by simp [lk] at h
  | (a, u) :: t, hr, h => by
    by_cases e : a = k
    · subst e
      have hu : u = v := by simpa [lk] using h
      subst hu
      refine ⟨[], t, rfl, hr.2, fun j => ?_⟩
      by_cases ej : j = a
      · subst ej
        rw [if_pos rfl]
        exact lk_none fun p hp => by have := hr.1 p hp; simp at this; omega
      · rw [if_neg ej]
        simp [lk, Ne.symm ej]
    · have h' : lk t k = some v := by simpa [lk, e] using h
      obtain ⟨pre, post, rfl, h2, h3⟩ := lk_split hr.2 h'
      refine ⟨(a, u) :: pre, post, rfl, ⟨fun q hq => hr.1 q ?_, h2⟩, fun j => ?_⟩
      · rcases List.mem_append.1 hq with hq | hq
        · exact List.mem_append.2 (.inl hq)
        · exact List.mem_append.2 (.inr (List.mem_cons_of_mem _ hq))
      · by_cases ea : a = j
        · subst ea
          simp [lk, e]
        · have := h3 j
          simp only [List.cons_append, lk, if_neg ea, this]
theorem cnt_drop_has {o : Option PT} (ho : OOk o) {k : Nat} {v : Int} (h : lk (olist o) k = some v) : ocnt o = ocnt (odrop o k) + 1 := by
  obtain ⟨pre, post, e, hr, hl⟩ := lk_split (orising ho) h
  obtain ⟨d1, d2⟩ := odrop_spec ho k
  have e2 := rising_ext (orising d1) hr (fun j => by rw [d2, hl])
  rw [← olist_length, ← olist_length, e2, e]
  simp only [List.length_append, List.length_cons]
  omega

/-- a map of pairs, one by one -/
def fill (o : Option PT) : List (Int × Int) → Option PT
  | [] => o
  | p :: t => fill (some (oput o (tk p.1) p.2)) t
theorem fill_snoc (l : List (Int × Int)) (p : Int × Int) : ∀ o, fill o (l ++ [p]) = some (oput (fill o l) (tk p.1) p.2) := by
  induction l with
  | nil => intro o; rfl
  | cons q t ih => intro o; exact ih _
theorem fill_ok (l : List (Int × Int)) : ∀ o, OOk o → (∀ p ∈ l, I64 p.1) → OOk (fill o l) := by
  induction l with
  | nil => intro o h _; exact h
  | cons q t ih => intro o h hl; exact ih _ (oput_spec h (tk_lt (hl q (by simp))) q.2).1 fun p hp => hl p (by simp [hp])
theorem fill_cnt (l : List (Int × Int)) : ∀ o, ocnt (fill o l) ≤ ocnt o + l.length := by
  induction l with
  | nil => intro o; exact Nat.le_refl _
  | cons q t ih =>
    intro o
    have h1 := ih (some (oput o (tk q.1) q.2))
    have h2 := cnt_oput_le o (tk q.1) q.2
    simp only [fill, List.length_cons]
    have e : ocnt (some (oput o (tk q.1) q.2)) = (oput o (tk q.1) q.2).cnt := rfl
    omega

def Yes (w : World) (e : Ending) (w' : World) : Prop := e = .returned (.bool true) ∧ Below w.heap.size w w'
theorem i64_lit {k : Int} (h1 : -100 ≤ k) (h2 : k ≤ 100) : I64 k := by unfold I64; omega

/-- the map of 'pated' -/
def known : Option PT := some (oput (some (.leaf (tk 5) 7)) (tk (-3)) 9)
theorem known_ok : OOk known := (oput_spec (o := some (.leaf (tk 5) 7)) (tk_lt (i64_lit (by decide) (by decide))) (tk_lt (i64_lit (by decide) (by decide))) 9).1
theorem known_get : oget known (tk 5) = some 7 := by
  rw [oget_eq known_ok, known, olist, (oput_spec (o := some (.leaf (tk 5) 7)) (tk_lt (i64_lit (by decide) (by decide))) (tk_lt (i64_lit (by decide) (by decide))) 9).2]
  decide
theorem known_cnt : ocnt known = 2 := by
  have e : known = some (both (.leaf (tk 5) 7) (.leaf (tk (-3)) 9)) := by
    show some (put (.leaf (tk 5) 7) (tk (-3)) 9) = _
    rw [show put (.leaf (tk 5) 7) (tk (-3)) 9 = both (.leaf (tk 5) 7) (.leaf (tk (-3)) 9) from if_neg (by decide)]
  rw [e]
  exact cnt_both _ _
theorem known_len (B : Nat) (w : World) (p : Option Addr) (h : HO B w p known) :
    Calls Try.prog 10 #[.agg #[.pointer p]] w fun e w' => e = .returned (.int .i64 2) ∧ Below w.heap.size w w' := by
  have h := Len_any B w p _ h
  rw [known_cnt] at h
  exact h

set_option maxHeartbeats 4000000 in
theorem pated_any (w : World) : Calls Try.prog 14 #[] w (Yes w) := by
  have HP1 := Lib.hid (fun W => Put_any W.heap.size W none none 5 7 (Nat.le_refl _) rfl trivial (i64_lit (by decide) (by decide)) (by simp [ocnt]))
  have HP2 := Lib.hid (fun B W p hB h => Put_any B W p (some (.leaf (tk 5) 7)) (-3) 9 hB h (tk_lt (i64_lit (by decide) (by decide))) (i64_lit (by decide) (by decide)) (by simp [ocnt, PT.cnt]))
  have HG := Lib.hid (fun B W p h => Get_any B W p known 5 h known_ok (i64_lit (by decide) (by decide)) (some 7) known_get)
  have hn := heap_alloc_new w (.cells #[.pointer none] 25)
  have Hn := Lib.hid hn
  clear hn
  go_enter Try.func14, Try.ntmps14
  go_wp2_with fail
  refine (HP1.out _).mono ?_
  rintro e w1 ⟨p1, rfl, hp1, hb1⟩
  have H1 := Lib.hid (And.intro hp1 hb1)
  clear hp1 hb1
  go_wp2_with fail
  refine (HP2.out _ _ _ H1.out.2.size H1.out.1).mono ?_
  rintro e w2 ⟨p2, rfl, hp2, hb2⟩
  have hn2 := upb (belowTrans H1.out.2 hb2) Hn.out
  have c2 := cell_of_one hn2
  have f2 := free_of_one hn2
  have hset := one_setCell (u := .pointer p2) hn2
  have hbel : Below w.heap.size w (w2.setCell ⟨w.heap.size, 0, none⟩ (.pointer p2)) := belowSet (a := ⟨w.heap.size, 0, none⟩) (belowTrans (belowAlloc w _) (belowTrans H1.out.2 hb2)) (Nat.le_refl _) _
  have hk := HO.store (k := w.heap.size) (off := 0) (u := .pointer p2) hn2 (by decide) hp2
  obtain ⟨V, hV⟩ : ∃ V, V = w2.setCell ⟨w.heap.size, 0, none⟩ (.pointer p2) := ⟨_, rfl⟩
  have kV3 := cell_of_one hset
  rw [← hV] at hset hbel hk
  have kV := cell_of_one hset
  have HV := Lib.hid hV
  have HK := Lib.hid (And.intro hk (And.intro hbel hset))
  clear hn2 hset hbel hk hV hp2 hb2
  go_wp2_with fail
  rw [← HV.out]
  refine (HG.out _ _ _ HK.out.1).mono ?_
  rintro e w3 ⟨rfl, hb3⟩
  have hs3 := upb hb3 HK.out.2.2
  have k3 := cell_of_one hs3
  have HL := Lib.hid (known_len _ w3 p2 (HK.out.1.up hb3))
  have Hb3 := Lib.hid (belowTrans HK.out.2.1 hb3)
  clear hs3 hb3 kV kV3 c2 f2
  go_wp2_with ((with_reducible refine HL.out.mono ?_); rintro e w4 ⟨rfl, hb4⟩; have Hb4 := Lib.hid hb4; clear hb4)
  go_ret
  exact ⟨rfl, belowTrans Hb3.out Hb4.out⟩
end Go.Proofs.Ytnebmncjohoekaa.pat
