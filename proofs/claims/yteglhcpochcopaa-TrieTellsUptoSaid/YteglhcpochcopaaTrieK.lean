/- 'worded' is true: a trie of two words tells them; R.Starts. -/
import Derived.Test.YteglhcpochcopaaTrieL
namespace Go.Proofs.Yteglhcpochcopaa.trie
open Go.RowKit

theorem cnt_put_eq (t : TT) (s : Wd) (x : Int) : cnt (put t s x) = cnt t + (if (get t s).isSome then 0 else 1) := by
  induction s generalizing t with
  | nil =>
    unfold put
    rw [cnt_mk]
    cases t with
    | nil =>
      rw [cnt_node, sum_zero fun c _ => by simp]
      simp
    | node v k =>
      rw [cnt_node, cnt_node]
      cases v <;> simp [TT.kid] <;> omega
  | cons c s ih =>
    unfold put
    rw [cnt_mk]
    have h1 := cnt_upd t.val t.kid c (put (t.kid c) s x)
    have h2 := ih (t.kid c)
    have h3 := none_le t
    rw [get_cons]
    omega
theorem cnt_drop_eq (t : TT) (s : Wd) : cnt (drop t s) + (if (get t s).isSome then 1 else 0) = cnt t := by
  induction s generalizing t with
  | nil =>
    cases t with
    | nil => simp [drop]
    | node v k =>
      unfold drop
      rw [cnt_mk, cnt_node, cnt_node]
      cases v <;> simp <;> omega
  | cons c s ih =>
    cases t with
    | nil => simp [drop, get_nil]
    | node v k =>
      rw [get_cons, kid_node]
      unfold drop
      cases hk : k c with
      | nil => simp [get_nil]
      | node v' k' =>
        simp only
        rw [cnt_mk]
        have h1 := cnt_upd v k c (drop (.node v' k') s)
        have h2 := ih (.node v' k')
        rw [hk] at h1
        omega

/-- what a law that holds leaves -/
def Yes (w : World) (e : Ending) (w' : World) : Prop := e = .returned (.bool true) ∧ Below w.heap.size w w'
def known : TT := put (put .nil [97, 98] 5) [98] 3
theorem known_get : get known [97, 98] = some 5 := by
  unfold known
  rw [get_put, if_neg (by decide), get_put, if_pos rfl]
theorem known_cnt : cnt known = 2 := by
  unfold known
  rw [cnt_put_eq, cnt_put_eq, get_nil, get_put, if_neg (by decide), get_nil, cnt_nil]
  rfl
set_option maxHeartbeats 4000000 in
theorem worded_any (w : World) : Calls Try.prog 8 #[] w (Yes w) := by
  have HP1 := Lib.hid (fun W => Put_any W none .nil [97, 98] 5 rfl (by rw [cnt_nil]; decide))
  have HP2 := Lib.hid (fun W p h => Put_any W p (put .nil [97, 98] 5) [98] 3 h (by rw [cnt_put_eq, get_nil, cnt_nil]; decide))
  have HG := Lib.hid (fun W p h => Get_any W p known [97, 98] h (some 5) known_get)
  have HL := Lib.hid (fun W p h => Len_any W p known h)
  rw [known_cnt] at HL
  have hn := heap_alloc_new w (.cells #[.pointer none] 26)
  have Hn := Lib.hid hn
  clear hn
  go_enter Try.func8, Try.ntmps8
  go_wp2_with fail
  refine (HP1.out _).mono ?_
  rintro e w1 ⟨p1, rfl, hp1, hb1⟩
  have H1 := Lib.hid (And.intro hp1 hb1)
  clear hp1 hb1
  go_wp2_with fail
  refine (HP2.out _ _ H1.out.1).mono ?_
  rintro e w2 ⟨p2, rfl, hp2, hb2⟩
  have hn2 := upb (belowTrans H1.out.2 hb2) Hn.out
  have c2 := cell_of_one hn2
  have f2 := free_of_one hn2
  have hset := one_setCell (u := .pointer p2) hn2
  have hbel : Below w.heap.size w (w2.setCell ⟨w.heap.size, 0, none⟩ (.pointer p2)) := belowSet (a := ⟨w.heap.size, 0, none⟩) (belowTrans (belowAlloc w _) (belowTrans H1.out.2 hb2)) (Nat.le_refl _) _
  have hk := In.store (k := w.heap.size) (off := 0) (u := .pointer p2) hn2 (by decide) hp2
  obtain ⟨V, hV⟩ : ∃ V, V = w2.setCell ⟨w.heap.size, 0, none⟩ (.pointer p2) := ⟨_, rfl⟩
  have kV3 := cell_of_one hset
  rw [← hV] at hset hbel hk
  have kV := cell_of_one hset
  have HV := Lib.hid hV
  have HK := Lib.hid (And.intro hk (And.intro hbel hset))
  clear hn2 hset hbel hk hV hp2 hb2
  go_wp2_with fail
  rw [← HV.out]
  refine (HG.out _ _ HK.out.1).mono ?_
  rintro e w3 ⟨rfl, hb3⟩
  have hs3 := upb hb3 HK.out.2.2
  have k3 := cell_of_one hs3
  have HLn := Lib.hid (HL.out w3 p2 (HK.out.1.up hb3))
  have HB3 := Lib.hid (belowTrans HK.out.2.1 hb3)
  clear hb3 hs3 HG HL
  go_wp2_with fail
  refine HLn.out.mono ?_
  rintro e w4 ⟨rfl, hb4⟩
  have HB4 := Lib.hid (belowTrans HB3.out hb4)
  clear hb4 HLn
  go_wp2_with fail
  go_ret
  exact ⟨rfl, HB4.out⟩

/-- does a text begin so -/
def startsB (s u : Wd) : Bool := decide (u.length ≤ s.length) && s.take u.length == u
set_option maxHeartbeats 4000000 in
theorem Starts_any (w : World) (s u : Wd) : Calls Try.prog 11 #[sv s, sv u] w fun e w' => e = .returned (.bool (startsB s u)) ∧ w = w' := by
  have hl1 := fun ty W => sv_len s ty W
  have hl2 := fun ty W => sv_len u ty W
  obtain ⟨n, hn⟩ : ∃ n, n = s.length := ⟨_, rfl⟩
  obtain ⟨m, hm⟩ : ∃ m, m = u.length := ⟨_, rfl⟩
  have htk := fun (h : m ≤ n) W => sv_take s m (by omega) W
  have he := sv_eql (s.take m) u
  have hgd := fun x y => sv_guard .eql 9 x y (s.take m) (bw u)
  simp only [← sv_bw] at hgd
  have hS : startsB s u = (decide (m ≤ n) && (s.take m == u)) := by rw [hn, hm]; rfl
  rw [hS]
  obtain ⟨bq, hbq⟩ : ∃ bq, bq = (s.take m == u) := ⟨_, rfl⟩
  rw [← hbq] at he ⊢
  obtain ⟨xs, hxs⟩ : ∃ xs, xs = sv s := ⟨_, rfl⟩
  obtain ⟨ys, hys⟩ : ∃ ys, ys = sv u := ⟨_, rfl⟩
  obtain ⟨zs, hzs⟩ : ∃ zs, zs = sv (s.take m) := ⟨_, rfl⟩
  simp only [← hxs, ← hys, ← hzs, ← hn, ← hm] at hl1 hl2 htk he hgd ⊢
  clear hxs hys hzs hbq hS hn hm
  by_cases h : m ≤ n
  · have ht := htk h
    have hc : (m : Int) ≤ (n : Int) := by omega
    have hd : decide (m ≤ n) = true := decide_eq_true h
    rw [hd]
    clear htk hd h
    go_enter Try.func11, Try.ntmps11
    go_wp2_with fail
    go_ret
    exact ⟨rfl, rfl⟩
  · have hc : ¬ (m : Int) ≤ (n : Int) := by omega
    have hd : decide (m ≤ n) = false := decide_eq_false h
    rw [hd]
    clear htk hd h
    go_enter Try.func11, Try.ntmps11
    go_wp2_with fail
    go_ret
    exact ⟨rfl, rfl⟩
end Go.Proofs.Yteglhcpochcopaa.trie
