/- finger: Ints: the walk over a row of things. -/
import Derived.Test.YtnigadnjppeckaaFing4
import Derived.Test.YtnigadnjppeckaaGather
import Derived.Deep.AppendLies
import Derived.Deep.RegionLaw
import Derived.Deep.RegionHeld3
import Derived.Laws.EntriesVeiled
namespace Go.Proofs.Ytnigadnjppeckaa.finger
open Go.RowKit Go

def FT.dep : FT → Nat
  | .leaf _ => 1
  | .grp a b c => a.dep + b.dep + c.dep + 1
/-- v reads as a row of things -/
def DigR (W : World) (B : Nat) (v : Value) (ts : List FT) : Prop := ∃ a cap, v = .slice a ts.length cap ∧ ∀ (i : Nat) (t : FT), ts[i]? = some t → ∃ kb, ∃ (cur : Array Value) (p : Option Addr), a = some ⟨kb, 0, none⟩ ∧ W.heap[kb]? = some (.cells cur 93 (0, 0)) ∧ cur[i]? = some (Value.pointer p) ∧ Th W B p t
theorem Dig.reads {W : World} {B : Nat} {v : Value} {ts : List FT} (h : Dig W B v ts) : DigR W B v ts := by
  obtain ⟨kb, cap, cur, hv, _, _, hk, ht⟩ := h
  exact ⟨_, cap, hv, fun i t hi => by obtain ⟨p, h1, h2⟩ := ht i t hi; exact ⟨kb, cur, p, rfl, hk, h1, h2⟩⟩
theorem DigR.nil (W : World) (B : Nat) : DigR W B (.slice none 0 0) [] := ⟨none, 0, rfl, fun i t hi => by simp at hi⟩
def fW (W O : Nat) : Value := .func (.func 43) #[] #[.pointer (some ⟨O, 0, none⟩), .pointer (some ⟨W, 0, none⟩)]
abbrev St (W O base : Nat) (w0 : World) := WState (fW W O) 91 22 3 W O base w0
/-- blocks ahead of base stay, but for the box of what is gathered -/
def Kp (base O : Nat) (w w' : World) : Prop := ∀ L o, L < base → L ≠ O → w.heap[L]? = some o → w'.heap[L]? = some o
theorem Kp.refl (base O : Nat) (w : World) : Kp base O w w := fun _ _ _ _ h => h
theorem Kp.trans {base O : Nat} {w w1 w2 : World} (h : Kp base O w w1) (h' : Kp base O w1 w2) : Kp base O w w2 := fun L o h1 h2 h3 => h' L o h1 h2 (h L o h1 h2 h3)
def RetSt (W O base : Nat) (w0 w : World) (xs : List Int) (e : Ending) (w' : World) : Prop := e = .returned (.tuple #[]) ∧ St W O base w0 xs w' ∧ Kp base O w w'
theorem kp_next {O base : Nat} {w w1 : World} {xs : List Int} {v v' : Value} {o : Obj} (hown : w.ownsRow base 3 1 v xs.length (xs.map (Value.int .i64))) (hg : (w.alloc o).grownBy w1 v.ownBlock) : Kp base O w (w1.setCell ⟨O, 0, none⟩ v') := by
  intro L ob h1 h2 h3
  rw [Below.heap_setCell _ _ _ _ h2]
  exact grow_other hown hg h1 h3

theorem intsOf_take {ts : List FT} {k : Nat} {t : FT} (h : ts[k]? = some t) : intsOf (ts.take (k + 1)) = intsOf (ts.take k) ++ t.ints := by
  have hk : k < ts.length := (List.getElem?_eq_some_iff.1 h).1
  rw [List.take_succ_eq_append_getElem hk, intsOf_append]
  rw [List.getElem?_eq_getElem hk] at h
  cases h
  simp [intsOf]
theorem FT.ints_pos : ∀ t : FT, 1 ≤ t.ints.length
  | .leaf _ => Nat.le_refl _
  | .grp a b c => by have := FT.ints_pos a; simp only [FT.ints, List.length_append]; omega
theorem len_le (ts : List FT) : ts.length ≤ (intsOf ts).length := by
  induction ts with
  | nil => exact Nat.le_refl _
  | cons t ts ih => have := t.ints_pos; simp only [intsOf, List.length_append, List.length_cons]; omega
theorem intsOf_split (ts : List FT) (k : Nat) : (intsOf ts).length = (intsOf (ts.take k)).length + (intsOf (ts.drop k)).length := by
  rw [← List.length_append, ← intsOf_append, List.take_append_drop]

set_option maxRecDepth 100000 in
set_option maxHeartbeats 4000000 in
theorem walk_any (O W base B : Nat) (w0 : World) (d : Nat) : ∀ (ts : List FT) (v : Value) (w : World) (xs : List Int), (∀ t ∈ ts, t.dep ≤ d) → DigR w0 B v ts → St W O base w0 xs w → xs.length + (intsOf ts).length ≤ 17592186044416 →
    Calls Try.prog 43 #[v, .pointer (some ⟨O, 0, none⟩), .pointer (some ⟨W, 0, none⟩)] w (RetSt W O base w0 w (xs ++ intsOf ts)) := by
  induction d using Nat.strongRecOn with
  | ind d ih =>
    intro ts v w xs hd h hs hn
    obtain ⟨i0, hi, hz0, hz1, hz2⟩ := info_parts infoInt
    obtain ⟨a, cap, rfl, ht⟩ := h
    obtain ⟨n, hnl⟩ : ∃ n, n = ts.length := ⟨_, rfl⟩
    rw [← hnl]
    have hn44 : n ≤ 17592186044416 := by have := len_le ts; omega
    have HS0 : Hid (St W O base w0 (xs ++ intsOf (ts.take 0)) w ∧ Kp base O w w) := Lib.hid ⟨by simpa [intsOf] using hs, Kp.refl _ _ _⟩
    have Hnl := Lib.hid hnl
    have Ht := Lib.hid ht
    have Hd := Lib.hid hd
    have Hn := Lib.hid hn
    have Hi := Lib.hid (And.intro hi (And.intro hz0 (And.intro hz1 hz2)))
    have IH := Lib.hid ih
    clear hs ht hnl hi hz0 hz1 hz2 hn hd ih
    go_enter Try.func43, Try.ntmps43
    go_wp2_with fail
    go_loopw [5, 8] (fun _ iv wr => ∃ k : Nat, k ≤ n ∧ iv = .int .i64 k ∧ Hid (St W O base w0 (xs ++ intsOf (ts.take k)) wr ∧ Kp base O w wr)) (fun _ iv _ => n - (intOf iv).toNat)
    case atStart => exact ⟨0, Nat.zero_le _, rfl, HS0⟩
    case round =>
      obtain ⟨k, hk, rfl, HS⟩ := hrel
      by_cases hlt : k < n
      · obtain ⟨t, htk⟩ : ∃ t, ts[k]? = some t := ⟨ts[k]'(by rw [← Hnl.out]; exact hlt), List.getElem?_eq_getElem _⟩
        obtain ⟨kb, cur, p, rfl, hkb, hpc, hth⟩ := Ht.out k t htk
        obtain ⟨ys, hys⟩ : ∃ ys, ys = xs ++ intsOf (ts.take k) := ⟨_, rfl⟩
        have hs := HS.out.1
        rw [← hys] at hs
        have hlen : ys.length + t.ints.length ≤ 17592186044416 := by
          have h1 := Hn.out
          have h2 := intsOf_split ts (k + 1)
          rw [intsOf_take htk, List.length_append] at h2
          rw [hys, List.length_append]
          omega
        have hnext : xs ++ intsOf (ts.take (k + 1)) = ys ++ t.ints := by rw [intsOf_take htk, hys, List.append_assoc]
        have kp : wr.cell? ⟨kb, k, none⟩ = some (.pointer p) := by
          rw [cell_of_row wr kb k cur _ _ (upb hs.bel hkb)]
          exact hpc
        have kW := cell_of_one hs.cW
        unfold fW at kW
        have hk0 : (0 : Int) ≤ (k : Int) := by omega
        have hk1 : (k : Int) < (n : Int) := by omega
        have hdt := Hd.out t (List.mem_of_getElem? htk)
        have HN := Lib.hid hnext
        have HK := Lib.hid HS.out.2
        clear hnext hpc hkb htk hys HS HS0
        cases t with
        | leaf x => as_aux_lemma =>
          obtain ⟨b, s, l, m, z, rfl, _, hc⟩ := hth
          obtain ⟨_, _, _, _, _, c5, c6⟩ := seven_cells (upb hs.bel hc)
          have hnil : ∀ W, (binOp .eql 92 (.slice none 0 0) (.slice none 0 0)).run Try.prog W = .ok (.bool true) W := fun W => Lib.run_eql_slice_nil W 92 93 none 0 0 0 0 Try.underlying92
          obtain ⟨v, hv, hown⟩ := hs.cO
          have kO := cell_of_one hv
          have lO : O < wr.heap.size := Nat.lt_of_lt_of_le hs.hOb hs.hb
          have lB : base ≤ wr.heap.size := hs.hb
          have l4 : ys.length + 1 ≤ 17592186044416 := by simpa [FT.ints] using hlen
          have Hc := Lib.hid hc
          have Hs := Lib.hid hs
          have Hv := Lib.hid hv
          have Ho := Lib.hid hown
          have Hdt := Lib.hid hdt
          clear hs hv hown hlen hc hdt
          go_wp2_with fail
          go_region_law ((obtain ⟨hi, hz0, hz1, hz2⟩ := Hi.out; refine step_append_lies _ rfl (.tmp 17) (.tmp 22) 22 rfl base 3 i0 (.int .i64 0) 1 8 Try.underlying22 hi hz0 hz1 hz2 rfl (by decide) v ys.length (ys.map (Value.int .i64)) rfl (by exact (Ho.out.alloc _).drew) ⟨wr.heap.size, 0, none⟩ 1 1 [.int .i64 x] rfl rfl (World.news_of_block (cs := #[.int .i64 x]) (t := 3) (fr := (0, 0)) (heap_alloc_new _ _)) (by simp [Value.oneCell']) (by omega) (by unfold maxLen; omega) (by omega) (by simp; omega) (wr.heap.size + 1) (by simp) ?_; intro g cap2 w2 hown2 hgrow hat hlt2; clear hi hz0 hz1 hz2 hat hlt2; have hg2 : (wr.alloc (.cells #[.int .i64 x] 3)).grownBy w2 v.ownBlock := ⟨hgrow.os, hgrow.tape, hgrow.output, hgrow.size, hgrow.block⟩; have hO2 := grow_other Ho.out hg2 Hs.out.hOb Hv.out; have kO2 := cell_of_one hO2; have fO2 := free_of_one hO2; have Hm := Lib.hid (And.intro (WState.next Hs.out Hv.out Ho.out hown2 hg2) (kp_next (O := O) (v' := .slice (some ⟨g, 0, none⟩) (ys.length + 1) cap2) Ho.out hg2)); clear hown2 hgrow hg2 hO2))
          all_goals
            clear kO2 fO2 kO kW kp c5 c6
            obtain ⟨w3, hw3⟩ : ∃ w3, w3 = w2.setCell ⟨O, 0, none⟩ (.slice (some ⟨g, 0, none⟩) (ys.length + 1) cap2) := ⟨_, rfl⟩
            rw [← hw3] at Hm ⊢
            clear hw3
            have hs3 := Hm.out.1
            have kW := cell_of_one hs3.cW
            unfold fW at kW
            obtain ⟨_, _, _, _, _, _, c6⟩ := seven_cells (upb hs3.bel Hc.out)
            have HC := Lib.hid (fun q => IH.out (d - 1) (by have := Hdt.out; simp only [FT.dep] at this; omega) [] (.slice none 0 0) (w3.drewN q) (ys ++ [x]) (by simp) (DigR.nil _ _) (hs3.drewN q) (by simp [intsOf]; omega))
            clear hs3
            go_wp2_with fail
            go_region_held3 (fun w' => w'.cell? ⟨W, 0, none⟩ = some (.func (.func 43) #[] #[.pointer (some ⟨O, 0, none⟩), .pointer (some ⟨W, 0, none⟩)]) ∧ w'.cell? ⟨b, 6, none⟩ = some (.slice none 0 0)) (go_keep)
              (first | (go_at_call 43; refine (HC.out 1).mono ?_; rintro e w4 ⟨rfl, hs4, hk4⟩; have kW4 := cell_of_one hs4.cW; unfold fW at kW4; have c64 := (seven_cells (upb hs4.bel Hc.out)).2.2.2.2.2.2))
            have HF : Hid (St W O base w0 (xs ++ intsOf (ts.take (k + 1))) w4 ∧ Kp base O w w4) := Lib.hid ⟨by rw [HN.out]; simpa [intsOf, FT.ints] using hs4, (HK.out.trans Hm.out.2).trans (fun L o h1 h2 h3 => hk4 L o h1 h2 h3)⟩
            clear hs4 hk4
            go_wp2_with fail
            exact ⟨⟨k + 1, hlt, by go_num, HF⟩, by simp [intOf]; omega⟩
        | grp t1 t2 t3 => as_aux_lemma =>
          obtain ⟨b, n1, s, l, m, z, x, gb, gcap, gcur, p1, p2, p3, rfl, _, hc, _, hgc, e1, e2, e3, h1, h2, h3⟩ := hth
          obtain ⟨_, _, _, _, _, c5, c6⟩ := seven_cells (upb hs.bel hc)
          have hnil : ∀ W, (binOp .eql 92 (.slice (some ⟨gb, 0, none⟩) 3 gcap) (.slice none 0 0)).run Try.prog W = .ok (.bool false) W := fun W => Lib.run_eql_slice_nil W 92 93 (some ⟨gb, 0, none⟩) 3 gcap 0 0 Try.underlying92
          have hD : DigR w0 B (.slice (some ⟨gb, 0, none⟩) 3 gcap) [t1, t2, t3] := ⟨_, gcap, rfl, fun i t hi => by
            match i, hi with
            | 0, hi => cases hi; exact ⟨gb, gcur, p1, rfl, hgc, e1, h1⟩
            | 1, hi => cases hi; exact ⟨gb, gcur, p2, rfl, hgc, e2, h2⟩
            | 2, hi => cases hi; exact ⟨gb, gcur, p3, rfl, hgc, e3, h3⟩⟩
          have HC := Lib.hid (fun q => IH.out (d - 1) (by simp only [FT.dep] at hdt; omega) [t1, t2, t3] (.slice (some ⟨gb, 0, none⟩) 3 gcap) (wr.drewN q) ys (by intro t ht; simp only [FT.dep] at hdt; simp only [List.mem_cons, List.not_mem_nil, or_false] at ht; rcases ht with rfl | rfl | rfl <;> omega) hD (hs.drewN q) (by simpa [intsOf, FT.ints] using hlen))
          have Hc := Lib.hid hc
          clear hc hgc e1 e2 e3 h1 h2 h3 hD hs hdt
          go_wp2_with fail
          go_region_held3 (fun w' => w'.cell? ⟨W, 0, none⟩ = some (.func (.func 43) #[] #[.pointer (some ⟨O, 0, none⟩), .pointer (some ⟨W, 0, none⟩)]) ∧ w'.cell? ⟨b, 6, none⟩ = some (.slice (some ⟨gb, 0, none⟩) 3 gcap)) (go_keep)
            (first | (go_at_call 43; refine (HC.out 1).mono ?_; rintro e w4 ⟨rfl, hs4, hk4⟩; have kW4 := cell_of_one hs4.cW; unfold fW at kW4; have c64 := (seven_cells (upb hs4.bel Hc.out)).2.2.2.2.2.2))
          have HF : Hid (St W O base w0 (xs ++ intsOf (ts.take (k + 1))) w4 ∧ Kp base O w w4) := Lib.hid ⟨by rw [HN.out]; simpa [intsOf, FT.ints] using hs4, HK.out.trans (fun L o h1 h2 h3 => hk4 L o h1 h2 h3)⟩
          clear hs4 hk4
          go_wp2_with fail
          exact ⟨⟨k + 1, hlt, by go_num, HF⟩, by simp [intOf]; omega⟩
      · obtain rfl : n = k := by omega
        have htk : ts.take n = ts := List.take_of_length_le (by rw [Hnl.out]; exact Nat.le_refl _)
        rw [htk] at HS
        clear HS0 htk
        go_wp2_with fail
        go_end0
        exact ⟨rfl, HS.out.1, HS.out.2⟩
end Go.Proofs.Ytnigadnjppeckaa.finger
