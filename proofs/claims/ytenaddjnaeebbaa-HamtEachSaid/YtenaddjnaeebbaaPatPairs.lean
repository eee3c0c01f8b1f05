/- Package pat: Pairs tells all, by rising keys. -/
import Derived.Test.YtenaddjnaeebbaaPatMap
import Derived.Test.YtenaddjnaeebbaaGatherP
import Derived.Deep.AppendLies
import Derived.Deep.RegionLaw
import Derived.Laws.EntriesVeiled
namespace Go.Proofs.Ytenaddjnaeebbaa.pat
open Go.RowKit

/-- what is told of keys -/
def back (p : Nat × Int) : Int × Int := ((p.1 : Int) - 9223372036854775808, p.2)
def told (o : Option PT) : List (Int × Int) := (olist o).map back
theorem told_some (t : PT) : told (some t) = t.list.map back := rfl
theorem olist_length (o : Option PT) : (olist o).length = ocnt o := by
  cases o with
  | none => rfl
  | some t => exact cnt_eq t
theorem told_length (o : Option PT) : (told o).length = ocnt o := by rw [told, List.length_map, olist_length]

def fWp (W O : Nat) : Value := .func (.func 44) #[] #[.pointer (some ⟨O, 0, none⟩), .pointer (some ⟨W, 0, none⟩)]
abbrev St (W O base : Nat) (w0 : World) := WStateP (fWp W O) 69 28 31 W O base w0
def RetSt (W O base : Nat) (w0 : World) (xs : List (Int × Int)) (e : Ending) (w' : World) : Prop := e = .returned (.tuple #[]) ∧ St W O base w0 xs w'

set_option maxHeartbeats 4000000 in
theorem walk_nil (W O base : Nat) (w0 w : World) (xs : List (Int × Int)) (hs : St W O base w0 xs w) :
    Calls Try.prog 44 #[.pointer none, .pointer (some ⟨O, 0, none⟩), .pointer (some ⟨W, 0, none⟩)] w (RetSt W O base w0 xs) := by
  have Hs := Lib.hid hs
  clear hs
  go_enter Try.func44, Try.ntmps44
  go_wp2_with fail
  go_end0
  exact ⟨rfl, Hs.out⟩

set_option maxRecDepth 100000 in
set_option maxHeartbeats 4000000 in
theorem walk_any (W O base B : Nat) (w0 : World) (t : PT) : ∀ (b : Nat) (w : World) (xs : List (Int × Int)), HP B w0 b t → Ok t → St W O base w0 xs w → xs.length + t.cnt ≤ 8796093022208 →
    Calls Try.prog 44 #[.pointer (some ⟨b, 0, none⟩), .pointer (some ⟨O, 0, none⟩), .pointer (some ⟨W, 0, none⟩)] w (RetSt W O base w0 (xs ++ t.list.map back)) := by
  induction t with
  | leaf k x =>
    intro b w xs h hok hs hn
    obtain ⟨i0, hi, hz0, hz1, hz2⟩ := info_parts infoP
    obtain ⟨k0, k1, k2, _, _, _⟩ := cells6 (upb hs.bel h.2)
    have hbk := back_eq (x := k) hok
    obtain ⟨X, hX⟩ : ∃ X, X = bits .xor .u64 (k : Int) 9223372036854775808 := ⟨_, rfl⟩
    obtain ⟨K, hK⟩ : ∃ K : Int, K = (k : Int) - 9223372036854775808 := ⟨_, rfl⟩
    rw [← hX, ← hK] at hbk
    have hX' := hX.symm
    have hn1 : xs.length + 1 ≤ 8796093022208 := hn
    obtain ⟨v, hv, hown⟩ := hs.cO
    have kO := cell_of_one hv
    have lO : O < w.heap.size := Nat.lt_of_lt_of_le hs.hOb hs.hb
    have lB : base ≤ w.heap.size := hs.hb
    have Hs := Lib.hid hs
    have Hv := Lib.hid hv
    have Ho := Lib.hid hown
    have HK := Lib.hid hK
    have Hi := Lib.hid (And.intro hi (And.intro hz0 (And.intro hz1 hz2)))
    clear hs hi hz0 hz1 hz2 hn hv hown h hok hX hK
    go_enter Try.func44, Try.ntmps44
    go_wp2_with fail
    go_region_law ((obtain ⟨hi, hz0, hz1, hz2⟩ := Hi.out; refine step_append_lies _ rfl (.tmp 25) (.tmp 37) 28 rfl base 31 i0 (.agg #[.int .i64 0, .int .i64 0]) 2 16 Try.underlying28 hi hz0 hz1 hz2 rfl (by decide) v xs.length (cellsP xs) rfl (by exact (Ho.out.alloc _).drew) ⟨w.heap.size, 0, none⟩ 1 1 [.int .i64 K, .int .i64 x] rfl rfl (World.news_of_block (cs := #[.int .i64 K, .int .i64 x]) (t := 31) (fr := (0, 0)) (heap_alloc_new _ _)) (by simp [Value.oneCell']) (by omega) (by unfold maxLen; omega) (by omega) (by simp; omega) (w.heap.size + 1) (by simp) ?_; intro g cap w2 hown2 hgrow hat hlt; clear hi hz0 hz1 hz2 hat hlt; have hg2 : (w.alloc (.cells #[.int .i64 K, .int .i64 x] 31)).grownBy w2 v.ownBlock := ⟨hgrow.os, hgrow.tape, hgrow.output, hgrow.size, hgrow.block⟩; have hO2 := grow_otherP Ho.out hg2 Hs.out.hOb Hv.out; have kO2 := cell_of_one hO2; have fO2 := free_of_one hO2; have Hn := Lib.hid (WStateP.next (x := (K, x)) Hs.out Hv.out Ho.out hown2 hg2); clear hown2 hgrow hg2 hO2))
    all_goals
      go_wp2_with fail
      go_end0
      refine ⟨rfl, ?_⟩
      have e : (PT.leaf k x).list.map back = [(K, x)] := by rw [HK.out]; rfl
      rw [e]
      exact Hn.out
  | node key n l r ihl ihr =>
    intro b w xs h hok hs hn
    obtain ⟨_, bl, br, hb, hl, hr⟩ := h
    obtain ⟨_, _, okl, okr, _, _⟩ := hok
    have hlr : xs.length + l.cnt + r.cnt ≤ 8796093022208 := by simp only [PT.cnt] at hn; omega
    have hM0 : 0 < 2 ^ n := Nat.two_pow_pos n
    obtain ⟨M, hM⟩ : ∃ M, M = 2 ^ n := ⟨_, rfl⟩
    rw [← hM] at hb hM0
    have hMne : ((M : Int) == 0) = false := by simp; omega
    obtain ⟨_, k1, _, _, k4, k5⟩ := cells6 (upb hs.bel hb)
    have kW := cell_of_one hs.cW
    unfold fWp at kW
    have Hs := Lib.hid hs
    have Hb := Lib.hid hb
    have HL := Lib.hid (fun W' h => ihl bl W' xs hl okl h (by omega))
    have HR := Lib.hid (fun W' h => ihr br W' (xs ++ l.list.map back) hr okr h (by rw [List.length_append, List.length_map, cnt_eq]; omega))
    clear hs hb hn hM hl hr okl okr ihl ihr
    go_enter Try.func44, Try.ntmps44
    go_wp2_with fail
    go_region_held3 (fun w' => w'.cell? ⟨W, 0, none⟩ = some (.func (.func 44) #[] #[.pointer (some ⟨O, 0, none⟩), .pointer (some ⟨W, 0, none⟩)]) ∧ w'.cell? ⟨b, 4, none⟩ = some (.pointer (some ⟨bl, 0, none⟩))) (first | exact ⟨kW2, k42⟩ | go_keep)
      (first | (go_at_call 44; refine (HL.out _ (by exact Hs.out.drewN 1)).mono ?_; rintro e w2 ⟨rfl, hs2⟩; have kW2 := cell_of_one hs2.cW; unfold fWp at kW2; have hc2 := cells6 (upb hs2.bel Hb.out); have k42 := hc2.2.2.2.2.1; have k52 := hc2.2.2.2.2.2; clear hc2))
    have Hs2 := Lib.hid hs2
    clear hs2 kW k1 k4 k5 k42
    go_wp2_with fail
    go_region_held3 (fun w' => w'.cell? ⟨W, 0, none⟩ = some (.func (.func 44) #[] #[.pointer (some ⟨O, 0, none⟩), .pointer (some ⟨W, 0, none⟩)]) ∧ w'.cell? ⟨b, 5, none⟩ = some (.pointer (some ⟨br, 0, none⟩))) (first | exact ⟨kW3, k53⟩ | go_keep)
      (first | (go_at_call 44; refine (HR.out _ (by exact Hs2.out.drewN 1)).mono ?_; rintro e w3 ⟨rfl, hs3⟩; have kW3 := cell_of_one hs3.cW; unfold fWp at kW3; have hc3 := cells6 (upb hs3.bel Hb.out); have k53 := hc3.2.2.2.2.2; clear hc3))
    have Hs3 := Lib.hid hs3
    clear hs3 kW2 k52 k53 kW3
    go_wp2_with fail
    go_end0
    refine ⟨rfl, ?_⟩
    have e : (PT.node key n l r).list.map back = l.list.map back ++ r.list.map back := by simp [PT.list]
    rw [e, ← List.append_assoc]
    exact Hs3.out

set_option maxHeartbeats 1000000 in
theorem pairs_any (B : Nat) (w : World) (p : Option Addr) (o : Option PT) (h : HO B w p o) (ho : OOk o) (hn : ocnt o ≤ 8796093022208) :
    Calls Try.prog 26 #[.agg #[.pointer p]] w (RetPs w (told o)) := by
  have hw : Calls Try.prog 44 #[.pointer p, .pointer (some ⟨w.heap.size + 1, 0, none⟩), .pointer (some ⟨w.heap.size + 1 + 1, 0, none⟩)] (((w.alloc (.cells #[.pointer p] 49)).alloc (.cells #[.slice none 0 0] 28)).alloc (.cells #[fWp (w.heap.size + 1 + 1) (w.heap.size + 1)] 69))
      (RetSt (w.heap.size + 1 + 1) (w.heap.size + 1) (w.heap.size + 3) w (told o)) := by
    have hst := WStateP.start w (.cells #[.pointer p] 49) (fWp (w.heap.size + 1 + 1) (w.heap.size + 1)) 69 28 31
    cases o with
    | none => obtain rfl : p = none := h; exact walk_nil _ _ _ w _ [] hst
    | some t =>
      obtain ⟨b, rfl, h⟩ := h
      have := walk_any (w.heap.size + 1 + 1) (w.heap.size + 1) (w.heap.size + 3) B w t b _ [] h ho hst (by simpa [ocnt] using hn)
      simpa [told_some] using this
  unfold fWp at hw
  have Hw := Lib.hid hw
  clear hw
  go_enter Try.func26, Try.ntmps26
  go_wp2_with fail
  refine Hw.out.mono ?_
  rintro e w1 ⟨rfl, hs⟩
  obtain ⟨v, kO, ho⟩ := hs.done
  have Ho := Lib.hid ho
  have hB := hs.bel
  clear hs ho
  go_wp2_with fail
  go_ret
  exact RetPs.mk Ho.out hB
end Go.Proofs.Ytenaddjnaeebbaa.pat
