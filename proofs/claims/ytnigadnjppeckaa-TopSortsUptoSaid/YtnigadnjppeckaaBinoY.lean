/- Package bino: Pop of the empty heap; Ints. -/
import Derived.Test.YtnigadnjppeckaaBinoWs
import Derived.Test.YtnigadnjppeckaaKeepT
import Derived.Deep.LoopGhost
import Derived.RangeFuncBox
namespace Go.Proofs.Ytnigadnjppeckaa.bino
open Go.RowKit

theorem flen_nil {f : F} (h : flen f = 0) : f = .nil := by
  cases f with
  | nil => rfl
  | node a k s => simp [flen] at h
set_option maxRecDepth 100000 in
set_option maxHeartbeats 1000000 in
theorem Pop_nil (w : World) (a : Option Addr) (c : Nat) :
    Calls Try.prog 63 #[.agg #[.slice a 0 c]] w fun e w' => e = .returned (.tuple #[.int .i64 0, .agg #[.slice none 0 0], .bool false]) ∧ Below w.heap.size w w' := by
  have h1 := heapNew2 w (.cells #[.slice a 0 c] 75) (.cells #[.slice none 0 0] 75)
  have Hb := Lib.hid (belowTrans (belowAlloc w (.cells #[.slice a 0 c] 75)) (belowAlloc _ (.cells #[.slice none 0 0] 75)))
  have H1 := Lib.hid h1
  clear h1
  go_enter Try.func63, Try.ntmps63
  go_wp2_with fail
  have hr1 := one_setCell (u := .slice none 0 0) H1.out
  have e1 := cell_of_one hr1
  first
  | exact bodyPost_ret (v := .tuple #[.int .i64 0, .agg #[.slice none 0 0], .bool false]) (by simp [results, Try.results63, go_sem, e1]) rfl ⟨rfl, Hb.out.setCell (p := ⟨w.heap.size + 1, 0, none⟩) (Nat.le_succ _) _⟩
  | exact bodyPost_ret (v := .tuple #[.int .i64 0, .agg #[.slice none 0 0], .bool false]) (by simp [results, Try.results63, go_sem]) rfl ⟨rfl, Hb.out⟩

def PopC (f : F) (x : Int) (fr : F) : Prop := ∀ (B : Nat) (w : World) (a : Option Addr) (n c : Nat), B ≤ w.heap.size → HeapR B w (.slice a n c) f →
    Calls Try.prog 63 #[.agg #[.slice a n c]] w fun e w' => ∃ a' n' c', e = .returned (.tuple #[.int .i64 x, .agg #[.slice a' n' c'], .bool true]) ∧ HeapR B w' (.slice a' n' c') fr ∧ Below w.heap.size w w'
/-- what goes out of a heap, one behind the other -/
def Chain : List Int → F → Prop
  | [], f => f = .nil
  | x :: xs, f => ∃ fr, PopC f x fr ∧ Chain xs fr
theorem chain_of (m : Nat) : ∀ f : F, f.size = m → m ≤ 17592186043950 → ∃ xs, xs.length = m ∧ ((∀ z, xs.count z = cF z f) ∧ (HF f → xs.Pairwise (· ≤ ·))) ∧ Chain xs f := by
  induction m with
  | zero =>
    intro f hf _
    cases f with
    | nil => exact ⟨[], rfl, ⟨fun _ => rfl, fun _ => List.Pairwise.nil⟩, rfl⟩
    | node a k s => simp only [BT.size] at hf; omega
  | succ m ih =>
    intro f hf hm
    have h0 : 0 < flen f := by
      cases f with
      | nil => simp [BT.size] at hf
      | node a k s => simp [flen]
    obtain ⟨x, fr, ⟨h1, hO⟩, h2⟩ := Pop_some f h0 (by omega)
    obtain ⟨xs, h3, ⟨hc, hp⟩, h4⟩ := ih fr (by omega) (by omega)
    refine ⟨x :: xs, by simp [h3], ⟨fun z => ?_, fun hf => ?_⟩, fr, h2, h4⟩
    · rw [List.count_cons, hc, ← hO.1 z]
      simp only [beq_iff_eq]
    · refine List.pairwise_cons.2 ⟨fun y hy => (hO.2 hf).2 y ?_, hp (hO.2 hf).1⟩
      have h5 := List.count_pos_iff.2 hy
      rw [hc] at h5
      have h6 := hO.1 y
      omega
theorem Pop_chain {xs : List Int} {f : F} (h : Chain xs f) (B : Nat) (w : World) (a : Option Addr) (n c : Nat) (hB : B ≤ w.heap.size) (hH : HeapR B w (.slice a n c) f) :
    Calls Try.prog 63 #[.agg #[.slice a n c]] w fun e w' => ∃ x a' n' c' hs fr, e = .returned (.tuple #[.int .i64 x, .agg #[.slice a' n' c'], .bool hs]) ∧ HeapR B w' (.slice a' n' c') fr ∧ Below w.heap.size w w' ∧ ((hs = true ∧ ∃ rest, xs = x :: rest ∧ Chain rest fr) ∨ (hs = false ∧ xs = [])) := by
  cases xs with
  | nil =>
    obtain rfl : f = .nil := h
    obtain ⟨ps, ⟨a', c', hv, _⟩, hfo⟩ := hH
    obtain rfl : ps = [] := hfo
    injection hv with e1 e2 e3
    subst e1 e3
    rw [e2]
    refine (Pop_nil w _ _).mono ?_
    rintro e w' ⟨rfl, hb⟩
    exact ⟨0, none, 0, 0, false, .nil, rfl, ⟨[], ⟨none, 0, rfl, ⟨fun _ => rfl, Nat.le_refl _⟩, .inl rfl⟩, rfl⟩, hb, .inr ⟨rfl, rfl⟩⟩
  | cons x xs =>
    obtain ⟨fr, h1, h2⟩ := h
    refine (h1 B w a n c hB hH).mono ?_
    rintro e w' ⟨a', n', c', rfl, g1, g2⟩
    exact ⟨x, a', n', c', true, fr, rfl, g1, g2, .inl ⟨rfl, xs, rfl, h2⟩⟩
theorem RowR.keep {T : List Nat} {B : Nat} {W W' : World} {v : Value} {ps : List (Option Addr)} (h : RowR B W v ps) (hk : KeepT T W W') (ht : 168 ∉ T) : RowR B W' v ps := by
  obtain ⟨a, c, h1, h2, h3⟩ := h
  refine ⟨a, c, h1, h2, ?_⟩
  rcases h3 with h3 | ⟨b, o, h4, ⟨h5, cs, fz, h6⟩, h7⟩
  · exact .inl h3
  · refine .inr ⟨b, o, h4, ⟨h5, cs, fz, hk _ _ _ _ h6 ht⟩, fun i hi => ?_⟩
    have h8 := h7 i hi
    unfold World.cell? at h8 ⊢
    rw [h6] at h8
    rw [hk _ _ _ _ h6 ht]
    exact h8
theorem Fo.keep {T : List Nat} {B : Nat} {W W' : World} (hk : KeepT T W W') (ht : 168 ∉ T) (ht2 : 170 ∉ T) : ∀ {f : F} {ps : List (Option Addr)}, Fo B W ps f → Fo B W' ps f
  | .nil, _, h => h
  | .node _ _ _, _, ⟨b, rest, v, kps, h1, h2, h3, h4, h5, h6⟩ => ⟨b, rest, v, kps, h1, h2, hk _ _ _ _ h3 ht2, h4.keep hk ht, Fo.keep hk ht ht2 h5, Fo.keep hk ht ht2 h6⟩
end Go.Proofs.Ytnigadnjppeckaa.bino
/- Package bino: Ints. -/
namespace Go.Proofs.Ytnigadnjppeckaa.bino
open Go.RowKit

def lenV : Value → Nat
  | .slice _ n _ => n
  | _ => 0
structure IS (B : Nat) (w : World) (xs dn : List Int) (ov : Value) (x : Int) (bg : Nat) (hs : Bool) (a : Option Addr) (n c : Nat) (fr : F) (W : World) : Prop where
  own : OwnI 3 W w.heap.size ov dn
  bel : Below w.heap.size w W
  hbg : w.heap.size ≤ bg
  box : W.heap[bg]? = some (.cells #[.slice a n c] 75 (0, 0))
  hp : HeapR B W (.slice a n c) fr
  st : (hs = true ∧ ∃ rest, xs = dn ++ x :: rest ∧ Chain rest fr) ∨ (hs = false ∧ xs = dn)

set_option maxRecDepth 100000 in
set_option maxHeartbeats 8000000 in
theorem ints_xs (f : F) (xs : List Int) (hx : Chain xs f) (hl : xs.length ≤ 17592186043950) (B : Nat) (w : World) (a : Option Addr) (n c : Nat) (hB : B ≤ w.heap.size) (hH : HeapR B w (.slice a n c) f) :
    Calls Try.prog 32 #[.agg #[.slice a n c]] w (RetI 3 w xs) := by
  obtain ⟨i0, hi, hz0, hz1, hz2⟩ := info_parts infoInt
  have Hi := Lib.hid (And.intro hi (And.intro hz0 (And.intro hz1 hz2)))
  have hb0 := belowAlloc w (.cells #[.slice a n c] 75)
  have HP := Lib.hid (Pop_chain hx B _ a n c (Nat.le_trans hB hb0.size) (hH.up hb0))
  have Hb0 := Lib.hid hb0
  have HB := Lib.hid hB
  have kb := cell_of_one (heap_alloc_new w (.cells #[.slice a n c] 75))
  clear hi hz0 hz1 hz2 hb0 hx hH hB
  go_enter Try.func32, Try.ntmps32
  go_wp2_with fail
  refine HP.out.mono ?_
  rintro e w1 ⟨x1, a1, n1, c1, hs1, fr1, rfl, hh1, hb1, hst1⟩
  have hbA := belowAlloc w1 (.cells #[.slice a1 n1 c1] 75)
  have HI : Hid (IS B w xs [] (.slice none 0 0) x1 w1.heap.size hs1 a1 n1 c1 fr1 (w1.alloc (.cells #[.slice a1 n1 c1] 75))) := Lib.hid ⟨World.ownsRow_nil _ _ _ _, belowTrans (belowTrans Hb0.out hb1) hbA, Nat.le_trans Hb0.out.size hb1.size, heap_alloc_new _ _, hh1.up hbA, by simpa using hst1⟩
  clear hh1 hb1 hst1 hbA HP kb
  go_wp2_with fail
  go_loopw [3, 4, 5, 6] (fun ov xv pv hv wr => ∃ (ow : Value) (x : Int) (bg : Nat) (hs : Bool) (dn : List Int) (a : Option Addr) (n c : Nat) (fr : F), ow = ov ∧ xv = .int .i64 x ∧ pv = .pointer (some ⟨bg, 0, none⟩) ∧ hv = .bool hs ∧ Hid (IS B w xs dn ow x bg hs a n c fr wr)) (fun ov _ _ _ _ => xs.length - lenV ov)
  case atStart => exact ⟨_, x1, _, hs1, [], a1, n1, c1, fr1, rfl, rfl, rfl, rfl, HI⟩
  case round =>
    obtain ⟨ow, x, bg, hs, dn, a2, n2, c2, fr, rfl, rfl, rfl, rfl, HS⟩ := hrel
    rcases HS.out.st with ⟨rfl, rest, hxs, hch⟩ | ⟨rfl, hxs⟩
    · obtain ⟨oa, oc, rfl, _⟩ := HS.out.own.form
      obtain ⟨dl, hdl⟩ : ∃ dl, dl = dn.length := ⟨_, rfl⟩
      have hlt : dl + 1 ≤ xs.length := by rw [hdl, hxs]; simp
      have hown : wr.ownsRow w.heap.size 3 1 (.slice oa dl oc) dl (dn.map (Value.int .i64)) := by
        have h := HS.out.own
        unfold OwnI at h
        rw [← hdl] at h
        exact h
      rw [← hdl]
      have Ho := Lib.hid hown
      have HC := Lib.hid hch
      have HX := Lib.hid hxs
      have HD := Lib.hid hdl
      have kbx := cell_of_one HS.out.box
      have HW := Lib.hid (And.intro HS.out.bel (And.intro HS.out.box (And.intro HS.out.hp HS.out.hbg)))
      clear hown hch hxs hdl HI
      go_wp2_with (at_builtin; obtain ⟨hi, hz0, hz1, hz2⟩ := Hi.out; refine wpList_append_own _ rfl (.tmp 20) (.tmp 22) 22 rfl w.heap.size 3 i0 (.int .i64 0) 1 8 Try.underlying22 hi hz0 hz1 hz2 rfl (by decide) (.slice oa dl oc) _ _ rfl (Ho.out.alloc _) ⟨wr.heap.size, 0, none⟩ 1 1 [.int .i64 x] rfl rfl ?c1 ?c2 ?c3 ?c4 ?c5 ?_)
      case c1 => exact World.news_of_block (cs := #[.int .i64 x]) (t := 3) (fr := (0, 0)) (heap_alloc_new _ _)
      case c2 => simp [Value.oneCell']
      case c3 => unfold maxLen; omega
      case c4 => omega
      case c5 => have := HW.out.1.size; simp; omega
      intro v' w2 hown2 hgrow2 _
      have hk : KeepT [3] wr w2 := KeepT.grown Ho.out hgrow2
      have hb2 : Below w.heap.size w w2 := by
        have hsz : wr.heap.size ≤ w2.heap.size := Nat.le_trans (by simp) hgrow2.size
        refine ⟨hgrow2.os.trans HW.out.1.os, hgrow2.tape.trans HW.out.1.tape, hgrow2.output.trans HW.out.1.output, Nat.le_trans HW.out.1.size hsz, fun k hk' => ?_⟩
        have hkW : k < wr.heap.size := Nat.lt_of_lt_of_le hk' HW.out.1.size
        refine (hgrow2.block k (by simp; omega) ?_).trans ((Below.heap_alloc wr _ k hkW).trans (HW.out.1.block k hk'))
        intro e
        have := (World.ownsRow.lt Ho.out k e.symm).1
        omega
      obtain ⟨g3, cap3, rfl⟩ := ownsRow_succ hown2
      have hbox2 := hk _ _ _ _ HW.out.2.1 (by decide)
      have hp2 : HeapR B w2 (.slice a2 n2 c2) fr := by
        obtain ⟨ps, q1, q2⟩ := HW.out.2.2.1
        exact ⟨ps, q1.keep hk (by decide), Fo.keep hk (by decide) (by decide) q2⟩
      have hbA := belowAlloc w2 (.cells #[.slice a2 n2 c2] 75)
      have kbox := cell_of_one hbox2
      have knew := cell_of_one (heap_alloc_new w2 (.cells #[.slice a2 n2 c2] 75))
      have HP2 := Lib.hid (Pop_chain HC.out B _ a2 n2 c2 (Nat.le_trans HB.out (Nat.le_trans hb2.size hbA.size)) (hp2.up hbA))
      have hown3 : OwnI 3 w2 w.heap.size (.slice (some ⟨g3, 0, none⟩) (dl + 1) cap3) (dn ++ [x]) := by
        unfold OwnI
        rw [List.map_append, List.length_append, ← HD.out]
        exact hown2
      have HZ := Lib.hid (And.intro hown3 (And.intro hb2 (And.intro hbA (heap_alloc_new w2 (.cells #[.slice a2 n2 c2] 75)))))
      clear hown2 hgrow2 hk hb2 hbox2 hp2 hbA hown3 kbx Ho HW HS
      go_wp2_with fail
      refine HP2.out.mono ?_
      rintro e w4 ⟨x4, a4, n4, c4, hs4, fr4, rfl, hh4, hb4, hst4⟩
      have hk4 := upb hb4 HZ.out.2.2.2
      have c4' := cell_of_one hk4
      have f4' := free_of_one hk4
      have hsz2 : w.heap.size ≤ w2.heap.size := HZ.out.2.1.size
      have hownN : OwnI 3 (w4.setCell ⟨w2.heap.size, 0, none⟩ (.slice a4 n4 c4)) w.heap.size (.slice (some ⟨g3, 0, none⟩) (dl + 1) cap3) (dn ++ [x]) := by
        have h := (HZ.out.1.up HZ.out.2.2.1).up hb4
        refine ⟨h.1, ?_⟩
        rcases h.2 with h' | ⟨g, cap, cur, e1, e2, e3, r⟩
        · exact .inl h'
        · refine .inr ⟨g, cap, cur, e1, e2, (Below.heap_setCell _ _ _ _ ?_).trans e3, r⟩
          show g ≠ w2.heap.size
          rintro rfl
          rw [hk4] at e3
          cases e3
      have HN : Hid (IS B w xs (dn ++ [x]) (.slice (some ⟨g3, 0, none⟩) (dl + 1) cap3) x4 w2.heap.size hs4 a4 n4 c4 fr4 (w4.setCell ⟨w2.heap.size, 0, none⟩ (.slice a4 n4 c4))) := Lib.hid ⟨hownN, (belowTrans (belowTrans HZ.out.2.1 HZ.out.2.2.1) hb4).setCell (p := ⟨w2.heap.size, 0, none⟩) hsz2 _, hsz2, one_setCell hk4, hh4.store hk4 (by decide) (by decide), by
          rcases hst4 with ⟨e1, r, e2, e3⟩ | ⟨e1, e2⟩
          · exact .inl ⟨e1, r, by rw [HX.out, e2]; simp, e3⟩
          · exact .inr ⟨e1, by rw [HX.out, e2]⟩⟩
      clear hh4 hb4 hst4 hk4 HP2 HZ knew kbox
      go_wp2_with fail
      exact ⟨⟨_, x4, _, hs4, dn ++ [x], a4, n4, c4, fr4, rfl, rfl, rfl, rfl, HN⟩, by simp [lenV]; omega⟩
    · have HR := Lib.hid (And.intro HS.out.own HS.out.bel)
      have HX := Lib.hid hxs
      clear HS hxs
      go_wp2_with fail
      go_ret
      rw [HX.out]
      exact RetI.mk HR.out.1 HR.out.2
theorem ints_any (f : F) (hS : f.size ≤ 17592186043950) : ∃ xs : List Int, xs.length = f.size ∧ ((∀ z, xs.count z = cF z f) ∧ (HF f → xs.Pairwise (· ≤ ·))) ∧ ∀ (B : Nat) (w : World) (a : Option Addr) (n c : Nat), B ≤ w.heap.size → HeapR B w (.slice a n c) f →
    Calls Try.prog 32 #[.agg #[.slice a n c]] w (RetI 3 w xs) := by
  obtain ⟨xs, h1, hQ, h2⟩ := chain_of f.size f rfl hS
  exact ⟨xs, h1, hQ, fun B w a n c hB hH => ints_xs f xs h2 (by omega) B w a n c hB hH⟩
end Go.Proofs.Ytnigadnjppeckaa.bino
