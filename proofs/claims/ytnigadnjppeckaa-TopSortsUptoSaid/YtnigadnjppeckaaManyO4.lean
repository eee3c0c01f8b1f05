/- Package finger, many things (ord): rows of things; All. (Printed by mm.py.) -/
import Derived.Test.YtnigadnjppeckaaManyO3
import Derived.Deep.AppendLies
import Derived.Deep.RegionLaw
import Derived.Laws.AppendOwnNone
import Derived.Deep.RegionHeld3
import Derived.RangeFuncBox
namespace Go.Proofs.Ytnigadnjppeckaa.manyO
open Go.RowKit

theorem infoV : (Try.prog.info? 3).map (fun i => (i.zero, i.size, i.bytes)) = some (some (.int .i64 0), 1, 8) := by kernel_rfl
/-- the cells of things -/
def cellsV : List V → List Value
  | [] => []
  | p :: t => .int .i64 p :: cellsV t
theorem cellsV_length (xs : List V) : (cellsV xs).length = xs.length * 1 := by
  induction xs with
  | nil => rfl
  | cons p t ih => simp only [cellsV, List.length_cons, ih]; omega
theorem cellsV_append (xs ys : List V) : cellsV (xs ++ ys) = cellsV xs ++ cellsV ys := by
  induction xs with
  | nil => rfl
  | cons p t ih => simp [cellsV, ih]
theorem cellsV_at (xs : List V) : ∀ i, i < xs.length → (cellsV xs)[i * 1]? = some (.int .i64 (xs.getD i 0)) := by
  induction xs with
  | nil => intro i h; simp at h
  | cons p t ih =>
    intro i h
    cases i with
    | zero => simp [cellsV]
    | succ i =>
      have := ih i (by simpa using h)
      simpa [cellsV, Nat.add_mul] using this
theorem cellsV_one (xs : List V) : ∀ u ∈ cellsV xs, u.oneCell' = true := by
  induction xs with
  | nil => intro u h; cases h
  | cons p t ih =>
    intro u h
    simp only [cellsV, List.mem_cons] at h
    rcases h with rfl | h
    · rfl
    · exact ih u h
/-- a slice of things of the call's own -/
def OwnV (w : World) (B : Nat) (v : Value) (xs : List V) : Prop := w.ownsRow B 3 1 v xs.length (cellsV xs)
/-- a slice that reads as a list of things -/
def ReadsV (w : World) (a : Option Addr) (xs : List V) : Prop :=
  xs = [] ∨ ∃ b o, a = some ⟨b, o, none⟩ ∧ ∀ i, i < xs.length → w.cell? ⟨b, o + i * 1, none⟩ = some (.int .i64 (xs.getD i 0))
theorem ReadsV.up {w w' : World} {a : Option Addr} {xs : List V} (h : ReadsV w a xs) (hb : Below w.heap.size w w') : ReadsV w' a xs := by
  rcases h with h | ⟨b, o, ha, h⟩
  · exact .inl h
  · exact .inr ⟨b, o, ha, fun i hi => upc hb (h i hi)⟩
theorem vRowUp {w w' : World} {B E size n : Nat} {v : Value} {xs : List Value} (h : w.ownsRow B E size v n xs) (hb : Below w.heap.size w w') : w'.ownsRow B E size v n xs := by
  refine ⟨h.1, ?_⟩
  rcases h.2 with h' | ⟨g, cap, cur, rfl, hg, hc, r⟩
  · exact .inl h'
  · exact .inr ⟨g, cap, cur, rfl, hg, upb hb hc, r⟩
theorem OwnV.up {B : Nat} {v : Value} {xs : List V} {w w' : World} (h : OwnV w B v xs) (hb : Below w.heap.size w w') : OwnV w' B v xs := vRowUp h hb
theorem OwnV.lower {w : World} {B B' : Nat} {v : Value} {xs : List V} (h : OwnV w B v xs) (hb : B' ≤ B) : OwnV w B' v xs := ownsRow_lower h hb
theorem OwnV.block {B : Nat} {v : Value} {xs : List V} {w : World} (h : OwnV w B v xs) : ∀ b, v.ownBlock = some b → B ≤ b ∧ b < w.heap.size := fun b hb => World.ownsRow.lt h b hb
theorem OwnV.form {w : World} {B : Nat} {v : Value} {xs : List V} (h : OwnV w B v xs) : ∃ a c, v = .slice a xs.length c ∧ (a = none → c = 0) ∧ ReadsV w a xs ∧ ∀ x, a = some x → ∃ g, x = ⟨g, 0, none⟩ ∧ B ≤ g ∧ g < w.heap.size := by
  rcases h.2 with ⟨rfl, h0⟩ | ⟨g, cap, cur, rfl, hB, hg, hn, _, hc, ht⟩
  · exact ⟨none, 0, by rw [h0], fun _ => rfl, .inl (List.eq_nil_of_length_eq_zero h0), fun x h => by cases h⟩
  · refine ⟨some ⟨g, 0, none⟩, cap, rfl, fun h => (by cases h), .inr ⟨g, 0, rfl, fun i hi => ?_⟩, fun x hx => by cases hx; exact ⟨g, rfl, hB, (Array.getElem?_eq_some_iff.1 hg).1⟩⟩
    have hcell : ∀ i u, (cellsV xs)[i]? = some u → w.cell? ⟨g, i, none⟩ = some u := fun i u hu => by
      have h1 := World.ownsRow.cells h (g := g) rfl i u hu
      have e : (⟨g, 0, none⟩ : Addr).add i = ⟨g, 0 + i, none⟩ := by unfold Addr.add; split <;> simp_all
      rw [e] at h1
      simpa using h1
    have hat := cellsV_at xs i hi
    have hgo : ∀ k u, (cellsV xs)[k]? = some u → w.cell? ⟨g, 0 + k, none⟩ = some u := fun k u hu => by rw [Nat.zero_add]; exact hcell k u hu
    exact hgo _ _ hat
theorem OwnV.reads {B : Nat} {a : Option Addr} {n c : Nat} {xs : List V} {w : World} (h : OwnV w B (.slice a n c) xs) : ReadsV w a xs := by
  obtain ⟨a', c', e, _, hr, _⟩ := h.form
  cases e
  exact hr
/-- what a call that hands back a new slice of things leaves -/
def RetV (w : World) (xs : List V) (e : Ending) (w' : World) : Prop :=
  ∃ a c, e = .returned (.slice a xs.length c) ∧ OwnV w' w.heap.size (.slice a xs.length c) xs ∧ Below w.heap.size w w'
theorem RetV.mk {w w' : World} {xs : List V} {v : Value} (h : OwnV w' w.heap.size v xs) (hb : Below w.heap.size w w') : RetV w xs (.returned v) w' := by
  obtain ⟨a, c, rfl, _⟩ := h.form
  exact ⟨a, c, rfl, h, hb⟩

/-- WHILE A CLOSURE WALKS A TREE AND GATHERS -/
structure St (W O base : Nat) (w0 : World) (xs : List V) (w : World) : Prop where
  bel : Below w0.heap.size w0 w
  hO : w0.heap.size ≤ O
  hW : w0.heap.size ≤ W
  ne : O ≠ W
  hOb : O < base
  hWb : W < base
  hb : base ≤ w.heap.size
  cW : w.heap[W]? = some (.cells #[.func (.func 82) #[] #[.pointer (some ⟨W, 0, none⟩), .pointer (some ⟨O, 0, none⟩)]] 140 (0, 0))
  cO : ∃ v, w.heap[O]? = some (.cells #[v] 22 (0, 0)) ∧ w.ownsRow base 3 1 v xs.length (cellsV xs)
theorem St.next {W O base : Nat} {w0 w V1 w1 : World} {xs : List V} {x : V} {v v' : Value} (h : St W O base w0 xs w)
    (hv : w.heap[O]? = some (.cells #[v] 22 (0, 0))) (hown : w.ownsRow base 3 1 v xs.length (cellsV xs)) (hB : Below w.heap.size w V1)
    (hown' : w1.ownsRow base 3 1 v' (xs.length + 1) (cellsV xs ++ [.int .i64 x])) (hg : V1.grownBy w1 v.ownBlock) :
    w1.heap[O]? = some (.cells #[v] 22 (0, 0)) ∧ St W O base w0 (xs ++ [x]) (w1.setCell ⟨O, 0, none⟩ v') := by
  have hrow : ∀ k, v.ownBlock = some k → base ≤ k := fun k hk => (hown.lt k hk).1
  have hsz : w.heap.size ≤ w1.heap.size := Nat.le_trans hB.size hg.size
  have hold : ∀ k, k < w.heap.size → k < base → w1.heap[k]? = w.heap[k]? := by
    intro k hk hkb
    refine (hg.block k (Nat.lt_of_lt_of_le hk hB.size) ?_).trans (hB.block k hk)
    intro e
    have := hrow k e.symm
    omega
  have hOs : O < w.heap.size := Nat.lt_of_lt_of_le h.hOb h.hb
  have hWs : W < w.heap.size := Nat.lt_of_lt_of_le h.hWb h.hb
  have bel1 : Below w0.heap.size w0 w1 := by
    refine ⟨hg.os.trans (hB.os.trans h.bel.os), hg.tape.trans (hB.tape.trans h.bel.tape), hg.output.trans (hB.output.trans h.bel.output), Nat.le_trans h.bel.size hsz, ?_⟩
    intro k hk
    exact (hold k (Nat.lt_of_lt_of_le hk h.bel.size) (Nat.lt_trans (Nat.lt_of_lt_of_le hk h.hO) h.hOb)).trans (h.bel.block k hk)
  have hO1 := (hold O hOs h.hOb).trans hv
  have hW1 := (hold W hWs h.hWb).trans h.cW
  refine ⟨hO1, bel1.setCell (p := ⟨O, 0, none⟩) h.hO _, h.hO, h.hW, h.ne, h.hOb, h.hWb, ?_, ?_, v', one_setCell hO1, ?_⟩
  · have := h.hb
    simp [World.setCell]
    omega
  · exact (Below.heap_setCell w1 _ _ W (fun e => h.ne e.symm)).trans hW1
  · have := ownsRow_setCell_below hown' (a := ⟨O, 0, none⟩) h.hOb v'
    rw [cellsV_append, List.length_append]
    exact this
theorem St.drewN {W O base : Nat} {w0 w : World} {xs : List V} (h : St W O base w0 xs w) (n : Nat) : St W O base w0 xs (w.drewN n) :=
  ⟨⟨h.bel.os, h.bel.tape, h.bel.output, h.bel.size, h.bel.block⟩, h.hO, h.hW, h.ne, h.hOb, h.hWb, h.hb, h.cW, h.cO⟩
theorem St.start (w : World) (o : Obj) :
    St (w.heap.size + 1 + 1) (w.heap.size + 1) (w.heap.size + 3) w [] (((w.alloc o).alloc (.cells #[.slice none 0 0] 22)).alloc (.cells #[.func (.func 82) #[] #[.pointer (some ⟨w.heap.size + 1 + 1, 0, none⟩), .pointer (some ⟨w.heap.size + 1, 0, none⟩)]] 140)) := by
  refine ⟨((((Below.refl _ _).alloc (Nat.le_refl _) _).alloc (by simp) _).alloc (by simp; omega) _), by omega, by omega, by omega, by omega, by omega, by simp, ?_, .slice none 0 0, ?_, World.ownsRow_nil _ _ _ _⟩
  · have := heap_alloc_new ((w.alloc o).alloc (.cells #[.slice none 0 0] 22)) (.cells #[.func (.func 82) #[] #[.pointer (some ⟨w.heap.size + 1 + 1, 0, none⟩), .pointer (some ⟨w.heap.size + 1, 0, none⟩)]] 140)
    simpa using this
  · rw [Below.heap_alloc _ _ _ (by simp)]
    have := heap_alloc_new (w.alloc o) (.cells #[Value.slice none 0 0] 22)
    simpa using this
theorem St.done {W O base : Nat} {w0 w : World} {xs : List V} (h : St W O base w0 xs w) :
    ∃ v, w.cell? ⟨O, 0, none⟩ = some v ∧ OwnV w w0.heap.size v xs := by
  obtain ⟨v, hv, ho⟩ := h.cO
  exact ⟨v, cell_of_one hv, ownsRow_lower ho (Nat.le_of_lt (Nat.lt_of_le_of_lt h.hO h.hOb))⟩
/-- a new row of one thing -/
def kOneV (n : Nat) (x : V) : grow.Kept := ⟨fun v W => ∃ g, v = .slice (some ⟨g, 0, none⟩) 1 1 ∧ n ≤ g ∧ W.heap[g]? = some (.cells #[.int .i64 x] 3 (0, 0)), fun _ _ _ hb ⟨g, h1, h2, h3⟩ => ⟨g, h1, h2, upb hb h3⟩⟩
def RetSt (W O base : Nat) (w0 : World) (xs : List V) (e : Ending) (w' : World) : Prop := e = .returned (.tuple #[]) ∧ St W O base w0 xs w'

set_option maxRecDepth 100000 in
set_option maxHeartbeats 2000000 in
theorem walk_any (W O base B : Nat) (w0 : World) (t : BT V) : ∀ (p : Option Addr) (w : World) (xs : List V), In B w0 p t → St W O base w0 xs w → xs.length + t.size ≤ 17592186044416 →
    Calls Try.prog 82 #[.pointer p, .pointer (some ⟨W, 0, none⟩), .pointer (some ⟨O, 0, none⟩)] w (RetSt W O base w0 (xs ++ t.inorder)) := by
  induction t with
  | nil =>
    intro p w xs h hs hn
    obtain rfl : p = none := h
    go_enter Try.func82, Try.ntmps82
    go_wp2
    go_end0
    exact ⟨rfl, by simpa [BT.inorder] using hs⟩
  | node x l r ihl ihr =>
    intro p w xs h hs hn
    obtain ⟨b, pl, pr, rfl, hBb, hb, hl, hr⟩ := h
    have hlr : xs.length + l.size + 1 + r.size ≤ 17592186044416 := by simp only [BT.size] at hn; omega
    have kl0 := upc hs.bel (cl hb)
    have kW := cell_of_one hs.cW
    have Hs := Lib.hid hs
    have Hb := Lib.hid hb
    clear hs hb hn
    go_enter Try.func82, Try.ntmps82
    go_wp2_with fail
    go_region_held3 (fun w' => w'.cell? ⟨W, 0, none⟩ = some (.func (.func 82) #[] #[.pointer (some ⟨W, 0, none⟩), .pointer (some ⟨O, 0, none⟩)]) ∧ w'.cell? ⟨b, 4, none⟩ = some (.pointer pl)) (go_keep)
      (first | (go_at_call 82; refine (ihl _ _ xs hl (by exact Hs.out.drewN 1) (by (try simp only [List.length_append, List.length_singleton]); omega)).mono ?_; rintro e w1 ⟨rfl, hs1⟩; have kW1 := cell_of_one hs1.cW; have kl1 := upc hs1.bel (cl Hb.out); have kr1 := upc hs1.bel (cr Hb.out)))
    go_wp2_with fail
    have hlen : (xs ++ l.inorder).length = xs.length + l.size := by rw [List.length_append, BT.length_inorder]
    obtain ⟨ys, hys⟩ : ∃ ys, ys = xs ++ l.inorder := ⟨_, rfl⟩
    rw [← hys] at hs1 hlen
    obtain ⟨v, hv, hown⟩ := hs1.cO
    have kO := cell_of_one hv
    have lB : base ≤ w1.heap.size := hs1.hb
    have l4 : ys.length + 1 ≤ 17592186044416 := by omega
    have l5 : ys.length + 1 + r.size ≤ 17592186044416 := by omega
    have kx0 := upc hs1.bel (cv0 Hb.out)
    have HY := Lib.hid hys
    have Hs1 := Lib.hid hs1
    have Hv := Lib.hid hv
    have Ho := Lib.hid hown
    clear hys hs1 hv hown hlen kW1 kl1 kr1 kW kl0
    refine grow.wp_grow_last2 6 _ _ [grow.kEq (v), grow.kEq (.pointer (some ⟨b, 0, none⟩)), grow.kEq (.pointer (some ⟨b, 0, none⟩)), grow.kEq (.pointer (some ⟨b, 0, none⟩)), grow.kEq (.int .i64 x), kOneV 0 x] rfl rfl rfl rfl rfl (by decide) (by kernel_rfl) (by kernel_rfl) (by kernel_rfl) (by kernel_rfl) (by kernel_rfl) ?step ?fin
    case step =>
      refine grow.EachL2.cons ?_ ?_
      · intro A Wx hB hs hJ K hK
        have s0 := hs 2 (by kernel_rfl)
        simp at s0
        have kk := upc hB kO
        rw [if_pos (by rfl)]
        clear hs hJ
        go_simp
        exact hK _ _ (Below.refl _ _) rfl
      refine grow.EachL2.cons ?_ ?_
      · intro A Wx hB hs hJ K hK
        have s0 := hs 0 (by kernel_rfl)
        simp at s0
        rw [if_pos (by rfl)]
        clear hs hJ
        go_simp
        exact hK _ _ (Below.refl _ _) rfl
      refine grow.EachL2.cons ?_ ?_
      · intro A Wx hB hs hJ K hK
        have s0 : A.tmps.getD 13 undef = .pointer (some ⟨b, 0, none⟩) := hJ 1 13 (by kernel_rfl) (by kernel_rfl)
        simp at s0
        rw [if_pos (by rfl)]
        clear hs hJ
        go_simp
        exact hK _ _ (Below.refl _ _) rfl
      refine grow.EachL2.cons ?_ ?_
      · intro A Wx hB hs hJ K hK
        have s0 : A.tmps.getD 14 undef = .pointer (some ⟨b, 0, none⟩) := hJ 2 14 (by kernel_rfl) (by kernel_rfl)
        simp at s0
        rw [if_pos (by rfl)]
        clear hs hJ
        go_simp
        exact hK _ _ (Below.refl _ _) rfl
      refine grow.EachL2.cons ?_ ?_
      · intro A Wx hB hs hJ K hK
        have s0 : A.tmps.getD 15 undef = .pointer (some ⟨b, 0, none⟩) := hJ 3 15 (by kernel_rfl) (by kernel_rfl)
        simp at s0
        have kk0 := upc hB kx0
        rw [if_pos (by rfl)]
        clear hs hJ
        go_simp
        exact hK _ _ (Below.refl _ _) rfl
      refine grow.EachL2.cons ?_ ?_
      · intro A Wx hB hs hJ K hK
        have s0 : A.tmps.getD 16 undef = .int .i64 x := hJ 4 16 (by kernel_rfl) (by kernel_rfl)
        simp at s0
        rw [if_pos (by rfl)]
        clear hs hJ
        go_simp
        exact hK _ _ (belowAlloc _ _) ⟨_, rfl, Nat.zero_le _, heap_alloc_new _ _⟩
      exact grow.EachL2.nil
    case fin =>
      intro f Wx hB hF
      have f0 : f 0 = v := hF 0 (by decide)
      have f1 : f 1 = .pointer (some ⟨b, 0, none⟩) := hF 1 (by decide)
      have f2 : f 2 = .pointer (some ⟨b, 0, none⟩) := hF 2 (by decide)
      have f3 : f 3 = .pointer (some ⟨b, 0, none⟩) := hF 3 (by decide)
      have f4 : f 4 = .int .i64 x := hF 4 (by decide)
      obtain ⟨g_5, f5, hg_5, hO_5⟩ := hF 5 (by decide)
      clear hF
      intro A hA
      simp only [grow.puts, Act.put, List.getElem?_toArray, List.getElem?_cons_zero, List.getElem?_cons_succ, Option.bind_some, List.setIfInBounds_toArray, List.set_cons_zero, List.set_cons_succ, f0, f1, f2, f3, f4, f5] at hA
      subst hA
      obtain ⟨i0, hi, hz0, hz1, hz2⟩ := info_parts infoV
      refine wp_append_own Wx (.tmp 12) (.tmp 17) 22 rfl base 3 i0 (.int .i64 0) 1 8 Try.underlying22 hi hz0 hz1 hz2 rfl (by decide) v ys.length _ rfl (vRowUp Ho.out hB) ⟨g_5, 0, none⟩ 1 1 [.int .i64 x] rfl rfl (World.news_of_block hO_5) (by simp [Value.oneCell']) (by unfold maxLen; omega) (by omega) (by have := hB.size; omega) ?_
      intro v' w2 hown2 hgrow _
      obtain ⟨hO2, hn⟩ := St.next Hs1.out Hv.out Ho.out hB hown2 hgrow
      have kO2 := cell_of_one hO2
      have fO2 := free_of_one hO2
      obtain ⟨g, cap, rfl⟩ := ownsRow_succ hown2
      have Hn := Lib.hid hn
      clear hown2 hgrow hO2 hn hi hz0 hz1 hz2 hB hO_5 hg_5
      go_simp
      obtain ⟨w3, hw3⟩ : ∃ w3, w3 = w2.setCell ⟨O, 0, none⟩ (.slice (some ⟨g, 0, none⟩) (ys.length + 1) cap) := ⟨_, rfl⟩
      rw [← hw3] at Hn ⊢
      clear hw3 kO2 fO2 kO
      have hs3 := Hn.out
      have kr1 := upc hs3.bel (cr Hb.out)
      have kW1 := cell_of_one hs3.cW
      clear hs3
      go_wp2_with fail
      go_region_held3 (fun w' => w'.cell? ⟨W, 0, none⟩ = some (.func (.func 82) #[] #[.pointer (some ⟨W, 0, none⟩), .pointer (some ⟨O, 0, none⟩)]) ∧ w'.cell? ⟨b, 5, none⟩ = some (.pointer pr)) (go_keep)
      (first | (go_at_call 82; refine (ihr _ _ (ys ++ [x]) hr (by exact Hn.out.drewN 1) (by (try simp only [List.length_append, List.length_singleton]); omega)).mono ?_; rintro e w4 ⟨rfl, hs4⟩; have kW4 := cell_of_one hs4.cW; have kl4 := upc hs4.bel (cl Hb.out); have kr4 := upc hs4.bel (cr Hb.out)))
      go_wp2_with fail
      go_end0
      refine ⟨rfl, ?_⟩
      have e : xs ++ (BT.node x l r).inorder = (ys ++ [x]) ++ r.inorder := by rw [BT.inorder, HY.out]; simp
      rw [e]
      exact hs4

set_option maxHeartbeats 1000000 in
theorem all_any (B : Nat) (w : World) (p : Option Addr) (t : BT V) (h : In B w p t) (hn : t.size ≤ 17592186044416) :
    Calls Try.prog 48 #[.agg #[.pointer p]] w (RetV w t.inorder) := by
  have hw := walk_any (w.heap.size + 1 + 1) (w.heap.size + 1) (w.heap.size + 3) B w t p _ [] h (St.start w (.cells #[.pointer p] 40)) (by simpa using hn)
  have Hw := Lib.hid hw
  clear hw h
  go_enter Try.func48, Try.ntmps48
  go_wp2_with fail
  refine Hw.out.mono ?_
  rintro e w1 ⟨rfl, hs⟩
  obtain ⟨v, kO, ho⟩ := hs.done
  have Ho := Lib.hid ho
  have hB := hs.bel
  clear hs ho
  go_wp2_with fail
  go_ret
  exact RetV.mk (by simpa using Ho.out) hB
end Go.Proofs.Ytnigadnjppeckaa.manyO
