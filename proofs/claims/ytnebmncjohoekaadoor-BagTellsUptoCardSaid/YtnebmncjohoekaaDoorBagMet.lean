/- Package bag: two bags met, number by number. -/
import Derived.Test.YtnebmncjohoekaaDoorBag
import Derived.Test.YtnebmncjohoekaaDoorPatUni
import Derived.Test.YtnebmncjohoekaaDoorGrow2
namespace Go.Proofs.YtnebmncjohoekaaDoor.bag
open Go.RowKit
open pat (PT HO OOk ocnt olist oget tk I64 lk told oput odrop ounion)

/-- the numbers of a bag lie between 1 and the most -/
def Bnd (o : Option PT) : Prop := ∀ k v, lk (olist o) k = some v → 1 ≤ v ∧ v ≤ most
theorem cnt_bnd {o : Option PT} (ho : OOk o) (h : Bnd o) (x : Int) : 0 ≤ cnt o x ∧ cnt o x ≤ most := by
  unfold cnt
  rw [pat.oget_eq ho]
  cases e : lk (olist o) (tk x) with
  | none => exact ⟨Int.le_refl _, by decide⟩
  | some v => have := h _ _ e; simp only [Option.getD_some]; omega
theorem bnd_none : Bnd none := fun k v h => by cases h
theorem with_ok {o : Option PT} (ho : OOk o) {x : Int} (hx : I64 x) (n : Int) : OOk (withO o x n) := by
  unfold withO
  split
  · exact (pat.odrop_spec ho (tk x)).1
  · exact (pat.oput_spec ho (pat.tk_lt hx) (min n most)).1
theorem with_lk {o : Option PT} (ho : OOk o) {x : Int} (hx : I64 x) (n : Int) (j : Nat) : lk (olist (withO o x n)) j = if j = tk x then (if n ≤ 0 then none else some (min n most)) else lk (olist o) j := by
  unfold withO
  split
  · rw [(pat.odrop_spec ho (tk x)).2]
  · show lk (oput o (tk x) (min n most)).list j = _
    rw [(pat.oput_spec ho (pat.tk_lt hx) (min n most)).2]
theorem with_bnd {o : Option PT} (ho : OOk o) (h : Bnd o) {x : Int} (hx : I64 x) (n : Int) : Bnd (withO o x n) := by
  intro k v hk
  rw [with_lk ho hx n] at hk
  split at hk
  · split at hk
    · cases hk
    · cases hk
      unfold most
      omega
  · exact h _ _ hk
theorem with_cnt (o : Option PT) (x n : Int) : ocnt (withO o x n) ≤ ocnt o + 1 := by
  unfold withO
  split
  · have := pat.cnt_odrop_le o (tk x); omega
  · exact pat.cnt_oput_le o _ _

def metF (g : Int → Int → Int) (x y : Option PT) (l : List (Int × Int)) : Option PT := l.foldl (fun o p => withO o p.1 (g (cnt x p.1) (cnt y p.1))) none
theorem metF_snoc (g : Int → Int → Int) (x y : Option PT) (l : List (Int × Int)) (j : Nat) (h : j < l.length) : metF g x y (l.take (j + 1)) = withO (metF g x y (l.take j)) (l.getD j (0, 0)).1 (g (cnt x (l.getD j (0, 0)).1) (cnt y (l.getD j (0, 0)).1)) := by
  unfold metF
  rw [List.take_succ_eq_append_getElem h, List.foldl_append]
  simp [List.getD_eq_getElem?_getD, h]
theorem fold_facts (g : Int → Int → Int) (x y : Option PT) (l : List (Int × Int)) (hl : ∀ p ∈ l, I64 p.1) : ∀ o, OOk o → Bnd o → OOk (l.foldl (fun o p => withO o p.1 (g (cnt x p.1) (cnt y p.1))) o) ∧ Bnd (l.foldl (fun o p => withO o p.1 (g (cnt x p.1) (cnt y p.1))) o) ∧ ocnt (l.foldl (fun o p => withO o p.1 (g (cnt x p.1) (cnt y p.1))) o) ≤ ocnt o + l.length := by
  induction l with
  | nil => intro o h hb; exact ⟨h, hb, Nat.le_refl _⟩
  | cons p t ih =>
    intro o h hb
    have hp := hl p List.mem_cons_self
    obtain ⟨h1, h2, h3⟩ := ih (fun q hq => hl q (List.mem_cons_of_mem _ hq)) _ (with_ok h hp (g (cnt x p.1) (cnt y p.1))) (with_bnd h hb hp _)
    refine ⟨h1, h2, ?_⟩
    have := with_cnt o p.1 (g (cnt x p.1) (cnt y p.1))
    simp only [List.foldl_cons, List.length_cons]
    omega
/-- two bags met -/
def metO (g : Int → Int → Int) (x y : Option PT) : Option PT := metF g x y (told (ounion x y))

/-- what is in memory while two bags are met -/
structure Met (B : Nat) (w : World) (G : Nat) (x y z : Option PT) (W : World) (p q r : Option Addr) : Prop where
  bel : Below w.heap.size w W
  g : w.heap.size ≤ G
  b3 : W.heap[G]? = some (.cells #[.pointer p] 28 (0, 0))
  b4 : W.heap[G + 1]? = some (.cells #[.pointer q] 28 (0, 0))
  b6 : W.heap[G + 2]? = some (.cells #[.pointer none] 28 (0, 0))
  b7 : W.heap[G + 3]? = some (.cells #[.pointer r] 28 (0, 0))
  h0 : HO B W p x
  h1 : HO B W q y
  h2 : HO B W r z
theorem Met.up {B : Nat} {w : World} {G : Nat} {x y z : Option PT} {W W' : World} {p q r : Option Addr} (h : Met B w G x y z W p q r) (hb : Below W.heap.size W W') : Met B w G x y z W' p q r :=
  ⟨h.bel.trans (hb.mono h.bel.size), h.g, upb hb h.b3, upb hb h.b4, upb hb h.b6, upb hb h.b7, h.h0.up hb, h.h1.up hb, h.h2.up hb⟩
theorem far_set {w : World} {k j off : Nat} {v : Value} {ob : Obj} (hk : w.heap[j]? = some ob) (hne : k ≠ j) : (w.setCell ⟨k, off, none⟩ v).heap[j]? = some ob :=
  (Below.heap_setCell w _ v j (by rintro rfl; exact hne rfl)).trans hk
theorem Met.set {B : Nat} {w : World} {G : Nat} {x y z z' : Option PT} {W : World} {p q r r' : Option Addr} (h : Met B w G x y z W p q r) (hp : HO B W r' z') : Met B w G x y z' (W.setCell ⟨G + 3, 0, none⟩ (.pointer r')) p q r' :=
  ⟨belowSet (a := ⟨G + 3, 0, none⟩) h.bel (by have := h.g; show w.heap.size ≤ G + 3; omega) _, h.g, far_set h.b3 (by omega), far_set h.b4 (by omega), far_set h.b6 (by omega), one_setCell h.b7,
    pat.HO.store (k := G + 3) (off := 0) h.b7 (by decide) h.h0, pat.HO.store (k := G + 3) (off := 0) h.b7 (by decide) h.h1, pat.HO.store (k := G + 3) (off := 0) h.b7 (by decide) hp⟩
theorem Met.row {B : Nat} {w : World} {G : Nat} {x y z : Option PT} {W : World} {p q r : Option Addr} (h : Met B w G x y z W p q r) {D : Nat} {v u : Value} {xs : List (Int × Int)} (ho : OwnP W D v xs) : OwnP (W.setCell ⟨G + 3, 0, none⟩ u) D v xs :=
  ho.keep (T := [28]) (KeepT.set (a := ⟨G + 3, 0, none⟩) h.b7 (by simp) _) (by decide)
def kBag (B : Nat) (o : Option PT) : grow.Kept := ⟨fun v W => ∃ p, v = .agg #[.pointer p] ∧ HO B W p o, fun _ _ _ hb ⟨p, e, h⟩ => ⟨p, e, h.up hb⟩⟩
/-- a function of two numbers, in the code -/
def IsFn (F : Nat) (g : Int → Int → Int) : Prop := (∀ args W, (callFunc F args).run Tryd.prog W = .ok (.enter F args) W) ∧ ∀ m n W, 0 ≤ m → m ≤ most → 0 ≤ n → n ≤ most → Calls Tryd.prog F #[.int .i64 m, .int .i64 n] W fun e w' => e = .returned (.int .i64 (g m n)) ∧ W = w'
/-- what is known of two bags -/
structure Two (g : Int → Int → Int) (x y : Option PT) (ps : List (Int × Int)) (m : Nat) : Prop where
  ox : OOk x
  oy : OOk y
  bx : Bnd x
  bY : Bnd y
  ou : OOk (ounion x y)
  q : ocnt x + ocnt y ≤ 1152921504606843999
  t : told (ounion x y) = ps
  c : ocnt (ounion x y) = m
  l : ps.length = m
  i : ∀ p ∈ ps, I64 p.1
def MetS (B : Nat) (w : World) (x y z : Option PT) (a : Option Addr) (m c : Nat) (ps : List (Int × Int)) (p q : Option Addr) (W : World) : Prop := ∃ r, Met B w w.heap.size x y z W p q r ∧ OwnP W w.heap.size (.slice a m c) ps

set_option maxRecDepth 100000 in
set_option maxHeartbeats 4000000 in
theorem met_any (B : Nat) (w : World) (p q : Option Addr) (x y : Option PT) (F : Nat) (g : Int → Int → Int) (hB : B ≤ w.heap.size) (hx : HO B w p x) (hy : HO B w q y) (ox : OOk x) (oy : OOk y) (bx : Bnd x) (bY : Bnd y)
    (hc : ocnt x + ocnt y ≤ 8796093022208) (hF : IsFn F g) (hg : ∀ m n, 0 ≤ m → m ≤ most → 0 ≤ n → n ≤ most → -4611686018427387904 ≤ g m n ∧ g m n ≤ 4611686018427387904) :
    Calls Tryd.prog 23 #[.agg #[.pointer p], .agg #[.pointer q], .func (.func F) #[] #[]] w (RetG B w (metO g x y)) := by
  have hTw : Two g x y (told (ounion x y)) (ocnt (ounion x y)) := ⟨ox, oy, bx, bY, (pat.ounion_spec ox oy).1, by omega, rfl, rfl, pat.told_length _, pat.told_range (pat.ounion_spec ox oy).1⟩
  have hle : ocnt (ounion x y) ≤ 8796093022208 := Nat.le_trans (pat.ocnt_ounion x y) hc
  obtain ⟨ps, hps⟩ : ∃ ps, ps = told (ounion x y) := ⟨_, rfl⟩
  obtain ⟨m, hm⟩ : ∃ m, m = ocnt (ounion x y) := ⟨_, rfl⟩
  rw [← hps, ← hm] at hTw
  rw [← hm] at hle
  have HE : Hid (metO g x y = metF g x y ps) := Lib.hid (by unfold metO; rw [← hps])
  have HT := Lib.hid hTw
  have HF := Lib.hid hF
  have HG := Lib.hid hg
  obtain ⟨W1, hW1⟩ : ∃ W, W = (((w.alloc (.cells #[.pointer p] 28)).alloc (.cells #[.pointer q] 28)).alloc (.cells #[.pointer none] 28)).alloc (.cells #[.pointer none] 28) := ⟨_, rfl⟩
  have hb1 : Below w.heap.size w W1 := by rw [hW1]; exact belowTrans (belowTrans (belowAlloc _ _) (belowAlloc _ _)) (belowTrans (belowAlloc _ _) (belowAlloc _ _))
  have hM0 : Met B w w.heap.size x y none W1 p q none := by
    refine ⟨hb1, Nat.le_refl _, ?_, ?_, ?_, ?_, hx.up hb1, hy.up hb1, rfl⟩
    · rw [hW1]; exact upb (belowTrans (belowAlloc _ _) (belowAlloc _ _)) (heapNew1 w _ _)
    · rw [hW1]; exact upb (belowTrans (belowAlloc _ _) (belowAlloc _ _)) (heapNew2 w _ _)
    · rw [hW1]
      have h := heapNew1 ((w.alloc (.cells #[.pointer p] 28)).alloc (.cells #[.pointer q] 28)) (.cells #[.pointer none] 28) (.cells #[.pointer none] 28)
      simpa using h
    · rw [hW1]
      have h := heapNew2 ((w.alloc (.cells #[.pointer p] 28)).alloc (.cells #[.pointer q] 28)) (.cells #[.pointer none] 28) (.cells #[.pointer none] 28)
      simpa using h
  have HW := Lib.hid hW1
  have HM0 := Lib.hid hM0
  have HB := Lib.hid hB
  have k3 := cell_of_one hM0.b3
  have k4 := cell_of_one hM0.b4
  rw [hW1] at k3 k4
  have HUn := Lib.hid (pat.Union_any B W1 p q x y (szle hb1 hB) hM0.h0 hM0.h1 ox oy hTw.q)
  clear hTw hps hm hF hg hW1 hb1 hM0 hx hy ox oy bx bY hc hB
  go_enter Tryd.func23, Tryd.ntmps23
  go_wp2_with fail
  rw [← HW.out]
  refine HUn.out.mono ?_
  rintro e w2 ⟨pu, rfl, hpu, hb2⟩
  have HP := Lib.hid (pat.Pairs_num B w2 pu _ m hpu HT.out.ou HT.out.c hle ps HT.out.t)
  have HM2 := Lib.hid (HM0.out.up hb2)
  clear hpu hb2 k3 k4
  go_wp2_with fail
  refine HP.out.mono ?_
  rintro e w3 ⟨a, c, rfl, ho3, hb3⟩
  have HI : Hid (MetS B w x y (metF g x y (ps.take 0)) a m c ps p q w3) := Lib.hid ⟨none, HM2.out.up hb3, ho3.lower HM2.out.bel.size⟩
  clear ho3 hb3 HM2 HM0 HP HUn
  go_wp2_with fail
  go_loopw [17] (fun iv wr => ∃ j : Nat, iv = .int .i64 j ∧ j ≤ m ∧ Hid (MetS B w x y (metF g x y (ps.take j)) a m c ps p q wr)) (fun iv _ => m - (intOf iv).toNat)
  case atStart => exact ⟨0, rfl, Nat.zero_le _, HI⟩
  case round =>
    obtain ⟨j, rfl, hj, HS⟩ := hrel
    have j0 : (0 : Int) ≤ (j : Int) := by omega
    by_cases hlt : j < m
    · have j1 : (j : Int) < (m : Int) := by omega
      obtain ⟨r, hM, hrow⟩ := HS.out
      obtain ⟨qa, oa, ha, q1, q2⟩ := (OwnP.reads hrow).at (k := j) (by rw [HT.out.l]; exact hlt)
      subst ha
      have hfa := fold_facts g x y (ps.take j) (fun p hp => HT.out.i p (List.mem_of_mem_take hp)) none trivial bnd_none
      have hsn := metF_snoc g x y ps j (by rw [HT.out.l]; exact hlt)
      have hik : I64 (ps.getD j (0, 0)).1 := HT.out.i _ (by rw [List.getD_eq_getElem?_getD, List.getElem?_eq_getElem (by rw [HT.out.l]; exact hlt)]; exact List.getElem_mem _)
      obtain ⟨yy, hyy⟩ : ∃ y, y = ps.getD j (0, 0) := ⟨_, rfl⟩
      obtain ⟨y1, y2⟩ := yy
      rw [← hyy] at q1 q2 hsn hik
      dsimp only at q1 q2 hsn hik
      obtain ⟨z, hz⟩ : ∃ z, z = metF g x y (ps.take j) := ⟨_, rfl⟩
      rw [← hz] at hM hsn
      have hzf : OOk z ∧ Bnd z ∧ ocnt z ≤ j := by
        rw [hz]
        refine ⟨hfa.1, hfa.2.1, ?_⟩
        have h := hfa.2.2
        rw [List.length_take] at h
        have e : ocnt none = 0 := rfl
        have e2 : metF g x y (ps.take j) = List.foldl (fun o p => withO o p.1 (g (cnt x p.1) (cnt y p.1))) none (ps.take j) := rfl
        rw [e2]
        omega
      have hbx := cnt_bnd HT.out.ox HT.out.bx y1
      have hby := cnt_bnd HT.out.oy HT.out.bY y1
      obtain ⟨cx, hcx⟩ : ∃ c, cnt x y1 = c := ⟨_, rfl⟩
      obtain ⟨cy, hcy⟩ : ∃ c, cnt y y1 = c := ⟨_, rfl⟩
      rw [hcx, hcy] at hsn
      rw [hcx] at hbx
      rw [hcy] at hby
      obtain ⟨rr, hrr⟩ : ∃ r, g cx cy = r := ⟨_, rfl⟩
      rw [hrr] at hsn
      have hrb := HG.out cx cy hbx.1 hbx.2 hby.1 hby.2
      rw [hrr] at hrb
      have HR := Lib.hid (And.intro hcx (And.intro hcy (And.intro hbx (And.intro hby (And.intro hrr hrb)))))
      have HZ := Lib.hid (And.intro hzf (And.intro hik hsn))
      have q1' := upc (belowAlloc wr (.cells #[.int .i64 0, .int .i64 0] 43)) q1
      have q2' := upc (belowAlloc wr (.cells #[.int .i64 0, .int .i64 0] 43)) q2
      have hb0 := belowAlloc wr (.cells #[.int .i64 y1, .int .i64 y2] 43)
      have hnew := heap_alloc_new wr (.cells #[.int .i64 y1, .int .i64 y2] 43)
      have HM := Lib.hid (And.intro (hM.up hb0) (And.intro (hrow.up hb0) hnew))
      clear hyy hz hsn hik hzf hbx hby hcx hcy hrr hrb hfa hM hrow hb0 hnew HS
      go_wp2_with fail
      obtain ⟨W0, hW0⟩ : ∃ W, W = wr.alloc (.cells #[.int .i64 y1, .int .i64 y2] 43) := ⟨_, rfl⟩
      rw [← hW0] at HM ⊢
      have HL : Hid (wr.heap.size < W0.heap.size) := Lib.hid (by rw [hW0]; simp)
      clear hW0 q1 q2 q1' q2'

      refine grow.wp_grow_last 14 _ [grow.kEq (.agg #[.pointer r]), grow.kEq (.pointer (some ⟨wr.heap.size, 0, none⟩)), grow.kEq (.int .i64 y1), grow.kEq (.func (.func F) #[] #[]), grow.kEq (.agg #[.pointer p]), grow.kEq (.pointer (some ⟨wr.heap.size, 0, none⟩)), grow.kEq (.int .i64 y1), grow.kEq (.int .i64 cx), grow.kEq (.agg #[.pointer q]), grow.kEq (.pointer (some ⟨wr.heap.size, 0, none⟩)), grow.kEq (.int .i64 y1), grow.kEq (.int .i64 cy), grow.kEq (.int .i64 rr), kBag B (withO z y1 rr)] rfl rfl rfl (by kernel_rfl) (by kernel_rfl) (by kernel_rfl) (by kernel_rfl) (by kernel_rfl) ?step ?fin
      case step =>
        refine grow.EachL.cons ?_ ?_
        · intro A W hB hs hJ K hK
          have s0 := hs 7 (by kernel_rfl)
          simp at s0
          have kk := upc hB (cell_of_one HM.out.1.b7)
          rw [if_pos (by rfl)]
          clear hs hJ
          go_simp
          exact hK _ _ (Below.refl _ _) rfl
        refine grow.EachL.cons ?_ ?_
        · intro A W hB hs hJ K hK
          have s0 := hs 9 (by kernel_rfl)
          simp at s0
          rw [if_pos (by rfl)]
          clear hs hJ
          go_simp
          exact hK _ _ (Below.refl _ _) rfl
        refine grow.EachL.cons ?_ ?_
        · intro A W hB hs hJ K hK
          have s0 : A.tmps.getD 22 undef = .pointer (some ⟨wr.heap.size, 0, none⟩) := hJ 1 22 (by kernel_rfl) (by kernel_rfl)
          simp at s0
          have kk := (upc hB (two_c0 HM.out.2.2))
          rw [if_pos (by rfl)]
          clear hs hJ
          go_simp
          exact hK _ _ (Below.refl _ _) rfl
        refine grow.EachL.cons ?_ ?_
        · intro A W hB hs hJ K hK
          have s0 := hs 2 (by kernel_rfl)
          simp at s0
          rw [if_pos (by rfl)]
          clear hs hJ
          go_simp
          exact hK _ _ (Below.refl _ _) rfl
        refine grow.EachL.cons ?_ ?_
        · intro A W hB hs hJ K hK
          have s0 := hs 3 (by kernel_rfl)
          simp at s0
          have kk := upc hB (cell_of_one HM.out.1.b3)
          rw [if_pos (by rfl)]
          clear hs hJ
          go_simp
          exact hK _ _ (Below.refl _ _) rfl
        refine grow.EachL.cons ?_ ?_
        · intro A W hB hs hJ K hK
          have s0 := hs 9 (by kernel_rfl)
          simp at s0
          rw [if_pos (by rfl)]
          clear hs hJ
          go_simp
          exact hK _ _ (Below.refl _ _) rfl
        refine grow.EachL.cons ?_ ?_
        · intro A W hB hs hJ K hK
          have s0 : A.tmps.getD 26 undef = .pointer (some ⟨wr.heap.size, 0, none⟩) := hJ 5 26 (by kernel_rfl) (by kernel_rfl)
          simp at s0
          have kk := (upc hB (two_c0 HM.out.2.2))
          rw [if_pos (by rfl)]
          clear hs hJ
          go_simp
          exact hK _ _ (Below.refl _ _) rfl
        refine grow.EachL.cons ?_ ?_
        · intro A W hB hs hJ K hK
          have s0 : A.tmps.getD 25 undef = .agg #[.pointer p] := hJ 4 25 (by kernel_rfl) (by kernel_rfl)
          simp at s0
          have s1 : A.tmps.getD 27 undef = .int .i64 y1 := hJ 6 27 (by kernel_rfl) (by kernel_rfl)
          simp at s1
          rw [if_pos (by rfl)]
          clear hs hJ
          go_simp
          go_at_call 8
          refine (Count_any B W p x y1 (HM.out.1.h0.up hB) HT.out.ox HZ.out.2.1 cx HR.out.1).mono ?_
          rintro e W2 ⟨rfl, hb1⟩
          exact hK _ _ hb1 rfl
        refine grow.EachL.cons ?_ ?_
        · intro A W hB hs hJ K hK
          have s0 := hs 4 (by kernel_rfl)
          simp at s0
          have kk := upc hB (cell_of_one HM.out.1.b4)
          rw [if_pos (by rfl)]
          clear hs hJ
          go_simp
          exact hK _ _ (Below.refl _ _) rfl
        refine grow.EachL.cons ?_ ?_
        · intro A W hB hs hJ K hK
          have s0 := hs 9 (by kernel_rfl)
          simp at s0
          rw [if_pos (by rfl)]
          clear hs hJ
          go_simp
          exact hK _ _ (Below.refl _ _) rfl
        refine grow.EachL.cons ?_ ?_
        · intro A W hB hs hJ K hK
          have s0 : A.tmps.getD 30 undef = .pointer (some ⟨wr.heap.size, 0, none⟩) := hJ 9 30 (by kernel_rfl) (by kernel_rfl)
          simp at s0
          have kk := (upc hB (two_c0 HM.out.2.2))
          rw [if_pos (by rfl)]
          clear hs hJ
          go_simp
          exact hK _ _ (Below.refl _ _) rfl
        refine grow.EachL.cons ?_ ?_
        · intro A W hB hs hJ K hK
          have s0 : A.tmps.getD 29 undef = .agg #[.pointer q] := hJ 8 29 (by kernel_rfl) (by kernel_rfl)
          simp at s0
          have s1 : A.tmps.getD 31 undef = .int .i64 y1 := hJ 10 31 (by kernel_rfl) (by kernel_rfl)
          simp at s1
          rw [if_pos (by rfl)]
          clear hs hJ
          go_simp
          go_at_call 8
          refine (Count_any B W q y y1 (HM.out.1.h1.up hB) HT.out.oy HZ.out.2.1 cy HR.out.2.1).mono ?_
          rintro e W2 ⟨rfl, hb1⟩
          exact hK _ _ hb1 rfl
        refine grow.EachL.cons ?_ ?_
        · intro A W hB hs hJ K hK
          have s0 : A.tmps.getD 24 undef = .func (.func F) #[] #[] := hJ 3 24 (by kernel_rfl) (by kernel_rfl)
          simp at s0
          have s1 : A.tmps.getD 28 undef = .int .i64 cx := hJ 7 28 (by kernel_rfl) (by kernel_rfl)
          simp at s1
          have s2 : A.tmps.getD 32 undef = .int .i64 cy := hJ 11 32 (by kernel_rfl) (by kernel_rfl)
          simp at s2
          rw [if_pos (by rfl)]
          clear hs hJ
          go_simp
          rw [HF.out.1, Oper.upon_enter]
          refine (HF.out.2 cx cy W HR.out.2.2.1.1 HR.out.2.2.1.2 HR.out.2.2.2.1.1 HR.out.2.2.2.1.2).mono ?_
          rintro e W2 ⟨rfl, rfl⟩
          exact hK _ _ (Below.refl _ _) (by rw [HR.out.2.2.2.2.1]; rfl)
        refine grow.EachL.cons ?_ ?_
        · intro A W hB hs hJ K hK
          have s0 : A.tmps.getD 21 undef = .agg #[.pointer r] := hJ 0 21 (by kernel_rfl) (by kernel_rfl)
          simp at s0
          have s1 : A.tmps.getD 23 undef = .int .i64 y1 := hJ 2 23 (by kernel_rfl) (by kernel_rfl)
          simp at s1
          have s2 : A.tmps.getD 33 undef = .int .i64 rr := hJ 12 33 (by kernel_rfl) (by kernel_rfl)
          simp at s2
          rw [if_pos (by rfl)]
          clear hs hJ
          go_simp
          go_at_call 35
          refine (with_any B W r z y1 rr (szle hB (szle HM.out.1.bel HB.out)) (HM.out.1.h2.up hB) HZ.out.1.1 HZ.out.2.1 (by have := HZ.out.1.2.2; omega) HR.out.2.2.2.2.2).mono ?_
          rintro e W2 ⟨pU, rfl, hpU, hrU⟩
          exact hK _ _ hrU ⟨pU, rfl, hpU⟩
        exact grow.EachL.nil
      case fin =>
        intro f W hB hF
        have f0 : f 0 = .agg #[.pointer r] := hF 0 (by decide)
        have f1 : f 1 = .pointer (some ⟨wr.heap.size, 0, none⟩) := hF 1 (by decide)
        have f2 : f 2 = .int .i64 y1 := hF 2 (by decide)
        have f3 : f 3 = .func (.func F) #[] #[] := hF 3 (by decide)
        have f4 : f 4 = .agg #[.pointer p] := hF 4 (by decide)
        have f5 : f 5 = .pointer (some ⟨wr.heap.size, 0, none⟩) := hF 5 (by decide)
        have f6 : f 6 = .int .i64 y1 := hF 6 (by decide)
        have f7 : f 7 = .int .i64 cx := hF 7 (by decide)
        have f8 : f 8 = .agg #[.pointer q] := hF 8 (by decide)
        have f9 : f 9 = .pointer (some ⟨wr.heap.size, 0, none⟩) := hF 9 (by decide)
        have f10 : f 10 = .int .i64 y1 := hF 10 (by decide)
        have f11 : f 11 = .int .i64 cy := hF 11 (by decide)
        have f12 : f 12 = .int .i64 rr := hF 12 (by decide)
        obtain ⟨pN_13, f13, hN_13⟩ := hF 13 (by decide)
        clear hF
        intro A hA
        simp only [grow.puts, Act.put, List.getElem?_toArray, List.getElem?_cons_zero, List.getElem?_cons_succ, Option.bind_some, List.setIfInBounds_toArray, List.set_cons_zero, List.set_cons_succ, f0, f1, f2, f3, f4, f5, f6, f7, f8, f9, f10, f11, f12, f13] at hA
        subst hA
        have hM1 := HM.out.1.up hB
        have hr1 := HM.out.2.1.up hB
        have c7 := cell_of_one hM1.b7
        have f7 := free_of_one hM1.b7
        have HE2 : Hid (MetS B w x y (metF g x y (ps.take (j + 1))) (some ⟨qa, oa, none⟩) m c ps p q (W.setCell ⟨w.heap.size + 3, 0, none⟩ (.pointer pN_13))) := Lib.hid ⟨pN_13, by rw [HZ.out.2.2]; exact hM1.set hN_13, hM1.row hr1⟩
        clear hM1 hr1 hN_13 hB HM HL
        go_simp
        go_wp2_with fail
        go_roundw
        case rel => exact ⟨j + 1, by go_num, hlt, HE2⟩
        case measure => simp [intOf]; omega
    · obtain rfl : m = j := by omega
      obtain ⟨r, hM, hrow⟩ := HS.out
      rw [List.take_of_length_le (by rw [HT.out.l]; exact Nat.le_refl _)] at hM
      have c7 := cell_of_one hM.b7
      have c6 := cell_of_one hM.b6
      have f6 := free_of_one hM.b6
      have hst := one_setCell (u := .pointer r) hM.b6
      have kr := cell_of_one hst
      have HFin : Hid (HO B (wr.setCell ⟨w.heap.size + 2, 0, none⟩ (.pointer r)) r (metO g x y) ∧ Below w.heap.size w (wr.setCell ⟨w.heap.size + 2, 0, none⟩ (.pointer r))) :=
        Lib.hid ⟨by rw [HE.out]; exact pat.HO.store (k := w.heap.size + 2) (off := 0) hM.b6 (by decide) hM.h2, belowSet (a := ⟨w.heap.size + 2, 0, none⟩) hM.bel (by show w.heap.size ≤ w.heap.size + 2; omega) _⟩
      clear hM hrow hst HS
      go_wp2_with fail
      refine bodyPost_ret (v := .agg #[.pointer r]) (by simp only [results, Tryd.results23]; simp [go_sem, kr]) rfl ?_
      exact ⟨r, rfl, HFin.out.1, HFin.out.2⟩
end Go.Proofs.YtnebmncjohoekaaDoor.bag
