/- trie.node.words: all words, rising, behind what was there. -/
import Derived.Test.YteglhcpochcopaaTrieWd
import Derived.Test.YteglhcpochcopaaTrieL
import Derived.Test.YteglhcpochcopaaGrowT
import Derived.Maps.AppendAt
import Derived.Laws.IdiomStrings
import Derived.Laws.Concat
namespace Go.Proofs.Yteglhcpochcopaa.trie
open Go.RowKit

/-- what is left when a row of the call's own grows -/
structure Gro (w w' : World) (v v' : Value) : Prop where
  os : w'.os = w.os
  tape : w'.tape = w.tape
  output : w'.output = w.output
  size : w.heap.size ≤ w'.heap.size
  block : ∀ k, k < w.heap.size → v.ownBlock ≠ some k → w'.heap[k]? = w.heap[k]?
  own : ∀ k, v'.ownBlock = some k → v.ownBlock = some k ∨ w.heap.size ≤ k
theorem Gro.refl (w : World) (v : Value) : Gro w w v v := ⟨rfl, rfl, rfl, Nat.le_refl _, fun _ _ _ => rfl, fun _ h => .inl h⟩
theorem Gro.below {w w' : World} (h : Below w.heap.size w w') (v : Value) : Gro w w' v v := ⟨h.os, h.tape, h.output, h.size, fun k hk _ => h.block k hk, fun _ h => .inl h⟩
theorem Gro.trans {w w1 w2 : World} {v v1 v2 : Value} (h : Gro w w1 v v1) (h' : Gro w1 w2 v1 v2) : Gro w w2 v v2 := by
  refine ⟨h'.os.trans h.os, h'.tape.trans h.tape, h'.output.trans h.output, Nat.le_trans h.size h'.size, fun k hk hn => ?_, fun k hk => ?_⟩
  · refine (h'.block k (Nat.lt_of_lt_of_le hk h.size) fun e => ?_).trans (h.block k hk hn)
    rcases h.own k e with e | e
    · exact hn e
    · omega
  · rcases h'.own k hk with e | e
    · exact h.own k e
    · exact .inr (Nat.le_trans h.size e)
theorem Gro.to {w0 w w' : World} {v v' : Value} (h : Gro w w' v v') (hb : Below w0.heap.size w0 w) (hv : ∀ k, v.ownBlock = some k → w0.heap.size ≤ k) : Below w0.heap.size w0 w' :=
  ⟨h.os.trans hb.os, h.tape.trans hb.tape, h.output.trans hb.output, Nat.le_trans hb.size h.size, fun k hk => (h.block k (Nat.lt_of_lt_of_le hk hb.size) fun e => by have := hv k e; omega).trans (hb.block k hk)⟩
theorem Gro.app {w w1 : World} {o : Obj} {v v1 : Value} (h : (w.alloc o).grownBy w1 v.ownBlock) (hat : v1.ownBlock = v.ownBlock ∨ v1.ownBlock = some (w.alloc o).heap.size) : Gro w w1 v v1 := by
  have hz : (w.alloc o).heap.size = w.heap.size + 1 := by simp
  refine ⟨h.os, h.tape, h.output, by have := h.size; omega, fun k hk hn => ?_, fun k hk => ?_⟩
  · exact (h.block k (by omega) fun e => hn e.symm).trans (Below.heap_alloc w o k hk)
  · rcases hat with e | e
    · rw [e] at hk; exact .inl hk
    · rw [e] at hk; cases hk; exact .inr (by omega)
def RetWs (w0 W : World) (v : Value) (l : List (Wd × Int)) (e : Ending) (W' : World) : Prop := ∃ v', e = .returned v' ∧ OwnW W' w0.heap.size v' l ∧ Gro W W' v v'
theorem sv_add (a b : Wd) (h : a.length + b.length ≤ 9223372036854775807) : binOp .add 9 (sv a) (sv b) = pure (sv (a ++ b)) := by
  unfold sv
  have h1 : (ByteArray.mk a.toArray).size = a.length := by show a.toArray.size = a.length; simp
  have h2 : (ByteArray.mk b.toArray).size = b.length := by show b.toArray.size = b.length; simp
  rw [binOp_string_add]
  simp only [Op.stringOp]
  rw [if_neg (by rw [h1, h2]; show ¬ (((List.length a + List.length b : Nat) : Int) > 9223372036854775807); omega)]
  congr 2
theorem sv_conv (c : UInt8) (W : World) (g : Nat) (h : W.cell? ⟨g, 0, none⟩ = some (bv c)) : (convert 55 9 (.slice (some ⟨g, 0, none⟩) 1 1)).run Try.prog W = .ok (sv [c]) W := by
  refine run_convert_bytes_back W 55 9 5 ⟨g, 0, none⟩ 1 [c] Try.underlying55 Try.underlying5 Try.underlying9 fun j hj => ?_
  obtain rfl : j = 0 := by simpa using hj
  have e : (⟨g, 0, none⟩ : Addr).add 0 = ⟨g, 0, none⟩ := rfl
  rw [e]
  exact h
/-- a slice of one byte in a block -/
def kSl (cv : Value) : grow.Kept := ⟨fun x W => ∃ g, x = .slice (some ⟨g, 0, none⟩) 1 1 ∧ W.cell? ⟨g, 0, none⟩ = some cv, fun _ _ _ hb ⟨g, e, h⟩ => ⟨g, e, upc hb h⟩⟩
theorem nilWords (w : World) (aw v : Value) : Calls Try.prog 23 #[.pointer none, aw, v] w fun e w' => e = .returned v ∧ w = w' := by
  go_enter Try.func23, Try.ntmps23
  go_wp2_with fail
  go_ret
  exact ⟨rfl, rfl⟩
abbrev most : Nat := 5000000000000
/-- what is asked of a call -/
structure Asked (w0 W : World) (t : TT) (p : Option Addr) (n : Nat) (a : Wd) (v : Value) (xs : List (Wd × Int)) : Prop where
  tin : In w0 t p
  bel : Below w0.heap.size w0 W
  own : OwnW W w0.heap.size v xs
  few : xs.length + cnt t ≤ most
  deep : Deep t n
  len : a.length + n ≤ 9223372036854775807
theorem take_len {β : Type} (F : UInt8 → List β) (ks : List UInt8) (j : Nat) : ((ks.take j).flatMap F).length ≤ (ks.flatMap F).length := by
  conv => rhs; rw [← List.take_append_drop j ks]
  rw [List.flatMap_append, List.length_append]
  omega
theorem take_one {β : Type} (F : UInt8 → List β) {ks : List UInt8} {j : Nat} (h : j < ks.length) : (ks.take (j + 1)).flatMap F = (ks.take j).flatMap F ++ F (ks.getD j 0) := by
  rw [List.take_succ_eq_append_getElem h, List.flatMap_append, List.getD_eq_getElem?_getD, List.getElem?_eq_getElem h]
  simp
/-- in the loop: i keys are told; what lay ahead of it -/
structure Jn (w0 W0 W2 : World) (B : Nat) (v vn vi : Value) (xsn : List (Wd × Int)) (ks : List UInt8) (F : UInt8 → List (Wd × Int)) (i : Nat) (wr : World) : Prop where
  own : OwnW wr B vi (xsn ++ (ks.take i).flatMap F)
  gro : Gro W2 wr vn vi
  all : Gro W0 wr v vi
  bel : Below w0.heap.size w0 wr
theorem Jn.next {w0 W0 W2 : World} {B : Nat} {v vn vi vj : Value} {xsn : List (Wd × Int)} {ks : List UInt8} {F : UInt8 → List (Wd × Int)} {i : Nat} {wr wq wz : World} (h : Jn w0 W0 W2 B v vn vi xsn ks F i wr) (hB : w0.heap.size ≤ B)
    (hb : Below wr.heap.size wr wq) (hi : i < ks.length) (ho : OwnW wz B vj ((xsn ++ (ks.take i).flatMap F) ++ F (ks.getD i 0))) (hg : Gro wq wz vi vj) : Jn w0 W0 W2 B v vn vj xsn ks F (i + 1) wz := by
  have hbw : Gro wr wz vi vj := (Gro.below hb vi).trans hg
  exact ⟨by rw [take_one F hi, ← List.append_assoc]; exact ho, h.gro.trans hbw, h.all.trans hbw, hbw.to h.bel fun k hk => Nat.le_trans hB (h.own.block k hk).1⟩

theorem cells_two_new (w : World) (x y : Value) (t : TypeId) : ∀ j u, [x, y][j]? = some u → (w.alloc (.cells #[x, y] t)).cell? ((⟨w.heap.size, 0, none⟩ : Addr).add j) = some u := by
  intro j u hj
  have hb := heap_alloc_new w (.cells #[x, y] t)
  match j, hj with
  | 0, hj => simp at hj; subst hj; simp [Addr.add, two_c0 hb]
  | 1, hj => simp at hj; subst hj; simp [Addr.add, two_c1 hb]
theorem belowTrans2 {w0 w w' : World} (h : Below w0.heap.size w0 w) (h' : Below w.heap.size w w') : Below w0.heap.size w0 w' := h.trans (h'.mono h.size)
theorem rise_nodup {ks : List UInt8} (h : Rising ks) : ks.Nodup := h.imp fun h e => by rw [e] at h; omega
theorem no_key {w : World} {k : UInt8 → TT} {f : UInt8 → Option Addr} {ks : List UInt8} {F : UInt8 → List (Wd × Int)} {a : Wd} (hk : ∀ c, In w (k c) (f c)) (hm : ∀ c, c ∈ ks ↔ f c ≠ none) (hF : F = fun c => words (k c) (a ++ [c])) {d : UInt8} (hd : d ∉ ks) : F d = [] := by
  have h1 : f d = none := Classical.byContradiction fun h => hd ((hm d).2 h)
  have h2 := hk d
  rw [h1] at h2
  rw [hF]
  show words (k d) _ = []
  rw [h2.isnil, words_nil]

set_option maxRecDepth 100000 in
set_option maxHeartbeats 8000000 in
theorem step_words (w0 W : World) (v : Option Int) (k : UInt8 → TT) (ih : ∀ (c : UInt8) (W : World) (p : Option Addr) (n : Nat) (a : Wd) (o : Value) (xs : List (Wd × Int)), Asked w0 W (k c) p n a o xs → Calls Try.prog 23 #[.pointer p, sv a, o] W (RetWs w0 W o (xs ++ words (k c) a)))
    (p : Option Addr) (n : Nat) (a : Wd) (o : Value) (xs : List (Wd × Int)) (h : Asked w0 W (.node v k) p n a o xs) : Calls Try.prog 23 #[.pointer p, sv a, o] W (RetWs w0 W o (xs ++ words (.node v k) a)) := by
  obtain ⟨R, hR⟩ : ∃ R, R = xs ++ words (.node v k) a := ⟨_, rfl⟩
  rw [← hR]
  have HR := Lib.hid (And.intro hR h)
  obtain ⟨b, mo, f, rfl, hb, hm, hk⟩ := h.tin
  obtain ⟨At, haw⟩ : ∃ A, A = bw a := ⟨_, rfl⟩
  rw [sv_bw, ← haw]
  have HA := Lib.hid haw
  have HM := Lib.hid (And.intro hm (And.intro hk ih))
  have HB := Lib.hid hb
  have c2 := nodeC2 (upb h.bel hb)
  obtain ⟨F, hF⟩ : ∃ F : UInt8 → List (Wd × Int), F = fun c => words (k c) (a ++ [c]) := ⟨_, rfl⟩
  have hRF : R = (xs ++ wordAt v a) ++ bytes.flatMap F := by rw [hR, words_node, hF, List.append_assoc]
  have HF := Lib.hid (And.intro hRF hF)
  obtain ⟨i0, hi, hz0, hz1, hz2⟩ := info_parts infoW
  have Hi := Lib.hid (And.intro hi (And.intro hz0 (And.intro hz1 hz2)))
  have HG : Hid (Gro W W o o ∧ Below w0.heap.size w0 W ∧ OwnW W w0.heap.size o xs) := Lib.hid ⟨.refl _ _, h.bel, h.own⟩
  clear hR haw hm hk ih h hRF hF hi hz0 hz1 hz2
  cases v with
  | none =>
    rw [show (none : Option Int).isSome = false from rfl] at c2
    have c3 := nodeC3 (upb HG.out.2.1 HB.out)
    have HE : Hid (R = xs ++ bytes.flatMap F) := Lib.hid (by have := HF.out.1; rwa [show wordAt none a = [] from rfl, List.append_nil] at this)
    clear hb
    go_enter Try.func23, Try.ntmps23
    go_wp2_with fail
    refine (keys_any mo W).mono ?_
    rintro e w2 ⟨rfl, rfl⟩
    have hbK := belowAlloc W (.cells #[.map mo] 48)
    have HS := Lib.hid (sorted_any (W.alloc (.cells #[.map mo] 48)) W.heap.size mo f (cell_of_one (heap_alloc_new _ _)) (HM.out.1.up (belowTrans2 HG.out.2.1 hbK)))
    clear hbK c3
    go_wp2_with fail
    refine HS.out.mono ?_
    rintro e w3 ⟨sv0, ks, rfl, hrise, hmem, hby, hb3⟩
    obtain ⟨sa, sc, rfl, hcells⟩ := hby
    have hb13 : Below W.heap.size W w3 := belowTrans (belowAlloc _ _) hb3
    have HK := Lib.hid (And.intro hrise (And.intro hmem hcells))
    have HJ : Hid (Jn w0 W w3 w0.heap.size o o o (xs) ks F 0 w3) := Lib.hid ⟨by simpa using OwnW.up HG.out.2.2 hb13, .refl _ _, HG.out.1.trans (.below hb13 _), HG.out.2.1.trans (hb13.mono HG.out.2.1.size)⟩
    have hkl : ks.length ≤ 256 := keys_le ⟨rise_nodup hrise, hmem⟩
    have HV : Hid (W.heap.size ≤ w3.heap.size) := Lib.hid hb13.size
    clear hrise hmem hcells hb3 hb13 HS
    go_wp2_with fail
    go_loopw [2, 32] (fun ov iv wr => ∃ (i : Nat) (oi : Value), oi = ov ∧ iv = .int .i64 (i : Nat) ∧ i ≤ ks.length ∧ Hid (Jn w0 W w3 w0.heap.size o o oi (xs) ks F i wr)) (fun _ iv _ => ks.length - (intOf iv).toNat)
    case atStart => exact ⟨0, _, rfl, rfl, Nat.zero_le _, HJ⟩
    case round =>
      obtain ⟨i, oi, rfl, rfl, hi, HS⟩ := hrel
      clear HJ
      by_cases hlt : i < ks.length
      · have hlt2 : (i : Int) < (ks.length : Int) := by omega
        have hpos : (0 : Int) ≤ (i : Int) := by omega
        obtain ⟨c, hc⟩ : ∃ c, c = ks.getD i 0 := ⟨_, rfl⟩
        have hck : c ∈ ks := by rw [hc, List.getD_eq_getElem?_getD, List.getElem?_eq_getElem hlt]; exact List.getElem_mem _
        obtain ⟨g, rfl, kc⟩ : ∃ g, sa = some ⟨g, 0, none⟩ ∧ wr.cell? ⟨g, i, none⟩ = some (bv c) := by
          rcases HK.out.2.2 with h | ⟨g, e, h1, h2, h3⟩
          · rw [h] at hlt; simp at hlt
          · refine ⟨g, e, ?_⟩
            have h4 := h3 i hlt
            have h5 : wr.heap[g]? = w3.heap[g]? := HS.out.gro.block g h2 fun e => by have h6 := (HG.out.2.2.block g e).2; simp at h1; omega
            rw [hc, List.getD_eq_getElem?_getD, List.getElem?_eq_getElem hlt]
            unfold World.cell? at h4 ⊢
            rw [h5]
            exact h4
        have hfc := (HK.out.2.1 c).1 hck
        have hkin := HM.out.2.1 c
        obtain ⟨pk, hpk⟩ : ∃ pk, pk = f c := ⟨_, rfl⟩
        rw [← hpk] at hfc hkin
        have hkn : k c ≠ .nil := fun e => hfc (by rw [e] at hkin; exact hkin)
        obtain ⟨m, hm1, hm2⟩ := HR.out.2.deep.kid hkn
        have hfew : (xs ++ (ks.take i).flatMap F).length + cnt (k c) ≤ most := by
          have h1 := congrArg List.length HE.out
          have h2 := congrArg List.length HR.out.1
          rw [List.length_append, words_len] at h2
          rw [List.length_append, ← keys_flat HK.out.1 F fun d hd => no_key HM.out.2.1 HK.out.2.1 HF.out.2 hd] at h1
          have h3 := take_len F ks (i + 1)
          rw [take_one F hlt, List.length_append, ← hc] at h3
          have h4 : (F c).length = cnt (k c) := by rw [HF.out.2]; exact words_len _ _
          have h5 := HR.out.2.few
          rw [List.length_append]
          omega
        obtain ⟨ac, hac⟩ : ∃ ac, ac = sv (a ++ [c]) := ⟨_, rfl⟩
        obtain ⟨cw, hcw⟩ : ∃ cw, cw = sv [c] := ⟨_, rfl⟩
        obtain ⟨z, hcv⟩ : ∃ z : Int, z = (c.toNat : Int) := ⟨_, rfl⟩
        have hcz : bv c = .int .u8 z := by rw [hcv]; rfl
        have hadd : binOp .add 9 (.string At) cw = pure ac := by rw [HA.out, hcw, hac]; exact sv_add a [c] (by have := HR.out.2.len; simp; omega)
        have hconv : ∀ W g, W.cell? ⟨g, 0, none⟩ = some (.int .u8 z) → (convert 55 9 (.slice (some ⟨g, 0, none⟩) 1 1)).run Try.prog W = .ok cw W := by rw [← hcz, hcw]; exact fun W g h => sv_conv c W g h
        have hlk : ∀ V, Below wr.heap.size wr V → (Instr.lookup 48 (.map mo) (.int .u8 z) false).run Try.prog V = .ok (.pointer pk) V := fun V hV => by rw [← hcz, hpk]; exact look ((HM.out.1.up HS.out.bel).up hV) c
        have hcall : ∀ V, Below wr.heap.size wr V → Calls Try.prog 23 #[.pointer pk, ac, oi] V (RetWs w0 V oi ((xs ++ (ks.take i).flatMap F) ++ F c)) := fun V hV => by
          rw [hac, HF.out.2]
          have ho := HS.out.own
          rw [HF.out.2] at ho hfew
          exact HM.out.2.2 c V pk m (a ++ [c]) oi _ ⟨hkin, HS.out.bel.trans (hV.mono HS.out.bel.size), ho.up hV, hfew, hm2, by have := HR.out.2.len; simp; omega⟩
        have hw1 : IntKind.i64.wrap ((i : Int) + 1) = (i : Int) + 1 := IntWalk.i64_in _ (by omega)
        have k3 := nodeC3 (upb HS.out.bel HB.out)
        rw [hcz] at kc
        have HX := Lib.hid (And.intro hconv (And.intro hlk hcall))
        have HC := Lib.hid hc
        clear hconv hlk hcall hpk hkin hfc hkn hm1 hm2 hfew hac hcw hcz hcv hc hck
        go_wp2_with fail
        refine grow.wp_grow_tail 12 [grow.kEq (.pointer (some ⟨b, 0, none⟩)), grow.kEq (.pointer (some ⟨b, 0, none⟩)), grow.kEq (.pointer (some ⟨b, 3, none⟩)), grow.kEq (.map mo), grow.kEq (.int .u8 z), grow.kEq (.pointer pk), grow.kEq (.string At), grow.kEq (.int .u8 z), kSl (.int .u8 z), grow.kEq (cw), grow.kEq (ac), grow.kEq (oi)] (of_decide_eq_true (by kernel_rfl)) (by kernel_rfl) (by kernel_rfl) (by kernel_rfl) (by kernel_rfl) (by kernel_rfl) ?step ?fin
        case step =>
          refine grow.EachT.cons ?_ ?_
          · intro A W hB hs hJ K hK
            have s0 := hs 0 (by kernel_rfl)
            simp at s0
            rw [if_pos (by rfl)]
            clear hs hJ
            go_simp
            exact hK _ _ (Below.refl _ _) rfl
          refine grow.EachT.cons ?_ ?_
          · intro A W hB hs hJ K hK
            have s0 : A.tmps.getD 36 undef = .pointer (some ⟨b, 0, none⟩) := hJ 0 36 (by kernel_rfl) (by kernel_rfl)
            simp at s0
            rw [if_pos (by rfl)]
            clear hs hJ
            go_simp
            exact hK _ _ (Below.refl _ _) rfl
          refine grow.EachT.cons ?_ ?_
          · intro A W hB hs hJ K hK
            have s0 : A.tmps.getD 37 undef = .pointer (some ⟨b, 0, none⟩) := hJ 1 37 (by kernel_rfl) (by kernel_rfl)
            simp at s0
            rw [if_pos (by rfl)]
            clear hs hJ
            go_simp
            exact hK _ _ (Below.refl _ _) rfl
          refine grow.EachT.cons ?_ ?_
          · intro A W hB hs hJ K hK
            have s0 : A.tmps.getD 38 undef = .pointer (some ⟨b, 3, none⟩) := hJ 2 38 (by kernel_rfl) (by kernel_rfl)
            simp at s0
            have kk := upc hB k3
            rw [if_pos (by rfl)]
            clear hs hJ
            go_simp
            exact hK _ _ (Below.refl _ _) rfl
          refine grow.EachT.cons ?_ ?_
          · intro A W hB hs hJ K hK
            have s0 := hs 8 (by kernel_rfl)
            simp at s0
            rw [if_pos (by rfl)]
            clear hs hJ
            go_simp
            exact hK _ _ (Below.refl _ _) rfl
          refine grow.EachT.cons ?_ ?_
          · intro A W hB hs hJ K hK
            have s0 : A.tmps.getD 39 undef = .map mo := hJ 3 39 (by kernel_rfl) (by kernel_rfl)
            simp at s0
            have s1 : A.tmps.getD 40 undef = .int .u8 z := hJ 4 40 (by kernel_rfl) (by kernel_rfl)
            simp at s1
            have hl := HX.out.2.1 W hB
            rw [if_pos (by rfl)]
            clear hs hJ
            go_simp
            exact hK _ _ (Below.refl _ _) rfl
          refine grow.EachT.cons ?_ ?_
          · intro A W hB hs hJ K hK
            have s0 := hs 1 (by kernel_rfl)
            simp at s0
            rw [if_pos (by rfl)]
            clear hs hJ
            go_simp
            exact hK _ _ (Below.refl _ _) rfl
          refine grow.EachT.cons ?_ ?_
          · intro A W hB hs hJ K hK
            have s0 := hs 8 (by kernel_rfl)
            simp at s0
            rw [if_pos (by rfl)]
            clear hs hJ
            go_simp
            exact hK _ _ (Below.refl _ _) rfl
          refine grow.EachT.cons ?_ ?_
          · intro A W hB hs hJ K hK
            have s0 : A.tmps.getD 43 undef = .int .u8 z := hJ 7 43 (by kernel_rfl) (by kernel_rfl)
            simp at s0
            rw [if_pos (by rfl)]
            clear hs hJ
            go_simp
            exact hK _ _ (belowAlloc _ _) ⟨_, rfl, cell_of_one (heap_alloc_new _ _)⟩
          refine grow.EachT.cons ?_ ?_
          · intro A W hB hs hJ K hK
            obtain ⟨gN, s0, hN⟩ := hJ 8 44 (by kernel_rfl) (by kernel_rfl)
            simp at s0
            have hl := HX.out.1 W _ hN
            rw [if_pos (by rfl)]
            clear hs hJ
            go_simp
            exact hK _ _ (Below.refl _ _) rfl
          refine grow.EachT.cons ?_ ?_
          · intro A W hB hs hJ K hK
            have s0 : A.tmps.getD 42 undef = .string At := hJ 6 42 (by kernel_rfl) (by kernel_rfl)
            simp at s0
            have s1 : A.tmps.getD 45 undef = cw := hJ 9 45 (by kernel_rfl) (by kernel_rfl)
            simp at s1
            rw [if_pos (by rfl)]
            clear hs hJ
            go_simp
            exact hK _ _ (Below.refl _ _) rfl
          refine grow.EachT.cons ?_ ?_
          · intro A W hB hs hJ K hK
            have s0 := hs 2 (by kernel_rfl)
            simp at s0
            rw [if_pos (by rfl)]
            clear hs hJ
            go_simp
            exact hK _ _ (Below.refl _ _) rfl
          exact grow.EachT.nil
        case fin =>
          intro f W hB hF
          have f0 : f 0 = .pointer (some ⟨b, 0, none⟩) := hF 0 (by decide)
          have f1 : f 1 = .pointer (some ⟨b, 0, none⟩) := hF 1 (by decide)
          have f2 : f 2 = .pointer (some ⟨b, 3, none⟩) := hF 2 (by decide)
          have f3 : f 3 = .map mo := hF 3 (by decide)
          have f4 : f 4 = .int .u8 z := hF 4 (by decide)
          have f5 : f 5 = .pointer pk := hF 5 (by decide)
          have f6 : f 6 = .string At := hF 6 (by decide)
          have f7 : f 7 = .int .u8 z := hF 7 (by decide)
          obtain ⟨gN_8, f8, -⟩ := hF 8 (by decide)
          have f9 : f 9 = cw := hF 9 (by decide)
          have f10 : f 10 = ac := hF 10 (by decide)
          have f11 : f 11 = oi := hF 11 (by decide)
          clear hF
          intro A hA
          simp only [grow.puts, Act.put, List.getElem?_toArray, List.getElem?_cons_zero, List.getElem?_cons_succ, Option.bind_some, List.setIfInBounds_toArray, List.set_cons_zero, List.set_cons_succ, f0, f1, f2, f3, f4, f5, f6, f7, f8, f9, f10, f11] at hA
          subst hA
          simp only [List.drop_succ_cons, List.drop_zero]
          have HBx := Lib.hid hB
          clear hB
          go_wp2_with fail
          refine (HX.out.2.2 W HBx.out).mono ?_
          rintro e w5 ⟨v5, rfl, ho5, hg5⟩
          have HN := Lib.hid (Jn.next HS.out (Nat.le_refl _) HBx.out hlt (by rw [← HC.out]; exact ho5) hg5)
          clear ho5 hg5 HX
          go_wp2_with fail
          go_roundw
          case rel => exact ⟨i + 1, v5, rfl, by go_num, hlt, HN⟩
          case measure => simp [intOf]; omega
      · have hlt2 : ¬ ((i : Int) < (ks.length : Int)) := by omega
        obtain rfl : i = ks.length := by omega
        go_wp2_with fail
        go_ret
        refine ⟨oi, rfl, ?_, HS.out.all⟩
        have h := HS.out.own
        rw [List.take_length, keys_flat HK.out.1 F fun d hd => no_key HM.out.2.1 HK.out.2.1 HF.out.2 hd] at h
        rw [HE.out]
        exact h
  | some x =>
    rw [show (some x).isSome = true from rfl] at c2
    have c0 := nodeC0 (upb HG.out.2.1 HB.out)
    rw [show (some x).getD 0 = x from rfl] at c0
    have HE : Hid (R = (xs ++ [(a, x)]) ++ bytes.flatMap F) := Lib.hid (by have := HF.out.1; rwa [show wordAt (some x) a = [(a, x)] from rfl] at this)
    have ho := HG.out.2.2
    unfold OwnW at ho
    have hlen : xs.length + 1 ≤ most := by
      have h1 := congrArg List.length HE.out
      have h2 := congrArg List.length HR.out.1
      rw [List.length_append, words_len] at h2
      have := HR.out.2.few
      simp only [List.length_append, List.length_cons, List.length_nil] at h1
      omega
    have HL := Lib.hid hlen
    have hsW := HG.out.2.1.size
    clear hb hlen
    go_enter Try.func23, Try.ntmps23
    go_wp2_with (at_builtin; obtain ⟨hi, hz0, hz1, hz2⟩ := Hi.out; refine wpList_append_own_at _ rfl (.tmp 16) (.tmp 23) 37 rfl w0.heap.size 29 i0 (.agg #[.string { data := #[] }, .int .i64 0]) 2 24 Try.underlying37 hi hz0 hz1 hz2 rfl (by decide) o xs.length (cellsW xs) rfl (World.ownsRow.alloc ho _) ⟨W.heap.size, 0, none⟩ 1 1 [.string At, .int .i64 x] rfl rfl ?c1 ?c2 ?c3 ?c4 ?c5 ?_)
    case c1 => exact cells_two_new _ _ _ _
    case c2 => intro u hu; simp only [List.mem_cons, List.not_mem_nil, or_false] at hu; rcases hu with rfl | rfl <;> rfl
    case c3 => have := HL.out; unfold most at this; unfold maxLen; omega
    case c4 => have := HL.out; unfold most at this; omega
    case c5 => simp; omega
    intro o1 w1 hown1 hgrow _ hat
    have hG1 : Gro W w1 o o1 := Gro.app hgrow (by simpa using hat)
    have hO1 : OwnW w1 w0.heap.size o1 (xs ++ [(a, x)]) := by unfold OwnW; rw [cellsW_append, List.length_append]; rw [HA.out] at hown1; exact hown1
    have HG1 : Hid (Gro W w1 o o1 ∧ Below w0.heap.size w0 w1 ∧ OwnW w1 w0.heap.size o1 (xs ++ [(a, x)])) := Lib.hid ⟨hG1, hG1.to HG.out.2.1 fun k hk => (HG.out.2.2.block k hk).1, hO1⟩
    have c3 := nodeC3 (upb HG1.out.2.1 HB.out)
    clear hown1 hgrow hat hG1 hO1 c0 c2 ho hsW
    go_wp2_with fail
    refine (keys_any mo w1).mono ?_
    rintro e w2 ⟨rfl, rfl⟩
    have hbK := belowAlloc w1 (.cells #[.map mo] 48)
    have HS := Lib.hid (sorted_any (w1.alloc (.cells #[.map mo] 48)) w1.heap.size mo f (cell_of_one (heap_alloc_new _ _)) (HM.out.1.up (belowTrans2 HG1.out.2.1 hbK)))
    clear hbK c3
    go_wp2_with fail
    refine HS.out.mono ?_
    rintro e w3 ⟨sv0, ks, rfl, hrise, hmem, hby, hb3⟩
    obtain ⟨sa, sc, rfl, hcells⟩ := hby
    have hb13 : Below w1.heap.size w1 w3 := belowTrans (belowAlloc _ _) hb3
    have HK := Lib.hid (And.intro hrise (And.intro hmem hcells))
    have HJ : Hid (Jn w0 W w3 w0.heap.size o o1 o1 (xs ++ [(a, x)]) ks F 0 w3) := Lib.hid ⟨by simpa using OwnW.up HG1.out.2.2 hb13, .refl _ _, HG1.out.1.trans (.below hb13 _), HG1.out.2.1.trans (hb13.mono HG1.out.2.1.size)⟩
    have hkl : ks.length ≤ 256 := keys_le ⟨rise_nodup hrise, hmem⟩
    have HV : Hid (w1.heap.size ≤ w3.heap.size) := Lib.hid hb13.size
    clear hrise hmem hcells hb3 hb13 HS
    go_wp2_with fail
    go_loopw [2, 32] (fun ov iv wr => ∃ (i : Nat) (oi : Value), oi = ov ∧ iv = .int .i64 (i : Nat) ∧ i ≤ ks.length ∧ Hid (Jn w0 W w3 w0.heap.size o o1 oi (xs ++ [(a, x)]) ks F i wr)) (fun _ iv _ => ks.length - (intOf iv).toNat)
    case atStart => exact ⟨0, _, rfl, rfl, Nat.zero_le _, HJ⟩
    case round =>
      obtain ⟨i, oi, rfl, rfl, hi, HS⟩ := hrel
      clear HJ
      by_cases hlt : i < ks.length
      · have hlt2 : (i : Int) < (ks.length : Int) := by omega
        have hpos : (0 : Int) ≤ (i : Int) := by omega
        obtain ⟨c, hc⟩ : ∃ c, c = ks.getD i 0 := ⟨_, rfl⟩
        have hck : c ∈ ks := by rw [hc, List.getD_eq_getElem?_getD, List.getElem?_eq_getElem hlt]; exact List.getElem_mem _
        obtain ⟨g, rfl, kc⟩ : ∃ g, sa = some ⟨g, 0, none⟩ ∧ wr.cell? ⟨g, i, none⟩ = some (bv c) := by
          rcases HK.out.2.2 with h | ⟨g, e, h1, h2, h3⟩
          · rw [h] at hlt; simp at hlt
          · refine ⟨g, e, ?_⟩
            have h4 := h3 i hlt
            have h5 : wr.heap[g]? = w3.heap[g]? := HS.out.gro.block g h2 fun e => by have h6 := (HG1.out.2.2.block g e).2; simp at h1; omega
            rw [hc, List.getD_eq_getElem?_getD, List.getElem?_eq_getElem hlt]
            unfold World.cell? at h4 ⊢
            rw [h5]
            exact h4
        have hfc := (HK.out.2.1 c).1 hck
        have hkin := HM.out.2.1 c
        obtain ⟨pk, hpk⟩ : ∃ pk, pk = f c := ⟨_, rfl⟩
        rw [← hpk] at hfc hkin
        have hkn : k c ≠ .nil := fun e => hfc (by rw [e] at hkin; exact hkin)
        obtain ⟨m, hm1, hm2⟩ := HR.out.2.deep.kid hkn
        have hfew : ((xs ++ [(a, x)]) ++ (ks.take i).flatMap F).length + cnt (k c) ≤ most := by
          have h1 := congrArg List.length HE.out
          have h2 := congrArg List.length HR.out.1
          rw [List.length_append, words_len] at h2
          rw [List.length_append, ← keys_flat HK.out.1 F fun d hd => no_key HM.out.2.1 HK.out.2.1 HF.out.2 hd] at h1
          have h3 := take_len F ks (i + 1)
          rw [take_one F hlt, List.length_append, ← hc] at h3
          have h4 : (F c).length = cnt (k c) := by rw [HF.out.2]; exact words_len _ _
          have h5 := HR.out.2.few
          rw [List.length_append]
          omega
        obtain ⟨ac, hac⟩ : ∃ ac, ac = sv (a ++ [c]) := ⟨_, rfl⟩
        obtain ⟨cw, hcw⟩ : ∃ cw, cw = sv [c] := ⟨_, rfl⟩
        obtain ⟨z, hcv⟩ : ∃ z : Int, z = (c.toNat : Int) := ⟨_, rfl⟩
        have hcz : bv c = .int .u8 z := by rw [hcv]; rfl
        have hadd : binOp .add 9 (.string At) cw = pure ac := by rw [HA.out, hcw, hac]; exact sv_add a [c] (by have := HR.out.2.len; simp; omega)
        have hconv : ∀ W g, W.cell? ⟨g, 0, none⟩ = some (.int .u8 z) → (convert 55 9 (.slice (some ⟨g, 0, none⟩) 1 1)).run Try.prog W = .ok cw W := by rw [← hcz, hcw]; exact fun W g h => sv_conv c W g h
        have hlk : ∀ V, Below wr.heap.size wr V → (Instr.lookup 48 (.map mo) (.int .u8 z) false).run Try.prog V = .ok (.pointer pk) V := fun V hV => by rw [← hcz, hpk]; exact look ((HM.out.1.up HS.out.bel).up hV) c
        have hcall : ∀ V, Below wr.heap.size wr V → Calls Try.prog 23 #[.pointer pk, ac, oi] V (RetWs w0 V oi (((xs ++ [(a, x)]) ++ (ks.take i).flatMap F) ++ F c)) := fun V hV => by
          rw [hac, HF.out.2]
          have ho := HS.out.own
          rw [HF.out.2] at ho hfew
          exact HM.out.2.2 c V pk m (a ++ [c]) oi _ ⟨hkin, HS.out.bel.trans (hV.mono HS.out.bel.size), ho.up hV, hfew, hm2, by have := HR.out.2.len; simp; omega⟩
        have hw1 : IntKind.i64.wrap ((i : Int) + 1) = (i : Int) + 1 := IntWalk.i64_in _ (by omega)
        have k3 := nodeC3 (upb HS.out.bel HB.out)
        rw [hcz] at kc
        have HX := Lib.hid (And.intro hconv (And.intro hlk hcall))
        have HC := Lib.hid hc
        clear hconv hlk hcall hpk hkin hfc hkn hm1 hm2 hfew hac hcw hcz hcv hc hck
        go_wp2_with fail
        refine grow.wp_grow_tail 12 [grow.kEq (.pointer (some ⟨b, 0, none⟩)), grow.kEq (.pointer (some ⟨b, 0, none⟩)), grow.kEq (.pointer (some ⟨b, 3, none⟩)), grow.kEq (.map mo), grow.kEq (.int .u8 z), grow.kEq (.pointer pk), grow.kEq (.string At), grow.kEq (.int .u8 z), kSl (.int .u8 z), grow.kEq (cw), grow.kEq (ac), grow.kEq (oi)] (of_decide_eq_true (by kernel_rfl)) (by kernel_rfl) (by kernel_rfl) (by kernel_rfl) (by kernel_rfl) (by kernel_rfl) ?step ?fin
        case step =>
          refine grow.EachT.cons ?_ ?_
          · intro A W hB hs hJ K hK
            have s0 := hs 0 (by kernel_rfl)
            simp at s0
            rw [if_pos (by rfl)]
            clear hs hJ
            go_simp
            exact hK _ _ (Below.refl _ _) rfl
          refine grow.EachT.cons ?_ ?_
          · intro A W hB hs hJ K hK
            have s0 : A.tmps.getD 36 undef = .pointer (some ⟨b, 0, none⟩) := hJ 0 36 (by kernel_rfl) (by kernel_rfl)
            simp at s0
            rw [if_pos (by rfl)]
            clear hs hJ
            go_simp
            exact hK _ _ (Below.refl _ _) rfl
          refine grow.EachT.cons ?_ ?_
          · intro A W hB hs hJ K hK
            have s0 : A.tmps.getD 37 undef = .pointer (some ⟨b, 0, none⟩) := hJ 1 37 (by kernel_rfl) (by kernel_rfl)
            simp at s0
            rw [if_pos (by rfl)]
            clear hs hJ
            go_simp
            exact hK _ _ (Below.refl _ _) rfl
          refine grow.EachT.cons ?_ ?_
          · intro A W hB hs hJ K hK
            have s0 : A.tmps.getD 38 undef = .pointer (some ⟨b, 3, none⟩) := hJ 2 38 (by kernel_rfl) (by kernel_rfl)
            simp at s0
            have kk := upc hB k3
            rw [if_pos (by rfl)]
            clear hs hJ
            go_simp
            exact hK _ _ (Below.refl _ _) rfl
          refine grow.EachT.cons ?_ ?_
          · intro A W hB hs hJ K hK
            have s0 := hs 8 (by kernel_rfl)
            simp at s0
            rw [if_pos (by rfl)]
            clear hs hJ
            go_simp
            exact hK _ _ (Below.refl _ _) rfl
          refine grow.EachT.cons ?_ ?_
          · intro A W hB hs hJ K hK
            have s0 : A.tmps.getD 39 undef = .map mo := hJ 3 39 (by kernel_rfl) (by kernel_rfl)
            simp at s0
            have s1 : A.tmps.getD 40 undef = .int .u8 z := hJ 4 40 (by kernel_rfl) (by kernel_rfl)
            simp at s1
            have hl := HX.out.2.1 W hB
            rw [if_pos (by rfl)]
            clear hs hJ
            go_simp
            exact hK _ _ (Below.refl _ _) rfl
          refine grow.EachT.cons ?_ ?_
          · intro A W hB hs hJ K hK
            have s0 := hs 1 (by kernel_rfl)
            simp at s0
            rw [if_pos (by rfl)]
            clear hs hJ
            go_simp
            exact hK _ _ (Below.refl _ _) rfl
          refine grow.EachT.cons ?_ ?_
          · intro A W hB hs hJ K hK
            have s0 := hs 8 (by kernel_rfl)
            simp at s0
            rw [if_pos (by rfl)]
            clear hs hJ
            go_simp
            exact hK _ _ (Below.refl _ _) rfl
          refine grow.EachT.cons ?_ ?_
          · intro A W hB hs hJ K hK
            have s0 : A.tmps.getD 43 undef = .int .u8 z := hJ 7 43 (by kernel_rfl) (by kernel_rfl)
            simp at s0
            rw [if_pos (by rfl)]
            clear hs hJ
            go_simp
            exact hK _ _ (belowAlloc _ _) ⟨_, rfl, cell_of_one (heap_alloc_new _ _)⟩
          refine grow.EachT.cons ?_ ?_
          · intro A W hB hs hJ K hK
            obtain ⟨gN, s0, hN⟩ := hJ 8 44 (by kernel_rfl) (by kernel_rfl)
            simp at s0
            have hl := HX.out.1 W _ hN
            rw [if_pos (by rfl)]
            clear hs hJ
            go_simp
            exact hK _ _ (Below.refl _ _) rfl
          refine grow.EachT.cons ?_ ?_
          · intro A W hB hs hJ K hK
            have s0 : A.tmps.getD 42 undef = .string At := hJ 6 42 (by kernel_rfl) (by kernel_rfl)
            simp at s0
            have s1 : A.tmps.getD 45 undef = cw := hJ 9 45 (by kernel_rfl) (by kernel_rfl)
            simp at s1
            rw [if_pos (by rfl)]
            clear hs hJ
            go_simp
            exact hK _ _ (Below.refl _ _) rfl
          refine grow.EachT.cons ?_ ?_
          · intro A W hB hs hJ K hK
            have s0 := hs 2 (by kernel_rfl)
            simp at s0
            rw [if_pos (by rfl)]
            clear hs hJ
            go_simp
            exact hK _ _ (Below.refl _ _) rfl
          exact grow.EachT.nil
        case fin =>
          intro f W hB hF
          have f0 : f 0 = .pointer (some ⟨b, 0, none⟩) := hF 0 (by decide)
          have f1 : f 1 = .pointer (some ⟨b, 0, none⟩) := hF 1 (by decide)
          have f2 : f 2 = .pointer (some ⟨b, 3, none⟩) := hF 2 (by decide)
          have f3 : f 3 = .map mo := hF 3 (by decide)
          have f4 : f 4 = .int .u8 z := hF 4 (by decide)
          have f5 : f 5 = .pointer pk := hF 5 (by decide)
          have f6 : f 6 = .string At := hF 6 (by decide)
          have f7 : f 7 = .int .u8 z := hF 7 (by decide)
          obtain ⟨gN_8, f8, -⟩ := hF 8 (by decide)
          have f9 : f 9 = cw := hF 9 (by decide)
          have f10 : f 10 = ac := hF 10 (by decide)
          have f11 : f 11 = oi := hF 11 (by decide)
          clear hF
          intro A hA
          simp only [grow.puts, Act.put, List.getElem?_toArray, List.getElem?_cons_zero, List.getElem?_cons_succ, Option.bind_some, List.setIfInBounds_toArray, List.set_cons_zero, List.set_cons_succ, f0, f1, f2, f3, f4, f5, f6, f7, f8, f9, f10, f11] at hA
          subst hA
          simp only [List.drop_succ_cons, List.drop_zero]
          have HBx := Lib.hid hB
          clear hB
          go_wp2_with fail
          refine (HX.out.2.2 W HBx.out).mono ?_
          rintro e w5 ⟨v5, rfl, ho5, hg5⟩
          have HN := Lib.hid (Jn.next HS.out (Nat.le_refl _) HBx.out hlt (by rw [← HC.out]; exact ho5) hg5)
          clear ho5 hg5 HX
          go_wp2_with fail
          go_roundw
          case rel => exact ⟨i + 1, v5, rfl, by go_num, hlt, HN⟩
          case measure => simp [intOf]; omega
      · have hlt2 : ¬ ((i : Int) < (ks.length : Int)) := by omega
        obtain rfl : i = ks.length := by omega
        go_wp2_with fail
        go_ret
        refine ⟨oi, rfl, ?_, HS.out.all⟩
        have h := HS.out.own
        rw [List.take_length, keys_flat HK.out.1 F fun d hd => no_key HM.out.2.1 HK.out.2.1 HF.out.2 hd] at h
        rw [HE.out]
        exact h
theorem words_any (w0 : World) (t : TT) : ∀ (W : World) (p : Option Addr) (n : Nat) (a : Wd) (o : Value) (xs : List (Wd × Int)), Asked w0 W t p n a o xs → Calls Try.prog 23 #[.pointer p, sv a, o] W (RetWs w0 W o (xs ++ words t a)) := by
  induction t with
  | nil =>
    intro W p n a o xs h
    obtain rfl : p = none := h.tin
    refine (nilWords W (sv a) o).mono ?_
    rintro e w' ⟨rfl, rfl⟩
    exact ⟨o, rfl, by rw [words_nil, List.append_nil]; exact h.own, .refl _ _⟩
  | node v k ih => exact fun W p n a o xs h => step_words w0 W v k ih p n a o xs h
end Go.Proofs.Yteglhcpochcopaa.trie
