/- What tries tell, against lists of words. -/
import Derived.Test.YteglhcpochcopaaTrieTe
import Derived.Test.YteglhcpochcopaaTrieLongest
namespace Go.Proofs.Yteglhcpochcopaa.trie
open Go.RowKit

/-- a slice that reads as words -/
def kRow (l : List (Wd × Int)) (n : Nat) : grow.Kept := ⟨fun x W => ∃ a c, x = .slice a n c ∧ ReadsW W a l, fun _ _ _ hb ⟨a, c, e, h⟩ => ⟨a, c, e, h.up hb⟩⟩
theorem ReadsW.store {W : World} {G ty : Nat} {p : Option Addr} {fz : Nat × Nat} {a : Option Addr} {l : List (Wd × Int)} (h : ReadsW W a l) (hG : W.heap[G]? = some (.cells #[.pointer p] ty fz)) (v : Value) : ReadsW (W.setCell ⟨G, 0, none⟩ v) a l := by
  rcases h with h | ⟨b, o, e, h⟩
  · exact .inl h
  · refine .inr ⟨b, o, e, fun i hi => ?_⟩
    have hne : b ≠ G := by
      rintro rfl
      have h1 := (h i hi).1
      unfold World.cell? at h1
      rw [hG] at h1
      cases hk : o + i * 2 with
      | zero => rw [hk] at h1; simp [sv] at h1
      | succ k => rw [hk] at h1; simp at h1
    have e2 : (W.setCell ⟨G, 0, none⟩ v).heap[b]? = W.heap[b]? := Below.heap_setCell W ⟨G, 0, none⟩ v b hne
    refine ⟨?_, ?_⟩
    · have := (h i hi).1; unfold World.cell? at this ⊢; rw [e2]; exact this
    · have := (h i hi).2; unfold World.cell? at this ⊢; rw [e2]; exact this
/-- the trie and the list tell the same -/
structure LI (w : World) (G j : Nat) (ov : Value) (wr : World) (T : TT) (p : Option Addr) (aa : Option Addr) (cc : Nat) : Prop where
  e : ov = .slice aa (words T []).length cc
  r : ReadsW wr aa (words T [])
  st : St w G T p wr
  ok : Ok T
  few : cnt T ≤ j
  len : ∀ u x, get T u = some x → u.length ≤ 1048576
theorem LI.keys {w : World} {G j : Nat} {ov : Value} {wr : World} {T : TT} {p : Option Addr} {aa : Option Addr} {cc : Nat} (h : LI w G j ov wr T p aa cc) : ∀ q ∈ words T [], q.1.length ≤ 140737488351232 := by
  rintro ⟨u, x⟩ hq
  obtain ⟨s, e, hg⟩ := mem_words.1 hq
  have := h.len s x hg
  simp at e
  rw [← e] at this
  show u.length ≤ _
  omega

theorem eqV (x1 : Wd) (x2 : Int) (W : World) : (binOp .eql 29 (.agg #[.string (bw x1), .int .i64 x2]) (.agg #[.string (bw x1), .int .i64 x2])).run Try.prog W = .ok (.bool true) W := by
  rw [run_eql_struct, run_equalIn_agg _ _ _ _ _ (by kernel_rfl) (by kernel_rfl)]
  have hf : (Try.prog.fieldsOf 29).toList = [{ name := "Text", type := 9, offset := 0, embedded := false, tag := "", pkgPath := "", byteOffset := 0 }, { name := "Val", type := 3, offset := 1, embedded := false, tag := "", pkgPath := "", byteOffset := 16 }] := by kernel_rfl
  rw [hf]
  simp [Op.eqFields, part0, part1, run_equalIn_int _ _ _ _ _ _ _ Try.underlying3, run_equalIn_string _ _ _ _ _ Try.underlying9, Result.andThen]
/-- the second loop: a row of its own that grows, a word's box -/
structure L2 (w0 : World) (B F : Nat) (ow : Value) (ul : List (Wd × Int)) (o : Option (Wd × Int)) (W : World) : Prop where
  own : OwnW W B ow ul
  bel : Below w0.heap.size w0 W
  siz : B ≤ W.heap.size
  lt : F < B
  ge : w0.heap.size ≤ F
  box : W.heap[F]? = some (.cells #[sv (textOf o), .int .i64 (numOf o)] 29 (0, 0))
theorem L2.up {w0 : World} {B F : Nat} {ow : Value} {ul : List (Wd × Int)} {o : Option (Wd × Int)} {W W' : World} (h : L2 w0 B F ow ul o W) (hb : Below W.heap.size W W') : L2 w0 B F ow ul o W' :=
  ⟨OwnW.up h.own hb, h.bel.trans (hb.mono h.bel.size), Nat.le_trans h.siz hb.size, h.lt, h.ge, upb hb h.box⟩
theorem L2.app {w0 : World} {B F : Nat} {ow ov : Value} {ul : List (Wd × Int)} {o : Option (Wd × Int)} {W w1 : World} {ob : Obj} {p : Wd × Int} (h : L2 w0 B F ow ul o W)
    (hown : w1.ownsRow B 29 2 ov (ul.length + 1) (cellsW ul ++ [sv p.1, .int .i64 p.2])) (hg : (W.alloc ob).grownBy w1 ow.ownBlock) : L2 w0 B F ov (ul ++ [p]) o w1 := by
  have hz : (W.alloc ob).heap.size = W.heap.size + 1 := by simp
  have hown' : ∀ k, ow.ownBlock = some k → B ≤ k := fun k hk => (OwnW.block h.own k hk).1
  have hlt := h.lt
  have hge := h.ge
  have hsz := h.siz
  refine ⟨?_, Below.grown (h.bel.alloc h.bel.size ob) hg (by have := h.bel.size; omega) (fun k hk => by have := hown' k hk; omega), by have := hg.size; omega, h.lt, h.ge, ?_⟩
  · unfold OwnW
    rw [cellsW_append, List.length_append]
    exact hown
  · refine ((hg.block F (by omega) fun e => by have := hown' F e.symm; omega).trans (Below.heap_alloc W ob F (by omega))).trans h.box
theorem L2.put {w0 : World} {B F : Nat} {ow : Value} {ul : List (Wd × Int)} {o : Option (Wd × Int)} {W : World} (h : L2 w0 B F ow ul o W) (p : Wd × Int) : L2 w0 B F ow ul (some p) ((W.setCell ⟨F, 0, none⟩ (sv p.1)).setCell ⟨F, 1, none⟩ (.int .i64 p.2)) := by
  refine ⟨?_, belowSet2 h.bel h.ge _ _, by simp [World.setCell]; exact h.siz, h.lt, h.ge, two_set2 h.box⟩
  have h1 := ownsRow_setCell_below h.own (a := ⟨F, 0, none⟩) h.lt (sv p.1)
  exact ownsRow_setCell_below h1 (a := ⟨F, 1, none⟩) h.lt (.int .i64 p.2)

set_option maxRecDepth 100000 in
set_option maxHeartbeats 16000000 in
theorem tells_law (a : Option Addr) (c n : Nat) (l : List (Wd × Int)) (s : Wd) (w : World) (hn : l.length = n) (hb : n ≤ 1048576) (hl : ∀ x ∈ l, x.1.length ≤ 1048576) (hs : s.length ≤ 140737488351232) (hr : ReadsW w a l) :
    Calls Try.prog 7 #[.slice a n c, sv s] w (Yes w) := by
  have HA := Lib.hid (And.intro hn (And.intro hs (And.intro hr hl)))
  obtain ⟨xs, hxs⟩ : ∃ xs, xs = bw s := ⟨_, rfl⟩
  rw [sv_bw, ← hxs]
  have HX := Lib.hid hxs
  clear hn hs hr hl hxs
  go_enter Try.func7, Try.ntmps7
  go_wp2_with fail
  refine (worded_any w).mono ?_
  rintro e w1 ⟨rfl, hb1⟩
  have hst0 : St w w1.heap.size .nil none (w1.alloc (.cells #[.pointer none] 26)) := ⟨belowTrans hb1 (belowAlloc w1 _), hb1.size, heap_alloc_new w1 _, rfl⟩
  have HI : Hid (∃ T p aa cc, LI w w1.heap.size 0 (.slice none 0 0) (w1.alloc (.cells #[.pointer none] 26)) T p aa cc) := Lib.hid ⟨.nil, none, none, 0, by rw [words_nil]; rfl, .inl (words_nil _), hst0, trivial, by rw [cnt_nil]; exact Nat.le_refl _, fun u x h => by rw [get_nil] at h; cases h⟩
  have HG := Lib.hid hb1.size
  obtain ⟨G, hG⟩ : ∃ G, G = w1.heap.size := ⟨_, rfl⟩
  clear hst0 hb1
  go_wp2_with fail
  rw [← hG] at HI HG ⊢
  clear hG
  go_loopw [7, 8] (fun av iv wr => ∃ (j : Nat) (ov : Value), ov = av ∧ iv = .int .i64 j ∧ j ≤ n ∧ Hid (∃ T p aa cc, LI w G j ov wr T p aa cc)) (fun _ iv _ => n - (intOf iv).toNat)
  case atStart => exact ⟨0, _, rfl, rfl, Nat.zero_le _, HI⟩
  case round =>
    obtain ⟨j, ov, rfl, rfl, hj, HS⟩ := hrel
    have j0 : (0 : Int) ≤ (j : Int) := by omega
    clear HI
    obtain ⟨T, p, aa, cc, hli⟩ := HS.out
    obtain rfl := hli.e
    rcases Nat.lt_or_ge j n with hlt | hge
    · obtain ⟨ab, ao, rfl, hc1, hc2⟩ := HA.out.2.2.1.at (k := j) (by rw [HA.out.1]; exact hlt)
      have hlt' : (j : Int) < (n : Int) := by omega
      have hw1 : IntKind.i64.wrap ((j : Int) + 1) = (j : Int) + 1 := IntWalk.i64_in _ (by omega)
      have k0 := cell_of_one hli.st.b0
      obtain ⟨y, hy⟩ : ∃ y, y = l.getD j ([], 0) := ⟨_, rfl⟩
      have hyl : y.1.length ≤ 1048576 := by rw [hy, List.getD_eq_getElem?_getD, List.getElem?_eq_getElem (by rw [HA.out.1]; exact hlt)]; exact HA.out.2.2.2 _ (List.getElem_mem _)
      have q1 := upc hli.st.bel hc1
      have q2 := upc hli.st.bel hc2
      rw [← hy] at q1 q2 hc1 hc2
      obtain ⟨y1, y2⟩ := y
      dsimp only at q1 q2 hyl hc1 hc2
      clear hy
      obtain ⟨Lw, hLw⟩ : ∃ L, L = words T [] := ⟨_, rfl⟩
      rw [← hLw]
      obtain ⟨N, hN⟩ : ∃ N, N = Lw.length := ⟨_, rfl⟩
      rw [← hN]
      have hNn : N ≤ 1048576 := by rw [hN, hLw, words_len]; have := hli.few; omega
      have HLI := Lib.hid hli
      have HD := Lib.hid (And.intro hLw (And.intro hN hNn))
      obtain ⟨ys, hys⟩ : ∃ ys, ys = sv y1 := ⟨_, rfl⟩
      rw [← hys] at q1 hc1
      have HCw := Lib.hid (And.intro hc1 hc2)
      clear hc1 hc2
      have HY := Lib.hid (And.intro hys hyl)
      have HC := Lib.hid (And.intro k0 (And.intro q1 q2))
      clear hli hLw hN hNn hys hyl HS
      by_cases hpos : (0 : Int) < y2
      · have hp1 : decide ((0 : Int) < y2) = true := by simpa using hpos
        obtain ⟨T1, hT1⟩ : ∃ T1, T1 = (put T y1 y2) := ⟨_, rfl⟩
        have HP := Lib.hid (fun W (hW : Below wr.heap.size wr W) => Put_any W p T y1 y2 (HLI.out.st.h0.up hW) (by have := HLI.out.few; omega))
        rw [← hT1, ← HY.out.1] at HP
        obtain ⟨L1, hL1⟩ : ∃ L, L = words T1 [] := ⟨_, rfl⟩
        obtain ⟨N1, hN1⟩ : ∃ N, N = L1.length := ⟨_, rfl⟩
        have hok1 : Ok T1 := by rw [hT1]; exact ok_put HLI.out.ok
        have hfw1 : cnt T1 ≤ j + 1 := by rw [hT1]; have := cnt_put T y1 y2; have := HLI.out.few; omega
        have hln1 : ∀ u x, get T1 u = some x → u.length ≤ 1048576 := fun u x h => by
          rw [hT1, get_put] at h
          split at h
          · rename_i e; rw [e]; exact HY.out.2
          · exact HLI.out.len u x h
        have HT1 := Lib.hid (And.intro hok1 (And.intro hfw1 hln1))
        have HWd : Hid (∀ W, ReadsW W aa Lw → Calls Try.prog 18 #[.slice aa N cc, ys, .int .i64 y2] W (RetR W N1 L1)) := Lib.hid fun W hW => by
          have h := Worded_any aa cc N N1 Lw y1 y2 W HD.out.2.1.symm HD.out.2.2 hW (by rw [HD.out.1]; exact HLI.out.keys) (by have := HY.out.2; omega) (by rw [HD.out.1, worded_words, ← hT1, ← hL1, ← hN1])
          rw [← HY.out.1, show worded Lw y1 y2 = L1 by rw [HD.out.1, worded_words, ← hT1, hL1]] at h
          exact h
        have HD1 : Hid (L1 = words T1 [] ∧ N1 = L1.length ∧ N1 ≤ 1048577) := Lib.hid ⟨hL1, hN1, by rw [hN1, hL1, words_len]; omega⟩
        clear hT1 hL1 hN1 hok1 hfw1 hln1 hpos
        go_wp2_with fail
        refine grow.wp_grow_last 12 _ [grow.kEq (.agg #[.pointer p]), grow.kEq (.slice (some ⟨ab, ao, none⟩) n c), grow.kEq (.int .i64 (j : Nat)), grow.kEq (.pointer (some ⟨ab, ao + j * 2, none⟩)), grow.kEq (.pointer (some ⟨ab, ao + j * 2, none⟩)), grow.kEq (ys), grow.kEq (.slice (some ⟨ab, ao, none⟩) n c), grow.kEq (.int .i64 (j : Nat)), grow.kEq (.pointer (some ⟨ab, ao + j * 2, none⟩)), grow.kEq (.pointer (some ⟨ab, ao + j * 2 + 1, none⟩)), grow.kEq (.int .i64 y2), kTrieV T1] rfl rfl rfl (by kernel_rfl) (by kernel_rfl) (by kernel_rfl) (by kernel_rfl) (by kernel_rfl) ?step ?fin
        case step =>
          refine grow.EachL.cons ?_ ?_
          · intro A W hB hs hJ K hK
            have s0 := hs 6 (by kernel_rfl)
            simp at s0
            have kk := upc hB HC.out.1
            rw [if_pos (by rfl)]
            clear hs hJ
            go_simp
            exact hK _ _ (Below.refl _ _) rfl
          refine grow.EachL.cons ?_ ?_
          · intro A W hB hs hJ K hK
            have s0 := hs 0 (by kernel_rfl)
            simp at s0
            rw [if_pos (by rfl)]
            clear hs hJ
            go_simp
            exact hK _ _ (Below.refl _ _) rfl
          refine grow.EachL.cons ?_ ?_
          · intro A W hB hs hJ K hK
            have s0 := hs 8 (by kernel_rfl)
            simp at s0
            rw [if_pos (by rfl)]
            clear hs hJ
            go_simp
            exact hK _ _ (Below.refl _ _) rfl
          refine grow.EachL.cons ?_ ?_
          · intro A W hB hs hJ K hK
            have s0 : A.tmps.getD 37 undef = .slice (some ⟨ab, ao, none⟩) n c := hJ 1 37 (by kernel_rfl) (by kernel_rfl)
            simp at s0
            have s1 : A.tmps.getD 38 undef = .int .i64 (j : Nat) := hJ 2 38 (by kernel_rfl) (by kernel_rfl)
            simp at s1
            rw [if_pos (by rfl)]
            clear hs hJ
            go_simp
            exact hK _ _ (Below.refl _ _) rfl
          refine grow.EachL.cons ?_ ?_
          · intro A W hB hs hJ K hK
            have s0 : A.tmps.getD 39 undef = .pointer (some ⟨ab, ao + j * 2, none⟩) := hJ 3 39 (by kernel_rfl) (by kernel_rfl)
            simp at s0
            rw [if_pos (by rfl)]
            clear hs hJ
            go_simp
            exact hK _ _ (Below.refl _ _) rfl
          refine grow.EachL.cons ?_ ?_
          · intro A W hB hs hJ K hK
            have s0 : A.tmps.getD 40 undef = .pointer (some ⟨ab, ao + j * 2, none⟩) := hJ 4 40 (by kernel_rfl) (by kernel_rfl)
            simp at s0
            have kk := upc hB HC.out.2.1
            rw [if_pos (by rfl)]
            clear hs hJ
            go_simp
            exact hK _ _ (Below.refl _ _) rfl
          refine grow.EachL.cons ?_ ?_
          · intro A W hB hs hJ K hK
            have s0 := hs 0 (by kernel_rfl)
            simp at s0
            rw [if_pos (by rfl)]
            clear hs hJ
            go_simp
            exact hK _ _ (Below.refl _ _) rfl
          refine grow.EachL.cons ?_ ?_
          · intro A W hB hs hJ K hK
            have s0 := hs 8 (by kernel_rfl)
            simp at s0
            rw [if_pos (by rfl)]
            clear hs hJ
            go_simp
            exact hK _ _ (Below.refl _ _) rfl
          refine grow.EachL.cons ?_ ?_
          · intro A W hB hs hJ K hK
            have s0 : A.tmps.getD 42 undef = .slice (some ⟨ab, ao, none⟩) n c := hJ 6 42 (by kernel_rfl) (by kernel_rfl)
            simp at s0
            have s1 : A.tmps.getD 43 undef = .int .i64 (j : Nat) := hJ 7 43 (by kernel_rfl) (by kernel_rfl)
            simp at s1
            rw [if_pos (by rfl)]
            clear hs hJ
            go_simp
            exact hK _ _ (Below.refl _ _) rfl
          refine grow.EachL.cons ?_ ?_
          · intro A W hB hs hJ K hK
            have s0 : A.tmps.getD 44 undef = .pointer (some ⟨ab, ao + j * 2, none⟩) := hJ 8 44 (by kernel_rfl) (by kernel_rfl)
            simp at s0
            rw [if_pos (by rfl)]
            clear hs hJ
            go_simp
            exact hK _ _ (Below.refl _ _) rfl
          refine grow.EachL.cons ?_ ?_
          · intro A W hB hs hJ K hK
            have s0 : A.tmps.getD 45 undef = .pointer (some ⟨ab, ao + j * 2 + 1, none⟩) := hJ 9 45 (by kernel_rfl) (by kernel_rfl)
            simp at s0
            have kk := upc hB HC.out.2.2
            rw [if_pos (by rfl)]
            clear hs hJ
            go_simp
            exact hK _ _ (Below.refl _ _) rfl
          refine grow.EachL.cons ?_ ?_
          · intro A W hB hs hJ K hK
            have s0 : A.tmps.getD 36 undef = .agg #[.pointer p] := hJ 0 36 (by kernel_rfl) (by kernel_rfl)
            simp at s0
            have s1 : A.tmps.getD 41 undef = ys := hJ 5 41 (by kernel_rfl) (by kernel_rfl)
            simp at s1
            have s2 : A.tmps.getD 46 undef = .int .i64 y2 := hJ 10 46 (by kernel_rfl) (by kernel_rfl)
            simp at s2
            rw [if_pos (by rfl)]
            clear hs hJ
            go_simp
            go_at_call 9
            refine (HP.out W hB).mono ?_
            rintro e W2 ⟨q1, rfl, hq1, hb1⟩
            exact hK _ _ hb1 ⟨q1, rfl, hq1⟩
          exact grow.EachL.nil
        case fin =>
          intro f W hB hF
          have f0 : f 0 = .agg #[.pointer p] := hF 0 (by decide)
          have f1 : f 1 = .slice (some ⟨ab, ao, none⟩) n c := hF 1 (by decide)
          have f2 : f 2 = .int .i64 (j : Nat) := hF 2 (by decide)
          have f3 : f 3 = .pointer (some ⟨ab, ao + j * 2, none⟩) := hF 3 (by decide)
          have f4 : f 4 = .pointer (some ⟨ab, ao + j * 2, none⟩) := hF 4 (by decide)
          have f5 : f 5 = ys := hF 5 (by decide)
          have f6 : f 6 = .slice (some ⟨ab, ao, none⟩) n c := hF 6 (by decide)
          have f7 : f 7 = .int .i64 (j : Nat) := hF 7 (by decide)
          have f8 : f 8 = .pointer (some ⟨ab, ao + j * 2, none⟩) := hF 8 (by decide)
          have f9 : f 9 = .pointer (some ⟨ab, ao + j * 2 + 1, none⟩) := hF 9 (by decide)
          have f10 : f 10 = .int .i64 y2 := hF 10 (by decide)
          obtain ⟨p1_11, f11, h1_11⟩ := hF 11 (by decide)
          clear hF
          intro A hA
          simp only [grow.puts, Act.put, List.getElem?_toArray, List.getElem?_cons_zero, List.getElem?_cons_succ, Option.bind_some, List.setIfInBounds_toArray, List.set_cons_zero, List.set_cons_succ, f0, f1, f2, f3, f4, f5, f6, f7, f8, f9, f10, f11] at hA
          subst hA
          have hs7 := HLI.out.st.up hB
          have hr7 := HLI.out.r.up hB
          rw [← HD.out.1] at hr7
          have c7 := cell_of_one hs7.b0
          have f7 := free_of_one hs7.b0
          obtain ⟨V, hV⟩ : ∃ V, V = W.setCell ⟨G, 0, none⟩ (.pointer p1_11) := ⟨_, rfl⟩
          have hsV : St w G T1 p1_11 V := by rw [hV]; exact hs7.set h1_11
          have hrV : ReadsW V aa Lw := by rw [hV]; exact hr7.store hs7.b0 _
          have HSV := Lib.hid (And.intro hsV hrV)
          have HC2 := Lib.hid (And.intro (upc hsV.bel HCw.out.1) (upc hsV.bel HCw.out.2))
          have HV := Lib.hid hV
          clear hs7 hr7 hV hsV hrV h1_11 hB HLI HC HP
          go_simp
          go_wp2_with fail
          rw [← HV.out]
          clear HV
          refine grow.wp_grow_last 12 _ [grow.kEq (.slice aa N cc), grow.kEq (.slice (some ⟨ab, ao, none⟩) n c), grow.kEq (.int .i64 (j : Nat)), grow.kEq (.pointer (some ⟨ab, ao + j * 2, none⟩)), grow.kEq (.pointer (some ⟨ab, ao + j * 2, none⟩)), grow.kEq (ys), grow.kEq (.slice (some ⟨ab, ao, none⟩) n c), grow.kEq (.int .i64 (j : Nat)), grow.kEq (.pointer (some ⟨ab, ao + j * 2, none⟩)), grow.kEq (.pointer (some ⟨ab, ao + j * 2 + 1, none⟩)), grow.kEq (.int .i64 y2), kRow L1 N1] rfl rfl rfl (by kernel_rfl) (by kernel_rfl) (by kernel_rfl) (by kernel_rfl) (by kernel_rfl) ?step ?fin
          case step =>
            refine grow.EachL.cons ?_ ?_
            · intro A W hB hs hJ K hK
              have s0 := hs 7 (by kernel_rfl)
              simp at s0
              rw [if_pos (by rfl)]
              clear hs hJ
              go_simp
              exact hK _ _ (Below.refl _ _) rfl
            refine grow.EachL.cons ?_ ?_
            · intro A W hB hs hJ K hK
              have s0 := hs 0 (by kernel_rfl)
              simp at s0
              rw [if_pos (by rfl)]
              clear hs hJ
              go_simp
              exact hK _ _ (Below.refl _ _) rfl
            refine grow.EachL.cons ?_ ?_
            · intro A W hB hs hJ K hK
              have s0 := hs 8 (by kernel_rfl)
              simp at s0
              rw [if_pos (by rfl)]
              clear hs hJ
              go_simp
              exact hK _ _ (Below.refl _ _) rfl
            refine grow.EachL.cons ?_ ?_
            · intro A W hB hs hJ K hK
              have s0 : A.tmps.getD 49 undef = .slice (some ⟨ab, ao, none⟩) n c := hJ 1 49 (by kernel_rfl) (by kernel_rfl)
              simp at s0
              have s1 : A.tmps.getD 50 undef = .int .i64 (j : Nat) := hJ 2 50 (by kernel_rfl) (by kernel_rfl)
              simp at s1
              rw [if_pos (by rfl)]
              clear hs hJ
              go_simp
              exact hK _ _ (Below.refl _ _) rfl
            refine grow.EachL.cons ?_ ?_
            · intro A W hB hs hJ K hK
              have s0 : A.tmps.getD 51 undef = .pointer (some ⟨ab, ao + j * 2, none⟩) := hJ 3 51 (by kernel_rfl) (by kernel_rfl)
              simp at s0
              rw [if_pos (by rfl)]
              clear hs hJ
              go_simp
              exact hK _ _ (Below.refl _ _) rfl
            refine grow.EachL.cons ?_ ?_
            · intro A W hB hs hJ K hK
              have s0 : A.tmps.getD 52 undef = .pointer (some ⟨ab, ao + j * 2, none⟩) := hJ 4 52 (by kernel_rfl) (by kernel_rfl)
              simp at s0
              have kk := upc hB HC2.out.1
              rw [if_pos (by rfl)]
              clear hs hJ
              go_simp
              exact hK _ _ (Below.refl _ _) rfl
            refine grow.EachL.cons ?_ ?_
            · intro A W hB hs hJ K hK
              have s0 := hs 0 (by kernel_rfl)
              simp at s0
              rw [if_pos (by rfl)]
              clear hs hJ
              go_simp
              exact hK _ _ (Below.refl _ _) rfl
            refine grow.EachL.cons ?_ ?_
            · intro A W hB hs hJ K hK
              have s0 := hs 8 (by kernel_rfl)
              simp at s0
              rw [if_pos (by rfl)]
              clear hs hJ
              go_simp
              exact hK _ _ (Below.refl _ _) rfl
            refine grow.EachL.cons ?_ ?_
            · intro A W hB hs hJ K hK
              have s0 : A.tmps.getD 54 undef = .slice (some ⟨ab, ao, none⟩) n c := hJ 6 54 (by kernel_rfl) (by kernel_rfl)
              simp at s0
              have s1 : A.tmps.getD 55 undef = .int .i64 (j : Nat) := hJ 7 55 (by kernel_rfl) (by kernel_rfl)
              simp at s1
              rw [if_pos (by rfl)]
              clear hs hJ
              go_simp
              exact hK _ _ (Below.refl _ _) rfl
            refine grow.EachL.cons ?_ ?_
            · intro A W hB hs hJ K hK
              have s0 : A.tmps.getD 56 undef = .pointer (some ⟨ab, ao + j * 2, none⟩) := hJ 8 56 (by kernel_rfl) (by kernel_rfl)
              simp at s0
              rw [if_pos (by rfl)]
              clear hs hJ
              go_simp
              exact hK _ _ (Below.refl _ _) rfl
            refine grow.EachL.cons ?_ ?_
            · intro A W hB hs hJ K hK
              have s0 : A.tmps.getD 57 undef = .pointer (some ⟨ab, ao + j * 2 + 1, none⟩) := hJ 9 57 (by kernel_rfl) (by kernel_rfl)
              simp at s0
              have kk := upc hB HC2.out.2
              rw [if_pos (by rfl)]
              clear hs hJ
              go_simp
              exact hK _ _ (Below.refl _ _) rfl
            refine grow.EachL.cons ?_ ?_
            · intro A W hB hs hJ K hK
              have s0 : A.tmps.getD 48 undef = .slice aa N cc := hJ 0 48 (by kernel_rfl) (by kernel_rfl)
              simp at s0
              have s1 : A.tmps.getD 53 undef = ys := hJ 5 53 (by kernel_rfl) (by kernel_rfl)
              simp at s1
              have s2 : A.tmps.getD 58 undef = .int .i64 y2 := hJ 10 58 (by kernel_rfl) (by kernel_rfl)
              simp at s2
              rw [if_pos (by rfl)]
              clear hs hJ
              go_simp
              go_at_call 18
              refine (HWd.out W (HSV.out.2.up hB)).mono ?_
              rintro e W2 ⟨a4, c4, rfl, ho4, hb4⟩
              exact hK _ _ hb4 ⟨a4, c4, rfl, OwnW.reads (n := L1.length) (by rw [← HD1.out.2.1]; exact ho4)⟩
            exact grow.EachL.nil
          case fin =>
            intro f W hB hF
            have f0 : f 0 = .slice aa N cc := hF 0 (by decide)
            have f1 : f 1 = .slice (some ⟨ab, ao, none⟩) n c := hF 1 (by decide)
            have f2 : f 2 = .int .i64 (j : Nat) := hF 2 (by decide)
            have f3 : f 3 = .pointer (some ⟨ab, ao + j * 2, none⟩) := hF 3 (by decide)
            have f4 : f 4 = .pointer (some ⟨ab, ao + j * 2, none⟩) := hF 4 (by decide)
            have f5 : f 5 = ys := hF 5 (by decide)
            have f6 : f 6 = .slice (some ⟨ab, ao, none⟩) n c := hF 6 (by decide)
            have f7 : f 7 = .int .i64 (j : Nat) := hF 7 (by decide)
            have f8 : f 8 = .pointer (some ⟨ab, ao + j * 2, none⟩) := hF 8 (by decide)
            have f9 : f 9 = .pointer (some ⟨ab, ao + j * 2 + 1, none⟩) := hF 9 (by decide)
            have f10 : f 10 = .int .i64 y2 := hF 10 (by decide)
            obtain ⟨a3_11, c3_11, f11, hr3_11⟩ := hF 11 (by decide)
            clear hF
            intro A hA
            simp only [grow.puts, Act.put, List.getElem?_toArray, List.getElem?_cons_zero, List.getElem?_cons_succ, Option.bind_some, List.setIfInBounds_toArray, List.set_cons_zero, List.set_cons_succ, f0, f1, f2, f3, f4, f5, f6, f7, f8, f9, f10, f11] at hA
            subst hA
            have H5 : Hid (LI w G (j + 1) (.slice a3_11 N1 c3_11) W T1 p1_11 a3_11 c3_11) := Lib.hid ⟨by rw [← HD1.out.1, ← HD1.out.2.1], by rw [← HD1.out.1]; exact hr3_11, HSV.out.1.up hB, HT1.out.1, HT1.out.2.1, HT1.out.2.2⟩
            clear hr3_11 hB HSV HC2 HWd HT1
            go_simp
            have k0 := cell_of_one H5.out.st.b0
            have hWn := Words_any W p1_11 T1 1048576 H5.out.st.h0 (by have := H5.out.few; unfold most; omega) (deep_of H5.out.ok H5.out.len) (by omega)
            rw [← HD1.out.1] at hWn
            unfold RetW at hWn
            rw [← HD1.out.2.1] at hWn
            go_wp2_with fail
            refine hWn.mono ?_
            rintro e w6 ⟨a6, c6, rfl, ho6, hb6⟩
            clear hWn k0
            have hR3 := H5.out.r
            rw [← HD1.out.1] at hR3
            have HS6 := Lib.hid (sameV_any a6 a3_11 c6 c3_11 N1 N1 L1 L1 w6 HD1.out.2.1.symm HD1.out.2.1.symm (OwnW.reads (n := L1.length) (by rw [← HD1.out.2.1]; exact ho6)) (hR3.up hb6) (by have := HD1.out.2.2; unfold maxLen; omega) true (decide_eq_true rfl))
            have HB6 := Lib.hid hb6
            clear ho6 hb6 hR3
            go_wp2_with fail
            refine HS6.out.mono ?_
            rintro e w7 ⟨rfl, q7, rfl⟩
            clear HS6
            obtain ⟨w7, hw7⟩ : ∃ V, V = w6.drewN q7 := ⟨_, rfl⟩
            have hb7 : Below w6.heap.size w6 w7 := by rw [hw7]; exact belowDrewN _ _
            rw [← hw7]
            clear hw7
            have hst7 := H5.out.st.up (belowTrans HB6.out hb7)
            have k0 := cell_of_one hst7.b0
            have HLn := Lib.hid (Len_any w7 p1_11 T1 hst7.h0)
            rw [show cnt T1 = N1 by rw [HD1.out.2.1, HD1.out.1, words_len]] at HLn
            have HB7 := Lib.hid (belowTrans HB6.out hb7)
            clear hst7 hb7 HB6
            go_wp2_with fail
            refine HLn.out.mono ?_
            rintro e w8 ⟨rfl, hb8⟩
            clear HLn k0
            have hb58 := belowTrans HB7.out hb8
            have HE : Hid (∃ T p aa cc, LI w G (j + 1) (.slice a3_11 N1 c3_11) w8 T p aa cc) := Lib.hid ⟨T1, p1_11, a3_11, c3_11, H5.out.e, H5.out.r.up hb58, H5.out.st.up hb58, H5.out.ok, H5.out.few, H5.out.len⟩
            clear hb8 hb58 HB7 H5
            go_wp2_with fail
            go_roundw
            case rel => exact ⟨j + 1, _, rfl, by go_num, hlt, HE⟩
            case measure => simp [intOf]; omega
      · have hp1 : decide ((0 : Int) < y2) = false := by simpa using hpos
        obtain ⟨T1, hT1⟩ : ∃ T1, T1 = (drop T y1) := ⟨_, rfl⟩
        have HP := Lib.hid (fun W (hW : Below wr.heap.size wr W) => Drop_any W p T y1 (HLI.out.st.h0.up hW) (by have := HLI.out.few; omega))
        rw [← hT1, ← HY.out.1] at HP
        obtain ⟨L1, hL1⟩ : ∃ L, L = words T1 [] := ⟨_, rfl⟩
        obtain ⟨N1, hN1⟩ : ∃ N, N = L1.length := ⟨_, rfl⟩
        have hok1 : Ok T1 := by rw [hT1]; exact ok_drop HLI.out.ok
        have hfw1 : cnt T1 ≤ j + 1 := by rw [hT1]; have := cnt_drop T y1; have := HLI.out.few; omega
        have hln1 : ∀ u x, get T1 u = some x → u.length ≤ 1048576 := fun u x h => by
          rw [hT1, get_drop] at h
          split at h
          · cases h
          · exact HLI.out.len u x h
        have HT1 := Lib.hid (And.intro hok1 (And.intro hfw1 hln1))
        have HWd : Hid (∀ W, ReadsW W aa Lw → Calls Try.prog 19 #[.slice aa N cc, ys] W (RetR W N1 L1)) := Lib.hid fun W hW => by
          have h := Unworded_any aa cc N N1 Lw y1 W HD.out.2.1.symm HD.out.2.2 hW (by rw [HD.out.1]; exact HLI.out.keys) (by rw [HD.out.1, unworded_words, ← hT1, ← hL1, ← hN1])
          rw [← HY.out.1, show unworded Lw y1 = L1 by rw [HD.out.1, unworded_words, ← hT1, hL1]] at h
          exact h
        have HD1 : Hid (L1 = words T1 [] ∧ N1 = L1.length ∧ N1 ≤ 1048577) := Lib.hid ⟨hL1, hN1, by rw [hN1, hL1, words_len]; omega⟩
        clear hT1 hL1 hN1 hok1 hfw1 hln1 hpos
        go_wp2_with fail
        refine grow.wp_grow_last 7 _ [grow.kEq (.agg #[.pointer p]), grow.kEq (.slice (some ⟨ab, ao, none⟩) n c), grow.kEq (.int .i64 (j : Nat)), grow.kEq (.pointer (some ⟨ab, ao + j * 2, none⟩)), grow.kEq (.pointer (some ⟨ab, ao + j * 2, none⟩)), grow.kEq (ys), kTrieV T1] rfl rfl rfl (by kernel_rfl) (by kernel_rfl) (by kernel_rfl) (by kernel_rfl) (by kernel_rfl) ?step ?fin
        case step =>
          refine grow.EachL.cons ?_ ?_
          · intro A W hB hs hJ K hK
            have s0 := hs 6 (by kernel_rfl)
            simp at s0
            have kk := upc hB HC.out.1
            rw [if_pos (by rfl)]
            clear hs hJ
            go_simp
            exact hK _ _ (Below.refl _ _) rfl
          refine grow.EachL.cons ?_ ?_
          · intro A W hB hs hJ K hK
            have s0 := hs 0 (by kernel_rfl)
            simp at s0
            rw [if_pos (by rfl)]
            clear hs hJ
            go_simp
            exact hK _ _ (Below.refl _ _) rfl
          refine grow.EachL.cons ?_ ?_
          · intro A W hB hs hJ K hK
            have s0 := hs 8 (by kernel_rfl)
            simp at s0
            rw [if_pos (by rfl)]
            clear hs hJ
            go_simp
            exact hK _ _ (Below.refl _ _) rfl
          refine grow.EachL.cons ?_ ?_
          · intro A W hB hs hJ K hK
            have s0 : A.tmps.getD 61 undef = .slice (some ⟨ab, ao, none⟩) n c := hJ 1 61 (by kernel_rfl) (by kernel_rfl)
            simp at s0
            have s1 : A.tmps.getD 62 undef = .int .i64 (j : Nat) := hJ 2 62 (by kernel_rfl) (by kernel_rfl)
            simp at s1
            rw [if_pos (by rfl)]
            clear hs hJ
            go_simp
            exact hK _ _ (Below.refl _ _) rfl
          refine grow.EachL.cons ?_ ?_
          · intro A W hB hs hJ K hK
            have s0 : A.tmps.getD 63 undef = .pointer (some ⟨ab, ao + j * 2, none⟩) := hJ 3 63 (by kernel_rfl) (by kernel_rfl)
            simp at s0
            rw [if_pos (by rfl)]
            clear hs hJ
            go_simp
            exact hK _ _ (Below.refl _ _) rfl
          refine grow.EachL.cons ?_ ?_
          · intro A W hB hs hJ K hK
            have s0 : A.tmps.getD 64 undef = .pointer (some ⟨ab, ao + j * 2, none⟩) := hJ 4 64 (by kernel_rfl) (by kernel_rfl)
            simp at s0
            have kk := upc hB HC.out.2.1
            rw [if_pos (by rfl)]
            clear hs hJ
            go_simp
            exact hK _ _ (Below.refl _ _) rfl
          refine grow.EachL.cons ?_ ?_
          · intro A W hB hs hJ K hK
            have s0 : A.tmps.getD 60 undef = .agg #[.pointer p] := hJ 0 60 (by kernel_rfl) (by kernel_rfl)
            simp at s0
            have s1 : A.tmps.getD 65 undef = ys := hJ 5 65 (by kernel_rfl) (by kernel_rfl)
            simp at s1
            rw [if_pos (by rfl)]
            clear hs hJ
            go_simp
            go_at_call 17
            refine (HP.out W hB).mono ?_
            rintro e W2 ⟨q1, rfl, hq1, hb1⟩
            exact hK _ _ hb1 ⟨q1, rfl, hq1⟩
          exact grow.EachL.nil
        case fin =>
          intro f W hB hF
          have f0 : f 0 = .agg #[.pointer p] := hF 0 (by decide)
          have f1 : f 1 = .slice (some ⟨ab, ao, none⟩) n c := hF 1 (by decide)
          have f2 : f 2 = .int .i64 (j : Nat) := hF 2 (by decide)
          have f3 : f 3 = .pointer (some ⟨ab, ao + j * 2, none⟩) := hF 3 (by decide)
          have f4 : f 4 = .pointer (some ⟨ab, ao + j * 2, none⟩) := hF 4 (by decide)
          have f5 : f 5 = ys := hF 5 (by decide)
          obtain ⟨p1_6, f6, h1_6⟩ := hF 6 (by decide)
          clear hF
          intro A hA
          simp only [grow.puts, Act.put, List.getElem?_toArray, List.getElem?_cons_zero, List.getElem?_cons_succ, Option.bind_some, List.setIfInBounds_toArray, List.set_cons_zero, List.set_cons_succ, f0, f1, f2, f3, f4, f5, f6] at hA
          subst hA
          have hs7 := HLI.out.st.up hB
          have hr7 := HLI.out.r.up hB
          rw [← HD.out.1] at hr7
          have c7 := cell_of_one hs7.b0
          have f7 := free_of_one hs7.b0
          obtain ⟨V, hV⟩ : ∃ V, V = W.setCell ⟨G, 0, none⟩ (.pointer p1_6) := ⟨_, rfl⟩
          have hsV : St w G T1 p1_6 V := by rw [hV]; exact hs7.set h1_6
          have hrV : ReadsW V aa Lw := by rw [hV]; exact hr7.store hs7.b0 _
          have HSV := Lib.hid (And.intro hsV hrV)
          have HC2 := Lib.hid (And.intro (upc hsV.bel HCw.out.1) (upc hsV.bel HCw.out.2))
          have kq := HC2.out.1
          rw [hV] at kq
          have HV := Lib.hid hV
          clear hs7 hr7 hV hsV hrV h1_6 hB HLI HC HP
          go_simp
          go_wp2_with fail
          rw [← HV.out]
          clear HV
          refine (HWd.out V HSV.out.2).mono ?_
          rintro e w5 ⟨a3, c3, rfl, ho3, hb3⟩
          have H5 : Hid (LI w G (j + 1) (.slice a3 N1 c3) w5 T1 p1_6 a3 c3) := Lib.hid ⟨by rw [← HD1.out.1, ← HD1.out.2.1], by rw [← HD1.out.1]; exact OwnW.reads (n := L1.length) (by rw [← HD1.out.2.1]; exact ho3), HSV.out.1.up hb3, HT1.out.1, HT1.out.2.1, HT1.out.2.2⟩
          clear ho3 hb3 HSV HC2 HWd HT1 kq
          have k0 := cell_of_one H5.out.st.b0
          have hWn := Words_any w5 p1_6 T1 1048576 H5.out.st.h0 (by have := H5.out.few; unfold most; omega) (deep_of H5.out.ok H5.out.len) (by omega)
          rw [← HD1.out.1] at hWn
          unfold RetW at hWn
          rw [← HD1.out.2.1] at hWn
          go_wp2_with fail
          refine hWn.mono ?_
          rintro e w6 ⟨a6, c6, rfl, ho6, hb6⟩
          clear hWn k0
          have hR3 := H5.out.r
          rw [← HD1.out.1] at hR3
          have HS6 := Lib.hid (sameV_any a6 a3 c6 c3 N1 N1 L1 L1 w6 HD1.out.2.1.symm HD1.out.2.1.symm (OwnW.reads (n := L1.length) (by rw [← HD1.out.2.1]; exact ho6)) (hR3.up hb6) (by have := HD1.out.2.2; unfold maxLen; omega) true (decide_eq_true rfl))
          have HB6 := Lib.hid hb6
          clear ho6 hb6 hR3
          go_wp2_with fail
          refine HS6.out.mono ?_
          rintro e w7 ⟨rfl, q7, rfl⟩
          clear HS6
          obtain ⟨w7, hw7⟩ : ∃ V, V = w6.drewN q7 := ⟨_, rfl⟩
          have hb7 : Below w6.heap.size w6 w7 := by rw [hw7]; exact belowDrewN _ _
          rw [← hw7]
          clear hw7
          have hst7 := H5.out.st.up (belowTrans HB6.out hb7)
          have k0 := cell_of_one hst7.b0
          have HLn := Lib.hid (Len_any w7 p1_6 T1 hst7.h0)
          rw [show cnt T1 = N1 by rw [HD1.out.2.1, HD1.out.1, words_len]] at HLn
          have HB7 := Lib.hid (belowTrans HB6.out hb7)
          clear hst7 hb7 HB6
          go_wp2_with fail
          refine HLn.out.mono ?_
          rintro e w8 ⟨rfl, hb8⟩
          clear HLn k0
          have hb58 := belowTrans HB7.out hb8
          have HE : Hid (∃ T p aa cc, LI w G (j + 1) (.slice a3 N1 c3) w8 T p aa cc) := Lib.hid ⟨T1, p1_6, a3, c3, H5.out.e, H5.out.r.up hb58, H5.out.st.up hb58, H5.out.ok, H5.out.few, H5.out.len⟩
          clear hb8 hb58 HB7 H5
          go_wp2_with fail
          go_roundw
          case rel => exact ⟨j + 1, _, rfl, by go_num, hlt, HE⟩
          case measure => simp [intOf]; omega
    · obtain rfl : n = j := by omega
      clear HS
      obtain ⟨Lw, hLw⟩ : ∃ L, L = words T [] := ⟨_, rfl⟩
      rw [← hLw]
      obtain ⟨N, hN⟩ : ∃ N, N = Lw.length := ⟨_, rfl⟩
      rw [← hN]
      have hNn : N ≤ 1048576 := by rw [hN, hLw, words_len]; have := hli.few; omega
      have hrd := hli.r
      rw [← hLw] at hrd
      have HLI := Lib.hid hli
      have HD := Lib.hid (And.intro hLw (And.intro hN hNn))
      have HRd := Lib.hid hrd
      have hbA := belowAlloc wr (.cells #[.string { data := #[] }, .int .i64 0] 29)
      have hxA := heap_alloc_new wr (.cells #[.string { data := #[] }, .int .i64 0] 29)
      have hsA : (wr.alloc (.cells #[.string { data := #[] }, .int .i64 0] 29)).heap.size = wr.heap.size + 1 := by simp
      obtain ⟨WA, hWA⟩ : ∃ W, W = wr.alloc (.cells #[.string { data := #[] }, .int .i64 0] 29) := ⟨_, rfl⟩
      rw [← hWA] at hbA hxA hsA
      obtain ⟨F, hFe⟩ : ∃ F, F = wr.heap.size := ⟨_, rfl⟩
      rw [← hFe] at hxA hsA
      have HI : Hid (L2 wr (F + 1) F (.slice none 0 0) [] none WA ∧ ([] : List (Wd × Int)) = kept (fun p => startsB p.1 s) Lw 0 ∧ (none : Option (Wd × Int)) = lastS s (Lw.take 0) none ∧ (none : Option Int) = valS s (Lw.take 0) none) := Lib.hid ⟨⟨World.ownsRow_nil _ _ _ _, hbA, by omega, Nat.lt_succ_self _, by omega, hxA⟩, rfl, rfl, rfl⟩
      have HWA := Lib.hid (And.intro hWA hFe)
      clear hLw hN hNn hrd hli hbA hxA hsA hWA hFe hge j0
      go_wp2_with fail
      rw [← HWA.out.1, ← HWA.out.2]
      obtain ⟨wo, rfl⟩ : ∃ wo : World, wo = wr := ⟨_, rfl⟩
      clear HWA
      go_loopw [10, 12, 13, 14, 15] (fun uv hv xv bv iv wr => ∃ (i : Nat) (ow : Value) (ul : List (Wd × Int)) (o : Option (Wd × Int)) (vo : Option Int), ow = uv ∧ hv = .bool o.isSome ∧ xv = .int .i64 (vo.getD 0) ∧ bv = .bool vo.isSome ∧ iv = .int .i64 i ∧ i ≤ N ∧ Hid (L2 wo (F + 1) F ow ul o wr ∧ ul = kept (fun p => startsB p.1 s) Lw i ∧ o = lastS s (Lw.take i) none ∧ vo = valS s (Lw.take i) none)) (fun _ _ _ _ iv _ => N - (intOf iv).toNat)
      case atStart => exact ⟨0, _, [], none, none, rfl, rfl, rfl, rfl, rfl, Nat.zero_le _, HI⟩
      case round =>
        obtain ⟨i, ow, ul, o, vo, rfl, rfl, rfl, rfl, rfl, hi, HS⟩ := hrel
        have i0 : (0 : Int) ≤ (i : Int) := by omega
        clear HI
        rcases Nat.lt_or_ge i N with hlt | hge
        · have hlt1 : (i : Int) < (N : Int) := by omega
          have hw1 : IntKind.i64.wrap ((i : Int) + 1) = (i : Int) + 1 := IntWalk.i64_in _ (by have := HD.out.2.2; omega)
          have hiL : i < Lw.length := by rw [← HD.out.2.1]; exact hlt
          obtain ⟨gb, go, rfl, r1, r2⟩ := HRd.out.at (k := i) hiL
          obtain ⟨y, hy⟩ : ∃ y, y = Lw.getD i ([], 0) := ⟨_, rfl⟩
          rw [← hy] at r1 r2
          obtain ⟨y1, y2⟩ := y
          dsimp only at r1 r2
          have htk : Lw.take (i + 1) = Lw.take i ++ [(y1, y2)] := by rw [List.take_succ_eq_append_getElem hiL, hy, List.getD_eq_getElem?_getD, List.getElem?_eq_getElem hiL]; rfl
          have HTk := Lib.hid (And.intro hy htk)
          have hul : ul.length ≤ i := by rw [HS.out.2.1]; exact kept_len _ _ _
          obtain ⟨Y, hY⟩ : ∃ Y, Y = bw y1 := ⟨_, rfl⟩
          rw [sv_bw, ← hY] at r1
          obtain ⟨b1, hb1⟩ : ∃ b, b = startsB y1 s := ⟨_, rfl⟩
          obtain ⟨b2, hb2⟩ : ∃ b, b = startsB s y1 := ⟨_, rfl⟩
          obtain ⟨b3, hb3⟩ : ∃ b, b = (y1 == s) := ⟨_, rfl⟩
          have HS1 := Lib.hid (fun W => Starts_any W y1 s)
          have HS2 := Lib.hid (fun W => Starts_any W s y1)
          simp only [sv_bw, ← hY, ← HX.out, ← hb1, ← hb2] at HS1 HS2
          have hq : (Y.toList == xs.toList) = b3 := by rw [hY, HX.out, hb3]; exact bw_eql _ _
          have HYb := Lib.hid hY
          have HBb := Lib.hid (And.intro hb1 (And.intro hb2 hb3))
          have HRr := Lib.hid (And.intro r1 r2)
          have t1 := upc HS.out.1.bel r1
          have t2 := upc HS.out.1.bel r2
          clear hy htk hY hb1 hb2 hb3 r1 r2 hiL
          cases b1 with
          | false =>
            cases b2 with
            | false =>
              cases b3 with
              | false =>
                go_wp2_with fail
                refine (HS1.out _).mono ?_
                rintro e wx ⟨rfl, rfl⟩
                go_wp2_with fail
                refine (HS2.out _).mono ?_
                rintro e wx ⟨rfl, rfl⟩
                have HN1 := Lib.hid HS.out.1
                have HN2 : Hid (ul = kept (fun p => startsB p.1 s) Lw (i + 1) ∧ o = lastS s (Lw.take (i + 1)) none ∧ vo = valS s (Lw.take (i + 1)) none) := Lib.hid ⟨by rw [kept_no (by rw [← HD.out.2.1]; exact hlt) HTk.out.1 HBb.out.1.symm, ← HS.out.2.1], by rw [HTk.out.2, lastS_app, ← HS.out.2.2.1]; simp only [lastS, ← HBb.out.2.1]; rfl, by rw [HTk.out.2, valS_app, ← HS.out.2.2.2]; simp only [valS, ← HBb.out.2.2]; rfl⟩
                clear HS HBb
                go_wp2_with fail
                go_roundw
                case rel => exact ⟨i + 1, ow, ul, o, vo, rfl, rfl, rfl, rfl, by go_num, hlt, Lib.hid ⟨HN1.out, HN2.out⟩⟩
                case measure => simp [intOf]; omega
              | true =>
                go_wp2_with fail
                refine (HS1.out _).mono ?_
                rintro e wx ⟨rfl, rfl⟩
                go_wp2_with fail
                refine (HS2.out _).mono ?_
                rintro e wx ⟨rfl, rfl⟩
                have HN1 := Lib.hid HS.out.1
                have HN2 : Hid (ul = kept (fun p => startsB p.1 s) Lw (i + 1) ∧ o = lastS s (Lw.take (i + 1)) none ∧ (some y2) = valS s (Lw.take (i + 1)) none) := Lib.hid ⟨by rw [kept_no (by rw [← HD.out.2.1]; exact hlt) HTk.out.1 HBb.out.1.symm, ← HS.out.2.1], by rw [HTk.out.2, lastS_app, ← HS.out.2.2.1]; simp only [lastS, ← HBb.out.2.1]; rfl, by rw [HTk.out.2, valS_app, ← HS.out.2.2.2]; simp only [valS, ← HBb.out.2.2]; rfl⟩
                clear HS HBb
                go_wp2_with fail
                go_roundw
                case rel => exact ⟨i + 1, ow, ul, o, (some y2), rfl, rfl, rfl, rfl, by go_num, hlt, Lib.hid ⟨HN1.out, HN2.out⟩⟩
                case measure => simp [intOf]; omega
            | true =>
              cases b3 with
              | false =>
                go_wp2_with fail
                refine (HS1.out _).mono ?_
                rintro e wx ⟨rfl, rfl⟩
                go_wp2_with fail
                refine (HS2.out _).mono ?_
                rintro e wx ⟨rfl, rfl⟩
                have f0 := two_f (o := 0) HS.out.1.box
                have f1 := two_f (o := 1) HS.out.1.box
                have z0 := two_c0 HS.out.1.box
                have z1 := two_c1 HS.out.1.box
                have hp := HS.out.1.put (y1, y2)
                rw [sv_bw, ← HYb.out] at hp
                have HP2 := Lib.hid hp
                have u1 := upc hp.bel HRr.out.1
                have u2 := upc hp.bel HRr.out.2
                clear hp
                have HN1 := Lib.hid HP2.out
                have HN2 : Hid (ul = kept (fun p => startsB p.1 s) Lw (i + 1) ∧ (some (y1, y2)) = lastS s (Lw.take (i + 1)) none ∧ vo = valS s (Lw.take (i + 1)) none) := Lib.hid ⟨by rw [kept_no (by rw [← HD.out.2.1]; exact hlt) HTk.out.1 HBb.out.1.symm, ← HS.out.2.1], by rw [HTk.out.2, lastS_app, ← HS.out.2.2.1]; simp only [lastS, ← HBb.out.2.1]; rfl, by rw [HTk.out.2, valS_app, ← HS.out.2.2.2]; simp only [valS, ← HBb.out.2.2]; rfl⟩
                clear HS HBb
                go_wp2_with fail
                go_roundw
                case rel => exact ⟨i + 1, ow, ul, (some (y1, y2)), vo, rfl, rfl, rfl, rfl, by go_num, hlt, Lib.hid ⟨HN1.out, HN2.out⟩⟩
                case measure => simp [intOf]; omega
              | true =>
                go_wp2_with fail
                refine (HS1.out _).mono ?_
                rintro e wx ⟨rfl, rfl⟩
                go_wp2_with fail
                refine (HS2.out _).mono ?_
                rintro e wx ⟨rfl, rfl⟩
                have f0 := two_f (o := 0) HS.out.1.box
                have f1 := two_f (o := 1) HS.out.1.box
                have z0 := two_c0 HS.out.1.box
                have z1 := two_c1 HS.out.1.box
                have hp := HS.out.1.put (y1, y2)
                rw [sv_bw, ← HYb.out] at hp
                have HP2 := Lib.hid hp
                have u1 := upc hp.bel HRr.out.1
                have u2 := upc hp.bel HRr.out.2
                clear hp
                have HN1 := Lib.hid HP2.out
                have HN2 : Hid (ul = kept (fun p => startsB p.1 s) Lw (i + 1) ∧ (some (y1, y2)) = lastS s (Lw.take (i + 1)) none ∧ (some y2) = valS s (Lw.take (i + 1)) none) := Lib.hid ⟨by rw [kept_no (by rw [← HD.out.2.1]; exact hlt) HTk.out.1 HBb.out.1.symm, ← HS.out.2.1], by rw [HTk.out.2, lastS_app, ← HS.out.2.2.1]; simp only [lastS, ← HBb.out.2.1]; rfl, by rw [HTk.out.2, valS_app, ← HS.out.2.2.2]; simp only [valS, ← HBb.out.2.2]; rfl⟩
                clear HS HBb
                go_wp2_with fail
                go_roundw
                case rel => exact ⟨i + 1, ow, ul, (some (y1, y2)), (some y2), rfl, rfl, rfl, rfl, by go_num, hlt, Lib.hid ⟨HN1.out, HN2.out⟩⟩
                case measure => simp [intOf]; omega
          | true =>
            cases b2 with
            | false =>
              cases b3 with
              | false =>
                go_wp2_with fail
                refine (HS1.out _).mono ?_
                rintro e wx ⟨rfl, rfl⟩
                have t1' := upc (belowAlloc wr (.cells #[.string Y, .int .i64 y2] 29)) t1
                obtain ⟨i0w, hi1, hz0, hz1, hz2⟩ := info_parts infoW
                have Hi := Lib.hid (And.intro hi1 (And.intro hz0 (And.intro hz1 hz2)))
                clear hi1 hz0 hz1 hz2
                have Ho : Hid (wr.ownsRow (F + 1) 29 2 ow ul.length (cellsW ul)) := Lib.hid HS.out.1.own
                have Hsz := Lib.hid HS.out.1.siz
                go_wp2_with (at_builtin; obtain ⟨hi, hz0, hz1, hz2⟩ := Hi.out; refine wpList_append_own _ rfl (.tmp 100) (.tmp 105) 37 rfl (F + 1) 29 i0w (.agg #[.string { data := #[] }, .int .i64 0]) 2 24 Try.underlying37 hi hz0 hz1 hz2 rfl (by decide) ow _ _ rfl (Ho.out.alloc _) ⟨wr.heap.size, 0, none⟩ 1 1 [.string Y, .int .i64 y2] rfl rfl ?c1 ?c2 ?c3 ?c4 ?c5 ?_)
                case c1 => exact World.news_of_block (cs := #[.string Y, .int .i64 y2]) (t := 29) (fr := (0, 0)) (heap_alloc_new _ _)
                case c2 => simp [Value.oneCell']
                case c3 => have := HD.out.2.2; unfold maxLen; omega
                case c4 => have := HD.out.2.2; omega
                case c5 => have := Hsz.out; simp; omega
                intro v' w2 hown1 hgrow _
                have HA2 := Lib.hid (HS.out.1.app (p := (y1, y2)) (by rw [HYb.out] at hown1; exact hown1) hgrow)
                clear hown1 hgrow t1' t1 t2 Ho Hsz Hi
                have t1 := upc HA2.out.bel HRr.out.1
                have t2 := upc HA2.out.bel HRr.out.2
                go_wp2_with fail
                refine (HS2.out _).mono ?_
                rintro e wx ⟨rfl, rfl⟩
                have HN1 := Lib.hid HA2.out
                have HN2 : Hid ((ul ++ [(y1, y2)]) = kept (fun p => startsB p.1 s) Lw (i + 1) ∧ o = lastS s (Lw.take (i + 1)) none ∧ vo = valS s (Lw.take (i + 1)) none) := Lib.hid ⟨by rw [kept_yes (by rw [← HD.out.2.1]; exact hlt) HTk.out.1 HBb.out.1.symm, ← HS.out.2.1], by rw [HTk.out.2, lastS_app, ← HS.out.2.2.1]; simp only [lastS, ← HBb.out.2.1]; rfl, by rw [HTk.out.2, valS_app, ← HS.out.2.2.2]; simp only [valS, ← HBb.out.2.2]; rfl⟩
                clear HS HBb
                go_wp2_with fail
                go_roundw
                case rel => exact ⟨i + 1, v', (ul ++ [(y1, y2)]), o, vo, rfl, rfl, rfl, rfl, by go_num, hlt, Lib.hid ⟨HN1.out, HN2.out⟩⟩
                case measure => simp [intOf]; omega
              | true =>
                go_wp2_with fail
                refine (HS1.out _).mono ?_
                rintro e wx ⟨rfl, rfl⟩
                have t1' := upc (belowAlloc wr (.cells #[.string Y, .int .i64 y2] 29)) t1
                obtain ⟨i0w, hi1, hz0, hz1, hz2⟩ := info_parts infoW
                have Hi := Lib.hid (And.intro hi1 (And.intro hz0 (And.intro hz1 hz2)))
                clear hi1 hz0 hz1 hz2
                have Ho : Hid (wr.ownsRow (F + 1) 29 2 ow ul.length (cellsW ul)) := Lib.hid HS.out.1.own
                have Hsz := Lib.hid HS.out.1.siz
                go_wp2_with (at_builtin; obtain ⟨hi, hz0, hz1, hz2⟩ := Hi.out; refine wpList_append_own _ rfl (.tmp 100) (.tmp 105) 37 rfl (F + 1) 29 i0w (.agg #[.string { data := #[] }, .int .i64 0]) 2 24 Try.underlying37 hi hz0 hz1 hz2 rfl (by decide) ow _ _ rfl (Ho.out.alloc _) ⟨wr.heap.size, 0, none⟩ 1 1 [.string Y, .int .i64 y2] rfl rfl ?c1 ?c2 ?c3 ?c4 ?c5 ?_)
                case c1 => exact World.news_of_block (cs := #[.string Y, .int .i64 y2]) (t := 29) (fr := (0, 0)) (heap_alloc_new _ _)
                case c2 => simp [Value.oneCell']
                case c3 => have := HD.out.2.2; unfold maxLen; omega
                case c4 => have := HD.out.2.2; omega
                case c5 => have := Hsz.out; simp; omega
                intro v' w2 hown1 hgrow _
                have HA2 := Lib.hid (HS.out.1.app (p := (y1, y2)) (by rw [HYb.out] at hown1; exact hown1) hgrow)
                clear hown1 hgrow t1' t1 t2 Ho Hsz Hi
                have t1 := upc HA2.out.bel HRr.out.1
                have t2 := upc HA2.out.bel HRr.out.2
                go_wp2_with fail
                refine (HS2.out _).mono ?_
                rintro e wx ⟨rfl, rfl⟩
                have HN1 := Lib.hid HA2.out
                have HN2 : Hid ((ul ++ [(y1, y2)]) = kept (fun p => startsB p.1 s) Lw (i + 1) ∧ o = lastS s (Lw.take (i + 1)) none ∧ (some y2) = valS s (Lw.take (i + 1)) none) := Lib.hid ⟨by rw [kept_yes (by rw [← HD.out.2.1]; exact hlt) HTk.out.1 HBb.out.1.symm, ← HS.out.2.1], by rw [HTk.out.2, lastS_app, ← HS.out.2.2.1]; simp only [lastS, ← HBb.out.2.1]; rfl, by rw [HTk.out.2, valS_app, ← HS.out.2.2.2]; simp only [valS, ← HBb.out.2.2]; rfl⟩
                clear HS HBb
                go_wp2_with fail
                go_roundw
                case rel => exact ⟨i + 1, v', (ul ++ [(y1, y2)]), o, (some y2), rfl, rfl, rfl, rfl, by go_num, hlt, Lib.hid ⟨HN1.out, HN2.out⟩⟩
                case measure => simp [intOf]; omega
            | true =>
              cases b3 with
              | false =>
                go_wp2_with fail
                refine (HS1.out _).mono ?_
                rintro e wx ⟨rfl, rfl⟩
                have t1' := upc (belowAlloc wr (.cells #[.string Y, .int .i64 y2] 29)) t1
                obtain ⟨i0w, hi1, hz0, hz1, hz2⟩ := info_parts infoW
                have Hi := Lib.hid (And.intro hi1 (And.intro hz0 (And.intro hz1 hz2)))
                clear hi1 hz0 hz1 hz2
                have Ho : Hid (wr.ownsRow (F + 1) 29 2 ow ul.length (cellsW ul)) := Lib.hid HS.out.1.own
                have Hsz := Lib.hid HS.out.1.siz
                go_wp2_with (at_builtin; obtain ⟨hi, hz0, hz1, hz2⟩ := Hi.out; refine wpList_append_own _ rfl (.tmp 100) (.tmp 105) 37 rfl (F + 1) 29 i0w (.agg #[.string { data := #[] }, .int .i64 0]) 2 24 Try.underlying37 hi hz0 hz1 hz2 rfl (by decide) ow _ _ rfl (Ho.out.alloc _) ⟨wr.heap.size, 0, none⟩ 1 1 [.string Y, .int .i64 y2] rfl rfl ?c1 ?c2 ?c3 ?c4 ?c5 ?_)
                case c1 => exact World.news_of_block (cs := #[.string Y, .int .i64 y2]) (t := 29) (fr := (0, 0)) (heap_alloc_new _ _)
                case c2 => simp [Value.oneCell']
                case c3 => have := HD.out.2.2; unfold maxLen; omega
                case c4 => have := HD.out.2.2; omega
                case c5 => have := Hsz.out; simp; omega
                intro v' w2 hown1 hgrow _
                have HA2 := Lib.hid (HS.out.1.app (p := (y1, y2)) (by rw [HYb.out] at hown1; exact hown1) hgrow)
                clear hown1 hgrow t1' t1 t2 Ho Hsz Hi
                have t1 := upc HA2.out.bel HRr.out.1
                have t2 := upc HA2.out.bel HRr.out.2
                go_wp2_with fail
                refine (HS2.out _).mono ?_
                rintro e wx ⟨rfl, rfl⟩
                have f0 := two_f (o := 0) HA2.out.box
                have f1 := two_f (o := 1) HA2.out.box
                have z0 := two_c0 HA2.out.box
                have z1 := two_c1 HA2.out.box
                have hp := HA2.out.put (y1, y2)
                rw [sv_bw, ← HYb.out] at hp
                have HP2 := Lib.hid hp
                have u1 := upc hp.bel HRr.out.1
                have u2 := upc hp.bel HRr.out.2
                clear hp
                have HN1 := Lib.hid HP2.out
                have HN2 : Hid ((ul ++ [(y1, y2)]) = kept (fun p => startsB p.1 s) Lw (i + 1) ∧ (some (y1, y2)) = lastS s (Lw.take (i + 1)) none ∧ vo = valS s (Lw.take (i + 1)) none) := Lib.hid ⟨by rw [kept_yes (by rw [← HD.out.2.1]; exact hlt) HTk.out.1 HBb.out.1.symm, ← HS.out.2.1], by rw [HTk.out.2, lastS_app, ← HS.out.2.2.1]; simp only [lastS, ← HBb.out.2.1]; rfl, by rw [HTk.out.2, valS_app, ← HS.out.2.2.2]; simp only [valS, ← HBb.out.2.2]; rfl⟩
                clear HS HBb
                go_wp2_with fail
                go_roundw
                case rel => exact ⟨i + 1, v', (ul ++ [(y1, y2)]), (some (y1, y2)), vo, rfl, rfl, rfl, rfl, by go_num, hlt, Lib.hid ⟨HN1.out, HN2.out⟩⟩
                case measure => simp [intOf]; omega
              | true =>
                go_wp2_with fail
                refine (HS1.out _).mono ?_
                rintro e wx ⟨rfl, rfl⟩
                have t1' := upc (belowAlloc wr (.cells #[.string Y, .int .i64 y2] 29)) t1
                obtain ⟨i0w, hi1, hz0, hz1, hz2⟩ := info_parts infoW
                have Hi := Lib.hid (And.intro hi1 (And.intro hz0 (And.intro hz1 hz2)))
                clear hi1 hz0 hz1 hz2
                have Ho : Hid (wr.ownsRow (F + 1) 29 2 ow ul.length (cellsW ul)) := Lib.hid HS.out.1.own
                have Hsz := Lib.hid HS.out.1.siz
                go_wp2_with (at_builtin; obtain ⟨hi, hz0, hz1, hz2⟩ := Hi.out; refine wpList_append_own _ rfl (.tmp 100) (.tmp 105) 37 rfl (F + 1) 29 i0w (.agg #[.string { data := #[] }, .int .i64 0]) 2 24 Try.underlying37 hi hz0 hz1 hz2 rfl (by decide) ow _ _ rfl (Ho.out.alloc _) ⟨wr.heap.size, 0, none⟩ 1 1 [.string Y, .int .i64 y2] rfl rfl ?c1 ?c2 ?c3 ?c4 ?c5 ?_)
                case c1 => exact World.news_of_block (cs := #[.string Y, .int .i64 y2]) (t := 29) (fr := (0, 0)) (heap_alloc_new _ _)
                case c2 => simp [Value.oneCell']
                case c3 => have := HD.out.2.2; unfold maxLen; omega
                case c4 => have := HD.out.2.2; omega
                case c5 => have := Hsz.out; simp; omega
                intro v' w2 hown1 hgrow _
                have HA2 := Lib.hid (HS.out.1.app (p := (y1, y2)) (by rw [HYb.out] at hown1; exact hown1) hgrow)
                clear hown1 hgrow t1' t1 t2 Ho Hsz Hi
                have t1 := upc HA2.out.bel HRr.out.1
                have t2 := upc HA2.out.bel HRr.out.2
                go_wp2_with fail
                refine (HS2.out _).mono ?_
                rintro e wx ⟨rfl, rfl⟩
                have f0 := two_f (o := 0) HA2.out.box
                have f1 := two_f (o := 1) HA2.out.box
                have z0 := two_c0 HA2.out.box
                have z1 := two_c1 HA2.out.box
                have hp := HA2.out.put (y1, y2)
                rw [sv_bw, ← HYb.out] at hp
                have HP2 := Lib.hid hp
                have u1 := upc hp.bel HRr.out.1
                have u2 := upc hp.bel HRr.out.2
                clear hp
                have HN1 := Lib.hid HP2.out
                have HN2 : Hid ((ul ++ [(y1, y2)]) = kept (fun p => startsB p.1 s) Lw (i + 1) ∧ (some (y1, y2)) = lastS s (Lw.take (i + 1)) none ∧ (some y2) = valS s (Lw.take (i + 1)) none) := Lib.hid ⟨by rw [kept_yes (by rw [← HD.out.2.1]; exact hlt) HTk.out.1 HBb.out.1.symm, ← HS.out.2.1], by rw [HTk.out.2, lastS_app, ← HS.out.2.2.1]; simp only [lastS, ← HBb.out.2.1]; rfl, by rw [HTk.out.2, valS_app, ← HS.out.2.2.2]; simp only [valS, ← HBb.out.2.2]; rfl⟩
                clear HS HBb
                go_wp2_with fail
                go_roundw
                case rel => exact ⟨i + 1, v', (ul ++ [(y1, y2)]), (some (y1, y2)), (some y2), rfl, rfl, rfl, rfl, by go_num, hlt, Lib.hid ⟨HN1.out, HN2.out⟩⟩
                case measure => simp [intOf]; omega
        · obtain rfl : N = i := by omega
          have hu : ul = words (under T s) s := by rw [HS.out.2.1, kept_all (by rw [← HD.out.2.1]; exact Nat.le_refl _), HD.out.1]; exact unders_words s
          have ho : best T s (s.length + 1) = o := by rw [HS.out.2.2.1, List.take_of_length_le (by rw [← HD.out.2.1]; exact Nat.le_refl _), HD.out.1]; exact (lastS_words s).symm
          have hv : get T s = vo := by rw [HS.out.2.2.2, List.take_of_length_le (by rw [← HD.out.2.1]; exact Nat.le_refl _), HD.out.1]; exact (valS_words s).symm
          have hst := HLI.out.st.up (HS.out.1.bel)
          obtain ⟨a8, c8, hv8, _, hr8, _⟩ := OwnW.form HS.out.1.own
          obtain ⟨N2, hN2⟩ : ∃ N2, N2 = ul.length := ⟨_, rfl⟩
          rw [← hN2] at hv8
          subst hv8
          have hul2 : N2 ≤ 1048576 := by rw [hN2, HS.out.2.1]; have := kept_len (fun p => startsB p.1 s) Lw N; have := HD.out.2.2; omega
          have hUn := Under_any wr p T s 1048576 hst.h0 (by have := HLI.out.few; unfold most; omega) (deep_of HLI.out.ok HLI.out.len) (by have := HA.out.2.1; omega)
          rw [← hu, sv_bw, ← HX.out] at hUn
          unfold RetW at hUn
          rw [← hN2] at hUn
          have HUn := Lib.hid hUn
          have HST := Lib.hid hst
          have HBx := Lib.hid HS.out.1.box
          have HR8 := Lib.hid hr8
          have HO := Lib.hid (And.intro ho (And.intro hv (And.intro hN2 hul2)))
          have k0 := cell_of_one hst.b0
          clear hu ho hv hst hN2 hul2 hUn HS hge i0 hr8
          go_wp2_with fail
          refine HUn.out.mono ?_
          rintro e w4 ⟨a4, c4, rfl, ho4, hb4⟩
          clear HUn k0
          have HS4 := Lib.hid (sameV_any a4 a8 c4 c8 N2 N2 ul ul w4 HO.out.2.2.1.symm HO.out.2.2.1.symm (OwnW.reads (n := ul.length) (by rw [← HO.out.2.2.1]; exact ho4)) (HR8.out.up hb4) (by have := HO.out.2.2.2; unfold maxLen; omega) true (decide_eq_true rfl))
          have H4 := Lib.hid (And.intro (HST.out.up hb4) (upb hb4 HBx.out))
          clear ho4 hb4 HST HBx
          go_wp2_with fail
          refine HS4.out.mono ?_
          rintro e w5 ⟨rfl, q5, rfl⟩
          clear HS4
          obtain ⟨w5, hw5⟩ : ∃ V, V = w4.drewN q5 := ⟨_, rfl⟩
          have hb5 : Below w4.heap.size w4 w5 := by rw [hw5]; exact belowDrewN _ _
          rw [← hw5]
          clear hw5
          have H5 := Lib.hid (And.intro (H4.out.1.up hb5) (upb hb5 H4.out.2))
          clear hb5 H4
          have k0 := cell_of_one H5.out.1.b0
          have HLg := Lib.hid (Longest_any w5 p T s H5.out.1.h0 (by have := HA.out.2.1; omega))
          rw [HO.out.1, sv_bw, ← HX.out] at HLg
          unfold RetL at HLg
          rw [sv_bw] at HLg
          obtain ⟨B, hB⟩ : ∃ B, B = bw (textOf o) := ⟨_, rfl⟩
          obtain ⟨m, hm⟩ : ∃ m, m = numOf o := ⟨_, rfl⟩
          obtain ⟨h, hh⟩ : ∃ h, h = o.isSome := ⟨_, rfl⟩
          rw [← hB, ← hm, ← hh] at HLg
          rw [← hh]
          have hx5 := H5.out.2
          rw [sv_bw, ← hB, ← hm] at hx5
          have HB5 := Lib.hid hx5
          have hEq : ∀ W, (binOp .eql 29 (.agg #[.string B, .int .i64 m]) (.agg #[.string B, .int .i64 m])).run Try.prog W = .ok (.bool true) W := by rw [hB]; exact fun W => eqV (textOf o) m W
          have HEq := Lib.hid hEq
          clear hB hm hh hx5 hEq
          go_wp2_with fail
          refine HLg.out.mono ?_
          rintro e w6 ⟨rfl, hb6⟩
          clear HLg k0
          have hb7 := belowAlloc w6 (.cells #[.string B, .int .i64 m] 29)
          have hx7 := heap_alloc_new w6 (.cells #[.string B, .int .i64 m] 29)
          obtain ⟨W7, hW7⟩ : ∃ V, V = w6.alloc (.cells #[.string B, .int .i64 m] 29) := ⟨_, rfl⟩
          rw [← hW7] at hb7 hx7
          obtain ⟨J, hJ⟩ : ∃ J, J = w6.heap.size := ⟨_, rfl⟩
          rw [← hJ] at hx7
          have H7 := Lib.hid (And.intro (H5.out.1.up (belowTrans hb6 hb7)) (And.intro (upb (belowTrans hb6 hb7) HB5.out) hx7))
          have k0 := cell_of_one H7.out.1.b0
          rw [hW7] at k0
          have HW7 := Lib.hid (And.intro hW7 hJ)
          have HGt := Lib.hid (Get_any W7 p T s H7.out.1.h0 vo HO.out.2.1)
          rw [sv_bw, ← HX.out] at HGt
          unfold RetV at HGt
          clear hb6 hb7 hx7 hW7 hJ H5 HB5
          go_wp2_with fail
          rw [← HW7.out.1, ← HW7.out.2]
          refine HGt.out.mono ?_
          rintro e w8 ⟨rfl, hb8⟩
          clear HGt k0 HW7
          have hxa := upb hb8 H7.out.2.1
          have hxb := upb hb8 H7.out.2.2
          have z0 := two_c0 hxa
          have z1 := two_c1 hxa
          have y0 := two_c0 hxb
          have y1 := two_c1 hxb
          have HF := Lib.hid (H7.out.1.up hb8).bel
          have hEq := HEq.out
          clear hxa hxb hb8 H7
          obtain ⟨vx, hvx⟩ : ∃ x, x = vo.getD 0 := ⟨_, rfl⟩
          obtain ⟨vb, hvb⟩ : ∃ x, x = vo.isSome := ⟨_, rfl⟩
          rw [← hvx, ← hvb]
          clear hvx hvb
          go_wp2_with fail
          go_ret
          exact ⟨by simp, HF.out⟩
theorem tells_any (a : Option Addr) (c : Nat) (l : List (Wd × Int)) (s : Wd) (w : World) (hb : l.length ≤ 1048576 ∧ ∀ x ∈ l, x.1.length ≤ 1048576) (hr : ReadsW w a l) (hs : s.length ≤ 140737488351232) :
    Calls Try.prog 7 #[.slice a l.length c, sv s] w (Yes w) := tells_law a c l.length l s w rfl hb.1 hb.2 hs hr
end Go.Proofs.Yteglhcpochcopaa.trie
