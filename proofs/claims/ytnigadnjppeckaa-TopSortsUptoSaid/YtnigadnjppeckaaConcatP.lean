/- slices.Grow of the nil slice, slices.Concat, slices.Clone of slices of pointers: the library's own text. (Printed by cp.py.) -/
import Derived.Test.YtnigadnjppeckaaMore
import Derived.Test.YtnigadnjppeckaaTwo
import Derived.Test.YtnigadnjppeckaaRows
import Derived.Test.YtnigadnjppeckaaGather
import Derived.Test.YtnigadnjppeckaaCat
import Derived.Test.YtnigadnjppeckaaAppRow
import Derived.Test.YtnigadnjppeckaaBino
import Derived.Lib.SliceRun
import Derived.Lib.AppendZeros
import Derived.Lib.Walk
import Derived.BigGuard
namespace Go.Proofs.Ytnigadnjppeckaa.concatP
open Go.RowKit
open bino (infoT)

abbrev PL := List (Option Addr)
/-- a row of pointers of the call's own -/
def OwnT (W : World) (B : Nat) (v : Value) (ps : PL) : Prop := W.ownsRow B 168 1 v ps.length (ps.map Value.pointer)
def ReadsT (W : World) (a : Option Addr) (ps : PL) : Prop := ps = [] ∨ ∃ b o, a = some ⟨b, o, none⟩ ∧ ∀ i, i < ps.length → W.cell? ⟨b, o + i, none⟩ = some (.pointer (ps.getD i none))
theorem ReadsT.up {W W' : World} {a : Option Addr} {ps : PL} (h : ReadsT W a ps) (hb : Below W.heap.size W W') : ReadsT W' a ps := by
  rcases h with h | ⟨b, o, h1, h2⟩
  · exact .inl h
  · exact .inr ⟨b, o, h1, fun i hi => upc hb (h2 i hi)⟩
theorem OwnT.row {W : World} {B : Nat} {v : Value} {ps : PL} (h : OwnT W B v ps) : bino.RowR B W v ps := by
  have h' := h
  rcases h'.2 with ⟨rfl, h0⟩ | ⟨g, cap, cur, rfl, hg, hk, hle, _, _, _⟩
  · exact ⟨none, 0, by rw [h0], ⟨fun _ => rfl, by omega⟩, .inl (List.eq_nil_of_length_eq_zero h0)⟩
  · refine ⟨_, cap, rfl, ⟨(fun h => by cases h), hle⟩, .inr ⟨g, 0, rfl, ⟨hg, _, _, hk⟩, fun i hi => ?_⟩⟩
    have hc := World.ownsRow.cells h (g := g) rfl i (.pointer (ps.getD i none)) (by simp [List.getD_eq_getElem?_getD, hi])
    rw [bino.addr_add] at hc
    exact hc
theorem OwnT.up {W W' : World} {B : Nat} {v : Value} {ps : PL} (h : OwnT W B v ps) (hb : Below W.heap.size W W') : OwnT W' B v ps := by
  refine ⟨h.1, ?_⟩
  rcases h.2 with h' | ⟨g, cap, cur, rfl, hg, hc, r⟩
  · exact .inl h'
  · exact .inr ⟨g, cap, cur, rfl, hg, upb hb hc, r⟩
def RetT (w : World) (ps : PL) (e : Ending) (w' : World) : Prop := ∃ v, e = .returned v ∧ OwnT w' w.heap.size v ps ∧ Below w.heap.size w w'

set_option maxRecDepth 100000 in
set_option maxHeartbeats 2000000 in
theorem grow_nil (w : World) (n : Nat) (hn : n ≤ 17592186044416) :
    Calls Try.prog 125 #[.slice none 0 0, .int .i64 n] w fun e w' => ∃ v, e = .returned v ∧ OwnT w' w.heap.size v [] ∧ Below w.heap.size w w' := by
  by_cases h0 : n = 0
  · subst h0
    go_enter Try.func125, Try.ntmps125
    go_wp2_with fail
    go_ret
    exact ⟨_, rfl, World.ownsRow_nil _ _ _ _, Below.refl _ _⟩
  · obtain ⟨i0, hi, hz0, hz1, hz2⟩ := info_parts infoT
    have hrz : ∀ W ty, (Builtin.append_ #[73, 3] ty #[.slice none 0 0, .int .i64 n]).run Try.prog W = .ok (.slice (some ⟨W.heap.size, 0, none⟩) n (grownCap W n 0 168)) (W.drew.alloc (.cells (Builtin.zeroCells (Value.pointer none).cells n ++ Builtin.zeroCells (Value.pointer none).cells (grownCap W n 0 168 - n)) 168)) := fun W ty =>
      Lib.run_append_nil_zeros (P := Try.prog) W 73 3 ty 168 i0 (.pointer none) .i64 .i64 Try.underlying73 Try.underlying3 hi hz0 n (by omega) (by rw [hz1]; decide) (by omega) (by rw [hz2]; omega)
    have hcapge : ∀ W, n ≤ grownCap W n 0 168 := fun W => grownCap_ge W _ 0 168
    have hcaple : ∀ W, grownCap W n 0 168 ≤ maxLen := fun W => grownCap_le_maxLen W _ 0 168 (by unfold maxLen; omega)
    obtain ⟨cap, hcap⟩ : ∃ cap : World → Nat, cap = fun W => grownCap W n 0 168 := ⟨_, rfl⟩
    have hc1 : ∀ W, n ≤ cap W := fun W => by rw [hcap]; exact hcapge W
    have hc2 : ∀ W, cap W ≤ maxLen := fun W => by rw [hcap]; exact hcaple W
    have hrz2 : ∀ W ty, ∃ Z : Array Value, Z.size = cap W ∧ (Builtin.append_ #[73, 3] ty #[.slice none 0 0, .int .i64 n]).run Try.prog W = .ok (.slice (some ⟨W.heap.size, 0, none⟩) n (cap W)) (W.drew.alloc (.cells Z 168)) := fun W ty => by
      refine ⟨_, ?_, (hrz W ty).trans (by rw [hcap])⟩
      have h1 := hcapge W
      rw [hcap]
      simp [size_zeroCells, Value.cells]
      omega
    obtain ⟨Z, hZ, hrun⟩ := hrz2 w 73
    have h63 := hc2 w
    unfold maxLen at h63
    have hcw := hc1 w
    obtain ⟨cp, hcp⟩ : ∃ cp, cp = cap w := ⟨_, rfl⟩
    rw [← hcp] at hrun hZ h63 hcw
    have hpos : 0 < n := by omega
    have HZ := Lib.hid hZ
    clear hrz hcapge hcaple hc1 hc2 hrz2 hcap hi hz0 hz1 hz2 h0 hZ hcp
    go_enter Try.func125, Try.ntmps125
    go_wp2_with (at_builtin; refine Lib.wpList_append_run _ rfl _ _ _ _ rfl _ _ rfl rfl _ _ hrun ?_)
    go_ret
    refine ⟨_, rfl, ⟨rfl, .inr ⟨w.heap.size, cp, Z, rfl, Nat.le_refl _, ?_, Nat.zero_le _, by unfold maxLen; omega, by rw [HZ.out, Nat.mul_one], by simp⟩⟩, ?_⟩
    · exact heap_alloc_new w.drew _
    · exact belowTrans (belowDrew w) (belowAlloc _ _)

/-- a slice that came in: its address, its capacity, its numbers -/
abbrev Part := Option Addr × Nat × PL
def flat (ps : List Part) : PL := (ps.map (fun p => p.2.2)).flatten
theorem flat_snoc (ps : List Part) (i : Nat) (h : i < ps.length) : flat (ps.take (i + 1)) = flat (ps.take i) ++ (ps.getD i (none, 0, [])).2.2 := by
  unfold flat
  rw [List.take_succ_eq_append_getElem h, List.map_append, List.flatten_append, List.getD_eq_getElem?_getD, List.getElem?_eq_getElem h]
  simp only [List.map_cons, List.map_nil, List.flatten_cons, List.flatten_nil, List.append_nil, Option.getD_some]
theorem flat_le (ps : List Part) (i : Nat) : (flat (ps.take i)).length ≤ (flat ps).length := by
  have h : flat ps = flat (ps.take i) ++ flat (ps.drop i) := by
    unfold flat
    rw [← List.flatten_append, ← List.map_append, List.take_append_drop]
  rw [h, List.length_append]
  exact Nat.le_add_right _ _

set_option maxRecDepth 100000 in
set_option maxHeartbeats 4000000 in
theorem concat_any (w : World) (g0 : Nat) (ps : List Part) (m : Nat) (hm : ps.length = m) (hm2 : m ≤ 1000)
    (hp : ∀ i, i < m → w.cell? ⟨g0, i, none⟩ = some (.slice (ps.getD i (none, 0, [])).1 (ps.getD i (none, 0, [])).2.2.length (ps.getD i (none, 0, [])).2.1) ∧ ReadsT w (ps.getD i (none, 0, [])).1 (ps.getD i (none, 0, [])).2.2 ∧ ((ps.getD i (none, 0, [])).1 = none → (ps.getD i (none, 0, [])).2.1 = 0))
    (hn : (flat ps).length ≤ 17592186044416) :
    Calls Try.prog 105 #[.slice (some ⟨g0, 0, none⟩) m m] w (RetT w (flat ps)) := by
  obtain ⟨i0, hi, hz0, hz1, hz2⟩ := info_parts infoT
  have Hi := Lib.hid (And.intro hi (And.intro hz0 (And.intro hz1 hz2)))
  have Hp := Lib.hid hp
  have Hm := Lib.hid hm
  have hmi : (0 : Int) ≤ (m : Int) := by omega
  clear hi hz0 hz1 hz2 hp hm
  go_enter Try.func105, Try.ntmps105
  go_wp2_with fail
  go_loopw [3, 5, 11] (fun sv _ iv wr => ∃ i : Nat, i ≤ m ∧ iv = .int .i64 i ∧ sv = .int .i64 ((flat (ps.take i)).length : Nat) ∧ Hid (Below w.heap.size w wr)) (fun _ _ iv _ => m - (intOf iv).toNat)
  case atStart => exact ⟨0, Nat.zero_le _, rfl, rfl, Lib.hid (Below.refl _ _)⟩
  case round =>
    obtain ⟨i, hi, rfl, rfl, HB⟩ := hrel
    by_cases hlt : i < m
    · obtain ⟨k1, _, _⟩ := Hp.out i hlt
      have hs := flat_snoc ps i (by rw [Hm.out]; exact hlt)
      have hle := flat_le ps (i + 1)
      rw [hs, List.length_append] at hle
      obtain ⟨pt, hpt⟩ : ∃ pt, pt = ps.getD i (none, 0, []) := ⟨_, rfl⟩
      rw [← hpt] at k1 hs hle
      replace k1 := upc HB.out k1
      have hl2 : (flat (ps.take (i + 1))).length = (flat (ps.take i)).length + pt.2.2.length := by rw [hs, List.length_append]
      obtain ⟨a, ha⟩ : ∃ a, a = (flat (ps.take i)).length := ⟨_, rfl⟩
      obtain ⟨b, hb⟩ : ∃ b, b = pt.2.2.length := ⟨_, rfl⟩
      rw [← ha, ← hb] at hl2 hle
      rw [← ha]
      rw [← hb] at k1
      have h0 : (0 : Int) ≤ (i : Int) := by omega
      have h1 : (i : Int) < (m : Int) := by omega
      clear hs hpt ha hb
      go_wp2_with fail
      go_roundw
      case rel => exact ⟨i + 1, hlt, by go_num, by rw [hl2]; go_num, HB⟩
      case measure => simp [intOf]; omega
    · obtain rfl : m = i := by omega
      have htk : ps.take m = ps := List.take_of_length_le (by rw [Hm.out]; exact Nat.le_refl _)
      rw [htk]
      have HG := Lib.hid (grow_nil wr (flat ps).length hn)
      obtain ⟨N, hN⟩ : ∃ N, N = (flat ps).length := ⟨_, rfl⟩
      rw [← hN] at HG
      rw [← hN]
      have HN := Lib.hid hN
      clear htk hN
      go_wp2_with fail
      refine HG.out.mono ?_
      rintro e w1 ⟨v1, rfl, ho1, hb1⟩
      have HS0 : Hid (OwnT w1 w.heap.size v1 (flat (ps.take 0)) ∧ Below w.heap.size w w1) := Lib.hid ⟨ownsRow_lower ho1 HB.out.size, belowTrans HB.out hb1⟩
      clear ho1 hb1 HG HB
      go_wp2_with fail
      go_loopw [6, 8, 27] (fun ov _ iv wr => ∃ (i : Nat) (ow : Value), ow = ov ∧ i ≤ m ∧ iv = .int .i64 i ∧ Hid (OwnT wr w.heap.size ow (flat (ps.take i)) ∧ Below w.heap.size w wr)) (fun _ _ iv _ => m - (intOf iv).toNat)
      case atStart => exact ⟨0, _, rfl, Nat.zero_le _, rfl, HS0⟩
      case round =>
        obtain ⟨i, ow, rfl, hi, rfl, HB⟩ := hrel
        by_cases hlt : i < m
        · obtain ⟨k1, hrd, hno⟩ := Hp.out i hlt
          have hs := flat_snoc ps i (by rw [Hm.out]; exact hlt)
          have hle := flat_le ps (i + 1)
          rw [hs, List.length_append] at hle
          obtain ⟨pt, hpt⟩ : ∃ pt, pt = ps.getD i (none, 0, []) := ⟨_, rfl⟩
          rw [← hpt] at k1 hs hle hrd hno
          replace k1 := upc HB.out.2 k1
          have hrd2 := hrd.up HB.out.2
          obtain ⟨xs, hxs⟩ : ∃ xs, xs = flat (ps.take i) := ⟨_, rfl⟩
          rw [← hxs] at hs hle
          have hown := HB.out.1
          rw [← hxs] at hown
          obtain ⟨pa, pc, pl⟩ := pt
          dsimp only at k1 hs hle hrd2 hno
          have h0 : (0 : Int) ≤ (i : Int) := by omega
          have h1 : (i : Int) < (m : Int) := by omega
          have hown' : wr.ownsRow w.heap.size 168 1 ow xs.length (xs.map (Value.pointer)) := hown
          have Hown := Lib.hid hown'
          have hnil : pa = none → pl.length = 0 ∧ pc = 0 := fun h => ⟨(by
            rcases hrd2 with h2 | ⟨b, o, h2, _⟩
            · rw [h2]; rfl
            · rw [h] at h2; cases h2), hno h⟩
          have hsome : ∀ ad, pa = some ad → ∀ j u, (pl.map (Value.pointer))[j]? = some u → wr.cell? (ad.add j) = some u := by
            intro ad h j u hu
            have hj : j < pl.length := by
              have := (List.getElem?_eq_some_iff.1 hu).1
              simpa using this
            rcases hrd2 with h2 | ⟨b, o, h2, h3⟩
            · rw [h2] at hj; simp at hj
            · rw [h] at h2
              cases h2
              have e : (⟨b, o, none⟩ : Addr).add j = ⟨b, o + j, none⟩ := by unfold Addr.add; split <;> simp_all
              rw [e, h3 j hj]
              rw [List.getElem?_map, List.getElem?_eq_getElem hj] at hu
              simpa [List.getD_eq_getElem?_getD, hj] using hu
          have Hnil := Lib.hid hnil
          have Hsome := Lib.hid hsome
          have Hs := Lib.hid hs
          have Hb := Lib.hid HB.out.2
          have hle2 := Nat.le_trans hle hn
          clear hpt hs hrd hrd2 hno hnil hsome hown hown' hle HB hxs
          go_wp2_with (at_builtin; (obtain ⟨hi, hz0, hz1, hz2⟩ := Hi.out; refine wpList_append_row _ rfl (.tmp 31) (.tmp 32) 73 rfl w.heap.size 168 i0 (.pointer none) 1 8 Try.underlying73 hi hz0 hz1 hz2 rfl (by decide) ow xs.length _ rfl Hown.out pa pl.length pc (pl.map (Value.pointer)) rfl ?c0 ?c1 Hsome.out ?c5 ?c2 ?c3 ?c4 ?_))
          case c0 => exact Hnil.out
          case c1 => simp
          case c5 => intro u hu; obtain ⟨y, _, rfl⟩ := List.mem_map.1 hu; rfl
          case c2 => unfold maxLen; omega
          case c3 => omega
          case c4 => exact Hb.out.size
          intro v' w2 hown2 hgrow2
          have hb2 : Below w.heap.size w w2 := by
            refine Below.grown Hb.out hgrow2 Hb.out.size (fun k hk => ?_)
            exact (World.ownsRow.lt Hown.out k hk).1
          have HR : Hid (OwnT w2 w.heap.size v' (flat (ps.take (i + 1))) ∧ Below w.heap.size w w2) := Lib.hid ⟨by
            rw [Hs.out]
            unfold OwnT
            rw [List.map_append, List.length_append]
            exact hown2, hb2⟩
          clear hown2 hgrow2 hb2
          go_wp2_with fail
          go_roundw
          case rel => exact ⟨i + 1, _, rfl, hlt, by go_num, HR⟩
          case measure => simp [intOf]; omega
        · obtain rfl : m = i := by omega
          have htk : ps.take m = ps := List.take_of_length_le (by rw [Hm.out]; exact Nat.le_refl _)
          rw [htk] at HB
          go_wp2_with fail
          go_ret
          exact ⟨_, rfl, HB.out.1, HB.out.2⟩

/-- two parts -/
theorem concat2 (B : Nat) (W : World) (g : Nat) (v1 v2 : Value) (ps qs : PL) (hk : W.heap[g]? = some (.cells #[v1, v2] 73 (0, 0))) (h1 : bino.RowR B W v1 ps) (h2 : bino.RowR B W v2 qs) (hn : ps.length + qs.length ≤ 17592186044416) :
    Calls Try.prog 105 #[.slice (some ⟨g, 0, none⟩) 2 2] W (RetT W (ps ++ qs)) := by
  obtain ⟨a1, c1, rfl, ⟨n1, _⟩, r1⟩ := h1
  obtain ⟨a2, c2, rfl, ⟨n2, _⟩, r2⟩ := h2
  have rr : ∀ {a : Option Addr} {ps : PL}, (ps = [] ∨ ∃ b o, a = some ⟨b, o, none⟩ ∧ (B ≤ b ∧ ∃ cs fz, W.heap[b]? = some (.cells cs 168 fz)) ∧ ∀ i, i < ps.length → W.cell? ⟨b, o + i, none⟩ = some (.pointer (ps.getD i none))) → ReadsT W a ps := fun h => by
    rcases h with h | ⟨b, o, h3, _, h5⟩
    · exact .inl h
    · exact .inr ⟨b, o, h3, h5⟩
  have hf : flat [(a1, c1, ps), (a2, c2, qs)] = ps ++ qs := by simp [flat]
  have h := concat_any W g [(a1, c1, ps), (a2, c2, qs)] 2 rfl (by decide) (fun i hi => by
    match i, hi with
    | 0, _ => exact ⟨by simp [World.cell?, hk], rr r1, n1⟩
    | 1, _ => exact ⟨by simp [World.cell?, hk], rr r2, n2⟩
    | i + 2, hi => omega) (by rw [hf, List.length_append]; exact hn)
  rw [hf] at h
  exact h

set_option maxRecDepth 100000 in
set_option maxHeartbeats 2000000 in
theorem clone_any (B : Nat) (w : World) (v : Value) (ps : PL) (h : bino.RowR B w v ps) (hn : ps.length ≤ 17592186044400) :
    Calls Try.prog 103 #[v] w (RetT w ps) := by
  obtain ⟨a, c, rfl, ⟨hnone, hlc⟩, hr⟩ := h
  obtain ⟨i0, hi, hz0, hz1, hz2⟩ := info_parts infoT
  cases a with
  | none =>
    have hps : ps = [] := by
      rcases hr with h | ⟨b, o, h, _⟩
      · exact h
      · cases h
    subst hps
    obtain rfl : c = 0 := hnone rfl
    clear hi hz0 hz1 hz2 hr hnone hlc
    have hnil : ∀ W, (binOp .eql 73 (.slice none 0 0) (.slice none 0 0)).run Try.prog W = .ok (.bool true) W := fun W => Lib.run_eql_slice_nil W 73 168 none 0 0 0 0 Try.underlying73
    go_enter Try.func103, Try.ntmps103
    go_wp2_with fail
    go_ret
    exact ⟨_, rfl, World.ownsRow_nil _ _ _ _, Below.refl _ _⟩
  | some ad =>
    have hnil : ∀ W, (binOp .eql 73 (.slice (some ad) ps.length c) (.slice none 0 0)).run Try.prog W = .ok (.bool false) W := fun W => Lib.run_eql_slice_nil W 73 168 (some ad) ps.length c 0 0 Try.underlying73
    have hsome : ∀ y, (some ad : Option Addr) = some y → ∀ j u, (ps.map Value.pointer)[j]? = some u → (w.alloc (.cells #[] 168)).cell? (y.add j) = some u := by
      intro y hy j u hu
      cases hy
      have hj : j < ps.length := by have := (List.getElem?_eq_some_iff.1 hu).1; simpa using this
      rcases hr with h | ⟨b, o, h, _, h3⟩
      · rw [h] at hj; simp at hj
      · cases h
        rw [bino.addr_add]
        refine upc (belowAlloc _ _) ?_
        rw [h3 j hj]
        rw [List.getElem?_map, List.getElem?_eq_getElem hj] at hu
        simpa [List.getD_eq_getElem?_getD, hj] using hu
    have Hsome := Lib.hid hsome
    have Hi := Lib.hid (And.intro hi (And.intro hz0 (And.intro hz1 hz2)))
    have Hown := Lib.hid (own_empty (w := w) (E := 168) (s := 1) (heap_alloc_new w (.cells #[] 168)))
    clear hi hz0 hz1 hz2 hr hnone hlc hsome
    go_enter Try.func103, Try.ntmps103
    go_wp2_with (at_builtin; obtain ⟨hi, hz0, hz1, hz2⟩ := Hi.out; refine wpList_append_row _ rfl (.tmp 5) (.tmp 6) 73 rfl w.heap.size 168 i0 (.pointer none) 1 8 Try.underlying73 hi hz0 hz1 hz2 rfl (by decide) (.slice (some ⟨w.heap.size, 0, none⟩) 0 0) 0 [] rfl Hown.out (some ad) ps.length c (ps.map Value.pointer) rfl ?c0 ?c1 Hsome.out ?c5 ?c2 ?c3 ?c4 ?_)
    case c0 => intro h; cases h
    case c1 => simp
    case c5 => intro u hu; obtain ⟨y, _, rfl⟩ := List.mem_map.1 hu; rfl
    case c2 => unfold maxLen; omega
    case c3 => omega
    case c4 => simp
    intro v' w2 hown2 hgrow2
    have hb2 : Below w.heap.size w w2 := Below.grown (belowAlloc w (.cells #[] 168)) hgrow2 (by simp) (fun k hk => by cases hk; exact Nat.le_refl _)
    have hO : OwnT w2 w.heap.size v' ps := by
      unfold OwnT
      simpa using hown2
    have HO := Lib.hid (And.intro hO hb2)
    clear hown2 hgrow2 hb2 hO
    go_wp2_with fail
    go_ret
    exact ⟨_, rfl, HO.out.1, HO.out.2⟩
end Go.Proofs.Ytnigadnjppeckaa.concatP
