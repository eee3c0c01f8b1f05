/- Whatever the input: wattleworklaw4.FindStays returns true, and what was there before the call stays. No condition. -/
import Derived.Test.YthlcjhkelcfnoaaFindStays
import Derived.Test.YthlcjhkelcfnoaaRows
import Derived.WalkKit
import Derived.ProofKit
import Derived.OpenShut
import Derived.ShutString
import Derived.ChangeOld
import Derived.Below
import Derived.SizedLaws
namespace Go.Proofs.Ythlcjhkelcfnoaa.findStaysSaid
open Go.ChangeShapes Go.WideShapes Go.ChangeAt Go.RowKit
open Go.ChangeMaps (open_string shut_string)
set_option linter.unusedVariables false

theorem own : ownKnob Try.prog.godebug = none := by kernel_rfl
theorem laidOut : laidOutB Try.prog = true := by kernel_rfl
theorem bytesInt : Try.prog.bytesOf 3 = 8 := by kernel_rfl

/-- what the walk is told of a slice that came in -/
def IsList (w : World) (a : Option Addr) (len cap : Nat) (l : List Int) : Prop := l.length = len ∧ Reads w a l ∧ (a = none → cap = 0) ∧ l.length * 8 ≤ 140737488351232
theorem reads_of (w : World) (x : Addr) (zs : List Int) (len : Nat) (hl : len ≤ zs.length) (hc : ∀ i, i < zs.length → w.cell? (x.add i) = some (.int .i64 (zs.getD i 0))) : Reads w (some x) (zs.take len) := by
  by_cases h0 : zs.take len = []
  · exact .inl h0
  · have hlen : 0 < len := by
      rcases Nat.eq_zero_or_pos len with h | h
      · exact absurd (by rw [h]; rfl) h0
      · exact h
    have hz : 0 < zs.length := by omega
    obtain ⟨b, off, rfl, hcell⟩ := ints_at hc hz
    refine .inr ⟨b, off, rfl, fun i hi => ?_⟩
    rw [List.length_take] at hi
    have h := hcell i (by omega)
    rw [h]
    simp [List.getD_eq_getElem?_getD, show i < len by omega]

theorem walk (a0 : Int) (a1 : Int) (a2 : Int) (a3 : Int) (a4 : Option Addr) (len4 cap4 : Nat) (l4 : List Int) (a5 : Option Addr) (len5 cap5 : Nat) (l5 : List Int) (a6 : Option Addr) (len6 cap6 : Nat) (l6 : List Int) (w : World) (h4 : IsList w a4 len4 cap4 l4) (h5 : IsList w a5 len5 cap5 l5) (h6 : IsList w a6 len6 cap6 l6) :
    Calls Try.prog 5 #[.int .i64 a0, .int .i64 a1, .int .i64 a2, .int .i64 a3, .slice a4 len4 cap4, .slice a5 len5 cap5, .slice a6 len6 cap6] w fun e w' => e = .returned (.bool true) ∧ Below w.heap.size w w' := by
  obtain ⟨rfl, hr4, hn4, hb4⟩ := h4
  obtain ⟨rfl, hr5, hn5, hb5⟩ := h5
  obtain ⟨rfl, hr6, hn6, hb6⟩ := h6
  exact find.stays_any a0 a1 a2 a3 a4 cap4 l4 a5 cap5 l5 a6 cap6 l6 w hb4 hr4 hn4 hb5 hr5 hn5 hb6 hr6 hn6

set_option maxRecDepth 100000 in
theorem lifted (os : Os) (started : os.Started) (H : Type) (enc : TypeId × Value → H) :
    ReturnsInHanded {} Try.checked os 5 .any (Rows.findStaysSpec.pre6 enc Try.prog Try.f5 Rows.findStaysRow.domain false) (Rows.findStaysSpec.post enc Try.prog Try.f5 false true false false) := by
  refine returnsInHanded_of_change_sized (C := Try.checked) own started (by kernel_rfl) Try.func5
    (ChangeSpec.witness6 (enc := enc) (C := Try.checked) false ⟨#[], #[.int .i64 0, .int .i64 0, .int .i64 0, .int .i64 0, .slice none 0 0, .slice none 0 0, .slice none 0 0], []⟩ 8 (by kernel_rfl) (by kernel_rfl) (by kernel_rfl) (by kernel_rfl)) ?_
  intro W base args ds gs before hval0 hW hcnd hsz0 _
  have hval : ∀ (j : Nat) t v, Try.f5.params[j]? = some t → args[j]? = some v → Value.okWide Try.prog W .any base t v := hval0
  have hsz : (DataW.weightsEach Try.prog (Try.f5.params.toList ++ Rows.findStaysSpec.plain.varTypes Try.prog) (ds ++ gs)).all (· ≤ reachBytes) = true := hsz0
  have hW' := hW
  obtain ⟨p, q, hA0, hV, rfl, hfz, hnd⟩ := hW
  have hA : DataW.TrodAll enc Try.prog W 0 (fun _ => true) true Try.f5.params.toList args.toList ds p := hA0
  rw [Try.params5] at hA hval hsz
  obtain ⟨v0, vs0, d0, ds0, p0, q0, hargs, rfl, rfl, h0, r0⟩ := trodAll_cons hA
  obtain ⟨v1, vs1, d1, ds1, p1, q1, rfl, rfl, rfl, h1, r1⟩ := trodAll_cons r0
  obtain ⟨v2, vs2, d2, ds2, p2, q2, rfl, rfl, rfl, h2, r2⟩ := trodAll_cons r1
  obtain ⟨v3, vs3, d3, ds3, p3, q3, rfl, rfl, rfl, h3, r3⟩ := trodAll_cons r2
  obtain ⟨v4, vs4, d4, ds4, p4, q4, rfl, rfl, rfl, h4, r4⟩ := trodAll_cons r3
  obtain ⟨v5, vs5, d5, ds5, p5, q5, rfl, rfl, rfl, h5, r5⟩ := trodAll_cons r4
  obtain ⟨v6, vs6, d6, ds6, p6, q6, rfl, rfl, rfl, h6, r6⟩ := trodAll_cons r5
  obtain ⟨rfl, rfl, rfl⟩ := trodAll_nil r6
  obtain rfl : args = #[v0, v1, v2, v3, v4, v5, v6] := by cases args; simp_all
  obtain ⟨rfl, rfl⟩ := trodVars_none hV
  obtain ⟨a4, len4, cap4, rfl⟩ := okWide_slice Try.underlying30 (hval 4 30 v4 rfl rfl)
  have k4 := h4
  have lt4 : ∀ x ∈ p4, x.block < W.heap.size := by obtain ⟨m, hm⟩ := k4; exact DataW.trod_lt m _ _ _ hm
  obtain ⟨l4, hl4⟩ : ∃ l, IsList W a4 len4 cap4 l := by
    obtain ⟨fuel, hf⟩ := h4
    rcases open_ints Try.underlying30 Try.underlying3 (by kernel_rfl) hf with ⟨hcs, _⟩ | ⟨x, len, c, zs, hcs, _, hle, hm, hz, hx, hcell, hwz⟩
    · simp [Value.cells] at hcs
      obtain ⟨rfl, rfl, rfl⟩ := hcs
      exact ⟨[], rfl, .inl rfl, fun _ => rfl, by simp⟩
    · simp [Value.cells] at hcs
      obtain ⟨rfl, rfl, rfl⟩ := hcs
      have hz' : zs.length = cap4 := by simpa using hz
      have hd : d4 = .slice (lits .i64 (zs.take len4)) (lits .i64 (zs.drop len4)) := congrArg Prod.fst hx
      have hb := sized_slice hsz (j := 4) (t := 30) (e := 3) rfl (by rw [hd]; rfl) Try.underlying30
      rw [bytesInt] at hb
      simp only [lits, List.length_map, List.length_take, List.length_drop] at hb
      have hr : reachBytes = 140737488351232 := rfl
      rw [hr] at hb
      refine ⟨zs.take len4, ?_, reads_of W x zs len4 (by omega) hcell, fun h => (by cases h), ?_⟩
      · rw [List.length_take]
        omega
      · rw [List.length_take]
        omega
  obtain ⟨a5, len5, cap5, rfl⟩ := okWide_slice Try.underlying30 (hval 5 30 v5 rfl rfl)
  have k5 := h5
  have lt5 : ∀ x ∈ p5, x.block < W.heap.size := by obtain ⟨m, hm⟩ := k5; exact DataW.trod_lt m _ _ _ hm
  obtain ⟨l5, hl5⟩ : ∃ l, IsList W a5 len5 cap5 l := by
    obtain ⟨fuel, hf⟩ := h5
    rcases open_ints Try.underlying30 Try.underlying3 (by kernel_rfl) hf with ⟨hcs, _⟩ | ⟨x, len, c, zs, hcs, _, hle, hm, hz, hx, hcell, hwz⟩
    · simp [Value.cells] at hcs
      obtain ⟨rfl, rfl, rfl⟩ := hcs
      exact ⟨[], rfl, .inl rfl, fun _ => rfl, by simp⟩
    · simp [Value.cells] at hcs
      obtain ⟨rfl, rfl, rfl⟩ := hcs
      have hz' : zs.length = cap5 := by simpa using hz
      have hd : d5 = .slice (lits .i64 (zs.take len5)) (lits .i64 (zs.drop len5)) := congrArg Prod.fst hx
      have hb := sized_slice hsz (j := 5) (t := 30) (e := 3) rfl (by rw [hd]; rfl) Try.underlying30
      rw [bytesInt] at hb
      simp only [lits, List.length_map, List.length_take, List.length_drop] at hb
      have hr : reachBytes = 140737488351232 := rfl
      rw [hr] at hb
      refine ⟨zs.take len5, ?_, reads_of W x zs len5 (by omega) hcell, fun h => (by cases h), ?_⟩
      · rw [List.length_take]
        omega
      · rw [List.length_take]
        omega
  obtain ⟨a6, len6, cap6, rfl⟩ := okWide_slice Try.underlying30 (hval 6 30 v6 rfl rfl)
  have k6 := h6
  have lt6 : ∀ x ∈ p6, x.block < W.heap.size := by obtain ⟨m, hm⟩ := k6; exact DataW.trod_lt m _ _ _ hm
  obtain ⟨l6, hl6⟩ : ∃ l, IsList W a6 len6 cap6 l := by
    obtain ⟨fuel, hf⟩ := h6
    rcases open_ints Try.underlying30 Try.underlying3 (by kernel_rfl) hf with ⟨hcs, _⟩ | ⟨x, len, c, zs, hcs, _, hle, hm, hz, hx, hcell, hwz⟩
    · simp [Value.cells] at hcs
      obtain ⟨rfl, rfl, rfl⟩ := hcs
      exact ⟨[], rfl, .inl rfl, fun _ => rfl, by simp⟩
    · simp [Value.cells] at hcs
      obtain ⟨rfl, rfl, rfl⟩ := hcs
      have hz' : zs.length = cap6 := by simpa using hz
      have hd : d6 = .slice (lits .i64 (zs.take len6)) (lits .i64 (zs.drop len6)) := congrArg Prod.fst hx
      have hb := sized_slice hsz (j := 6) (t := 30) (e := 3) rfl (by rw [hd]; rfl) Try.underlying30
      rw [bytesInt] at hb
      simp only [lits, List.length_map, List.length_take, List.length_drop] at hb
      have hr : reachBytes = 140737488351232 := rfl
      rw [hr] at hb
      refine ⟨zs.take len6, ?_, reads_of W x zs len6 (by omega) hcell, fun h => (by cases h), ?_⟩
      · rw [List.length_take]
        omega
      · rw [List.length_take]
        omega
  obtain ⟨a0, rfl, rfl, rfl, w0⟩ := open_int Try.underlying3 (hval 0 3 v0 rfl rfl) h0
  obtain ⟨a1, rfl, rfl, rfl, w1⟩ := open_int Try.underlying3 (hval 1 3 v1 rfl rfl) h1
  obtain ⟨a2, rfl, rfl, rfl, w2⟩ := open_int Try.underlying3 (hval 2 3 v2 rfl rfl) h2
  obtain ⟨a3, rfl, rfl, rfl, w3⟩ := open_int Try.underlying3 (hval 3 3 v3 rfl rfl) h3
  clear hA0 hval0 hsz0
  refine (walk a0 a1 a2 a3 a4 len4 cap4 l4 a5 len5 cap5 l5 a6 len6 cap6 l6 W hl4 hl5 hl6).mono fun e W' ⟨he, bel⟩ => ?_
  subst he
  exact ⟨_, rfl, _, _, _, [], _, [], hW', trodAll_mk1 (shut_bool Try.underlying4 _), (trodAll_cons_mk (shut_int Try.underlying3 w0) (trodAll_cons_mk (shut_int Try.underlying3 w1) (trodAll_cons_mk (shut_int Try.underlying3 w2) (trodAll_cons_mk (shut_int Try.underlying3 w3) (trodAll_cons_mk (Below.trod laidOut (by kernel_rfl) (of_decide_eq_true (by kernel_rfl)) k4 bel lt4) (trodAll_cons_mk (Below.trod laidOut (by kernel_rfl) (of_decide_eq_true (by kernel_rfl)) k5 bel lt5) (trodAll_cons_mk (Below.trod laidOut (by kernel_rfl) (of_decide_eq_true (by kernel_rfl)) k6 bel lt6) trodAll_mk0))))))), rfl, bel.frame _, fun h => by cases h⟩

theorem over : Rows.findStaysRow.holds Try.pinned (OpenSpec.ofChange Rows.findStaysSpec) :=
  OpenClaim.holds_of_wide 5 Try.f5 rfl rfl rfl rfl rfl rfl rfl ⟨rfl, rfl, rfl, rfl, rfl⟩ rfl rfl rfl rfl rfl (by kernel_rfl) Try.func5 (by kernel_rfl)
    (of_decide_eq_true (by kernel_rfl)) (by unfold Func.isWrapper; first | (rw [if_pos (by decide +kernel)]; kernel_rfl) | (rw [if_neg (by decide +kernel)]; exact ⟨rfl, rfl⟩))
    (fun os started H enc _ => lifted os started H enc)

theorem proved : Rows.FindStaysSaid := over
#print axioms proved
end Go.Proofs.Ythlcjhkelcfnoaa.findStaysSaid
