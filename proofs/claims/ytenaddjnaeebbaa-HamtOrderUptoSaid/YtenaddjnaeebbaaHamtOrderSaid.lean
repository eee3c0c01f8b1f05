/- Whatever the input of bulk at most 1048576 (values and letters, each counted each time it is reached): wattleworklaw4.HamtOrder returns true, and what was there before the call stays. Condition: that bound on the input (the form Upto); no other. -/
import Derived.Test.YtenaddjnaeebbaaHamtOrder
import Derived.Test.YtenaddjnaeebbaaRows
import Derived.WalkKit
import Derived.ProofKit
import Derived.OpenShut
import Derived.ShutString
import Derived.ChangeOld
import Derived.Below
import Derived.SizedLaws
import Derived.Deep.SlicePairs
import Derived.Deep.CondSized
namespace Go.Proofs.Ytenaddjnaeebbaa.hamtOrderSaid
open Go.ChangeShapes Go.WideShapes Go.ChangeAt Go.RowKit
open Go.ChangeMaps (open_string shut_string)
set_option linter.unusedVariables false

theorem own : ownKnob Try.prog.godebug = none := by kernel_rfl
theorem laidOut : laidOutB Try.prog = true := by kernel_rfl
theorem bytesInt : Try.prog.bytesOf 3 = 8 := by kernel_rfl

theorem bulk_one {H : Type} (d : DataW H) : 1 ≤ Rows.uptoBulk d := by
  cases d with
  | lit l => cases l <;> simp [Rows.uptoBulk]
  | nil => simp [Rows.uptoBulk]
  | ptr d => simp [Rows.uptoBulk]
  | slice elems spare => simp [Rows.uptoBulk]
  | agg parts => simp [Rows.uptoBulk]
  | iface t d => simp [Rows.uptoBulk]
  | map entries => simp [Rows.uptoBulk]
  | held h => simp [Rows.uptoBulk]
theorem bulk_part {H : Type} {d : DataW H} {l : List (DataW H)} (h : d ∈ l) : Rows.uptoBulk d ≤ Rows.uptoBulkAll l := by
  induction l with
  | nil => cases h
  | cons x r ih =>
    simp only [Rows.uptoBulkAll]
    rcases List.mem_cons.1 h with e | e
    · subst e; omega
    · have := ih e; omega
theorem bulk_len {H : Type} (l : List (DataW H)) : l.length ≤ Rows.uptoBulkAll l := by
  induction l with
  | nil => simp [Rows.uptoBulkAll]
  | cons x r ih => have := bulk_one x; simp only [Rows.uptoBulkAll, List.length_cons]; omega
/-- a slice that came in is short -/
theorem bulk_slice {H : Type} {ds : List (DataW H)} (hk : Rows.uptoSmall H ds = true) {d : DataW H} {elems spare : List (DataW H)} (hd : d = DataW.slice elems spare) (h : d ∈ ds) : elems.length ≤ 1048576 := by
  subst hd
  have h1 : Rows.uptoBulkAll ds ≤ 1048576 := of_decide_eq_true hk
  have h2 := bulk_part h
  have h3 := bulk_len elems
  simp only [Rows.uptoBulk] at h2
  omega

/-- what the walk is told of a slice that came in -/
def IsListM (w : World) (a : Option Addr) (len cap : Nat) (l : List Int) : Prop := l.length = len ∧ Reads w a l ∧ (a = none → cap = 0) ∧ l.length ≤ 1048576 ∧ ∀ x ∈ l, pat.I64 x


theorem reads_of (w : World) (x : Addr) (zs : List Int) (len : Nat) (hl : len ≤ zs.length) (hc : ∀ i, i < zs.length → w.cell? (x.add i) = some (.int .i64 (zs.getD i 0))) : Reads w (some x) (zs.take len) := by
  by_cases h0 : zs.take len = []
  · exact .inl h0
  · have hlen : 0 < len := by
      rcases Nat.eq_zero_or_pos len with h | h
      · exact absurd (by rw [h]; rfl) h0
      · exact h
    have hz : 0 < zs.length := by omega
    obtain ⟨b, off, rfl, hcell⟩ := ints_at hc hz
    refine .inr ⟨b, off, rfl, fun i hi => ?_⟩
    rw [List.length_take] at hi
    have h := hcell i (by omega)
    rw [h]
    simp [List.getD_eq_getElem?_getD, show i < len by omega]

open pat (I64)


theorem i64_of {k : Int} (h : (Lit.int .i64 k).wf = true) : I64 k := by
  have h' : (decide (-9223372036854775808 ≤ k) && decide (k ≤ 9223372036854775807)) = true := h
  simp only [Bool.and_eq_true, decide_eq_true_eq] at h'
  exact h'

theorem bytesPair : Try.prog.bytesOf 31 = 16 := by kernel_rfl
theorem structPair : ∃ f0 f1, Try.prog.underlying 31 = some (.struct #[f0, f1]) ∧ f0.offset = 0 ∧ f1.offset = 1 ∧ f0.type = 3 ∧ f1.type = 3 := ⟨_, _, Try.underlying31, rfl, rfl, rfl, rfl⟩
/-- what the walk is told of a slice of pairs that came in -/
def IsPairs (w : World) (a : Option Addr) (len cap : Nat) (l : List (Int × Int)) : Prop := l.length = len ∧ ReadsP w a l ∧ l.length ≤ 1048576 ∧ ∀ p ∈ l, I64 p.1 ∧ I64 p.2
theorem addr_plain {W : World} {x : Addr} {v : Value} (h : W.cell? (x.add (0 * 2)) = some v) : ∃ b o, x = ⟨b, o, none⟩ := by
  obtain ⟨b, off, spot⟩ := x
  have hspot : spot = none := by simpa [Addr.add] using World.cell?_spot h
  subst hspot
  exact ⟨b, off, rfl⟩

theorem walk (a0 : Option Addr) (len0 cap0 : Nat) (l0 : List (Int × Int)) (a1 : Option Addr) (len1 cap1 : Nat) (l1 : List Int) (w : World) (h0 : IsPairs w a0 len0 cap0 l0) (h1 : IsListM w a1 len1 cap1 l1) :
    Calls Try.prog 7 #[.slice a0 len0 cap0, .slice a1 len1 cap1] w fun e w' => e = .returned (.bool true) ∧ Below w.heap.size w w' := by
  obtain ⟨rfl, hr0, hb0, hi0⟩ := h0
  obtain ⟨rfl, hr1, -, hb1, hi1⟩ := h1
  exact hamt.order_any a0 cap0 l0 a1 cap1 l1 w hb0 hr0 (fun p hp => (hi0 p hp).1) hb1 hr1 hi1

set_option maxRecDepth 100000 in
theorem lifted (os : Os) (started : os.Started) (H : Type) (enc : TypeId × Value → H) (F : Stop.Interp) :
    ReturnsInHanded {} Try.checked os 7 .any ((Rows.OpenSpec.upto Rows.hamtOrderSpec).pre6 enc Try.prog Try.f7 Rows.hamtOrderUptoRow.domain false) (((Rows.OpenSpec.upto Rows.hamtOrderSpec).at F).post enc Try.prog Try.f7 false true false false) := by
  refine returnsInHanded_of_cond_sized (C := Try.checked) (s := Rows.OpenSpec.upto Rows.hamtOrderSpec) (k := Rows.uptoSmall) rfl own started (by kernel_rfl) Try.func7
    (OpenSpec.witness (enc := enc) (C := Try.checked) (s := Rows.OpenSpec.upto Rows.hamtOrderSpec) (k := Rows.uptoSmall) rfl false ⟨#[], #[.slice none 0 0, .slice none 0 0], []⟩ 8 (by kernel_rfl) (by kernel_rfl) (by kernel_rfl)
      (x := ([.nil, .nil], [], [])) (by kernel_rfl) rfl (by kernel_rfl)) ?_
  intro W base args ds gs before hval0 hW hcnd hk0 hsz0 _
  have hval : ∀ (j : Nat) t v, Try.f7.params[j]? = some t → args[j]? = some v → Value.okWide Try.prog W .any base t v := hval0
  have hsz : (DataW.weightsEach Try.prog (Try.f7.params.toList ++ Rows.hamtOrderSpec.plain.varTypes Try.prog) (ds ++ gs)).all (· ≤ reachBytes) = true := hsz0
  have hW' := hW
  obtain ⟨p, q, hA0, hV, rfl, hfz, hnd⟩ := hW
  have hA : DataW.TrodAll enc Try.prog W 0 (fun _ => true) true Try.f7.params.toList args.toList ds p := hA0
  rw [Try.params7] at hA hval hsz
  obtain ⟨v0, vs0, d0, ds0, p0, q0, hargs, rfl, rfl, h0, r0⟩ := trodAll_cons hA
  obtain ⟨v1, vs1, d1, ds1, p1, q1, rfl, rfl, rfl, h1, r1⟩ := trodAll_cons r0
  obtain ⟨rfl, rfl, rfl⟩ := trodAll_nil r1
  obtain rfl : args = #[v0, v1] := by cases args; simp_all
  obtain ⟨rfl, rfl⟩ := trodVars_none hV
  have hk : Rows.uptoSmall H [d0, d1] = true := by simpa using hk0
  obtain ⟨a1, len1, cap1, rfl⟩ := okWide_slice Try.underlying22 (hval 1 22 v1 rfl rfl)
  have k1 := h1
  have lt1 : ∀ x ∈ p1, x.block < W.heap.size := by obtain ⟨m, hm⟩ := k1; exact DataW.trod_lt m _ _ _ hm
  obtain ⟨l1, hl1⟩ : ∃ l, IsListM W a1 len1 cap1 l := by
    obtain ⟨fuel, hf⟩ := h1
    rcases open_ints Try.underlying22 Try.underlying3 (by kernel_rfl) hf with ⟨hcs, _⟩ | ⟨x, len, c, zs, hcs, _, hle, hm, hz, hx, hcell, hwz⟩
    · simp [Value.cells] at hcs
      obtain ⟨rfl, rfl, rfl⟩ := hcs
      exact ⟨[], rfl, .inl rfl, fun _ => rfl, by simp, fun x hx => by cases hx⟩
    · simp [Value.cells] at hcs
      obtain ⟨rfl, rfl, rfl⟩ := hcs
      have hz' : zs.length = cap1 := by simpa using hz
      have hd : d1 = .slice (lits .i64 (zs.take len1)) (lits .i64 (zs.drop len1)) := congrArg Prod.fst hx
      have hb := sized_slice hsz (j := 1) (t := 22) (e := 3) rfl (by rw [hd]; rfl) Try.underlying22
      rw [bytesInt] at hb
      simp only [lits, List.length_map, List.length_take, List.length_drop] at hb
      have hr : reachBytes = 140737488351232 := rfl
      rw [hr] at hb
      refine ⟨zs.take len1, ?_, reads_of W x zs len1 (by omega) hcell, fun h => (by cases h), ?_, fun y hy => i64_of (hwz y (List.mem_of_mem_take hy))⟩
      · rw [List.length_take]
        omega
      · have hd2 := bulk_slice hk (show d1 = DataW.slice _ _ from hd) (by simp); simp only [lits, List.length_map] at hd2; exact hd2
  obtain ⟨a0, len0, cap0, rfl⟩ := okWide_slice Try.underlying28 (hval 0 28 v0 rfl rfl)
  have k0 := h0
  have lt0 : ∀ x ∈ p0, x.block < W.heap.size := by obtain ⟨m, hm⟩ := k0; exact DataW.trod_lt m _ _ _ hm
  obtain ⟨l0, hl0⟩ : ∃ l, IsPairs W a0 len0 cap0 l := by
    obtain ⟨fuel, hf⟩ := h0
    obtain ⟨f0, f1, hst, o0, o1, t0, t1⟩ := structPair
    rcases Go.Deep.open_slice_pairs Try.underlying28 hst (by kernel_rfl) o0 o1 (by rw [t0]; kernel_rfl) (by rw [t1]; kernel_rfl) hf with ⟨hcs, _⟩ | ⟨x, len, c, m, n, V0, V1, D0, D1, P0, P1, hcs, _, hle, hm, hmm, hx, hcell⟩
    · simp [Value.cells] at hcs
      obtain ⟨rfl, rfl, rfl⟩ := hcs
      exact ⟨[], rfl, .inl rfl, by simp, fun p hp => by cases hp⟩
    · simp [Value.cells] at hcs
      obtain ⟨rfl, rfl, rfl⟩ := hcs
      have hlm : len0 ≤ m := by rw [hmm]; split <;> omega
      have hd := congrArg Prod.fst hx
      have hb := sized_slice hsz (j := 0) (t := 28) (e := 31) rfl (by rw [show d0 = _ from hd]; rfl) Try.underlying28
      rw [bytesPair] at hb
      simp only [List.length_map, List.length_range] at hb
      have hr : reachBytes = 140737488351232 := rfl
      rw [hr] at hb
      have each : ∀ i, i < len0 → ∃ p : Int × Int, W.cell? (x.add (i * 2)) = some (.int .i64 p.1) ∧ W.cell? (x.add (i * 2 + 1)) = some (.int .i64 p.2) ∧ I64 p.1 ∧ I64 p.2 := by
        intro i hi
        obtain ⟨c0, c1, g0, g1⟩ := hcell i (by omega)
        rw [t0] at g0
        rw [t1] at g1
        obtain ⟨n0, e0, _, w0⟩ := DataW.trod_int Try.underlying3 g0
        obtain ⟨n1, e1, _, w1⟩ := DataW.trod_int Try.underlying3 g1
        simp only [List.cons.injEq, and_true] at e0 e1
        exact ⟨(n0, n1), by rw [c0, e0], by rw [c1, e1], i64_of w0, i64_of w1⟩
      obtain ⟨l, hll, hle⟩ : ∃ l : List (Int × Int), l.length = len0 ∧ ∀ i, i < len0 → W.cell? (x.add (i * 2)) = some (.int .i64 (l.getD i (0, 0)).1) ∧ W.cell? (x.add (i * 2 + 1)) = some (.int .i64 (l.getD i (0, 0)).2) ∧ I64 (l.getD i (0, 0)).1 ∧ I64 (l.getD i (0, 0)).2 := by
        obtain ⟨q, hq⟩ := Go.Deep.choose_lt each
        exact ⟨(List.range len0).map q, by simp, fun i hi => by simpa [List.getD_eq_getElem?_getD, hi] using hq i hi⟩
      refine ⟨l, hll, ?_, by rw [hll]; have hd2 := bulk_slice hk (show d0 = DataW.slice _ _ from hd) (by simp); simp only [List.length_map, List.length_range] at hd2; omega, fun p hp => ?_⟩
      · by_cases h0 : len0 = 0
        · exact .inl (List.eq_nil_of_length_eq_zero (by omega))
        · obtain ⟨b, o, rfl⟩ : ∃ b o, x = ⟨b, o, none⟩ := addr_plain (hle 0 (by omega)).1
          refine .inr ⟨b, o, rfl, fun i hi => ?_⟩
          have h := hle i (by omega)
          have ea : ∀ z, (⟨b, o, none⟩ : Addr).add z = ⟨b, o + z, none⟩ := fun z => by unfold Addr.add; split <;> simp_all
          rw [ea, ea] at h
          exact ⟨h.1, by rw [Nat.add_assoc]; exact h.2.1⟩
      · obtain ⟨i, hi, rfl⟩ := List.getElem_of_mem hp
        have h := (hle i (by omega)).2.2
        simpa [List.getD_eq_getElem?_getD, hi] using h
  clear hA0 hval0 hsz0
  refine (walk a0 len0 cap0 l0 a1 len1 cap1 l1 W hl0 hl1).mono fun e W' ⟨he, bel⟩ => ?_
  subst he
  exact ⟨_, rfl, _, _, _, [], _, [], hW', trodAll_mk1 (shut_bool Try.underlying4 _), (trodAll_cons_mk (Below.trod laidOut (by kernel_rfl) (of_decide_eq_true (by kernel_rfl)) k0 bel lt0) (trodAll_cons_mk (Below.trod laidOut (by kernel_rfl) (of_decide_eq_true (by kernel_rfl)) k1 bel lt1) trodAll_mk0)), rfl, bel.frame _, fun h => by cases h⟩

theorem proved : Rows.HamtOrderUptoSaid :=
  OpenClaim.holds_of_cond 7 Try.f7 rfl rfl rfl rfl rfl rfl rfl ⟨rfl, rfl, rfl, rfl, rfl⟩ rfl rfl rfl rfl rfl (by kernel_rfl) Try.func7 (by kernel_rfl)
    (of_decide_eq_true (by kernel_rfl)) (by unfold Func.isWrapper; first | (rw [if_pos (by decide +kernel)]; kernel_rfl) | (rw [if_neg (by decide +kernel)]; exact ⟨rfl, rfl⟩))
    (fun os started H enc _ F => lifted os started H enc F)
#print axioms proved
end Go.Proofs.Ytenaddjnaeebbaa.hamtOrderSaid
