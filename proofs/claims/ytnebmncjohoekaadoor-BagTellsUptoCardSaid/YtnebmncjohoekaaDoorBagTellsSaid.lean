/- Whatever the input of bulk at most 1048576 (values and letters, each counted each time it is reached): wattleworklaw4.BagTells returns true, and what was there before the call stays. Condition: that bound on the input (the form Upto); errors.errorType holds what the program's start lays (the card ties it). -/
import Derived.Test.YtnebmncjohoekaaDoorBagTells
import Derived.Test.YtnebmncjohoekaaDoorCards
import Derived.Test.YtnebmncjohoekaaDoorTie
import Derived.Deep.DeepHandedRow
import Derived.LaidHandle
import Derived.LaidLaws
import Derived.SevenTiedAt
import Derived.Test.YtnebmncjohoekaaDoorRows
import Derived.WalkKit
import Derived.ProofKit
import Derived.OpenShut
import Derived.ShutString
import Derived.ChangeOld
import Derived.Below
import Derived.SizedLaws
import Derived.Deep.SlicePairs
import Derived.Deep.CondSized
namespace Go.Proofs.YtnebmncjohoekaaDoor.bagTellsSaid
open Go.ChangeShapes Go.WideShapes Go.ChangeAt Go.RowKit
open Go.ChangeMaps (open_string shut_string)
set_option linter.unusedVariables false

theorem own : ownKnob Tryd.prog.godebug = none := by kernel_rfl
theorem laidOut : laidOutB Tryd.prog = true := by kernel_rfl
theorem bytesInt : Tryd.prog.bytesOf 3 = 8 := by kernel_rfl

theorem bulk_one {H : Type} (d : DataW H) : 1 ≤ Rows.uptoBulk d := by
  cases d with
  | lit l => cases l <;> simp [Rows.uptoBulk]
  | nil => simp [Rows.uptoBulk]
  | ptr d => simp [Rows.uptoBulk]
  | slice elems spare => simp [Rows.uptoBulk]
  | agg parts => simp [Rows.uptoBulk]
  | iface t d => simp [Rows.uptoBulk]
  | map entries => simp [Rows.uptoBulk]
  | held h => simp [Rows.uptoBulk]
theorem bulk_part {H : Type} {d : DataW H} {l : List (DataW H)} (h : d ∈ l) : Rows.uptoBulk d ≤ Rows.uptoBulkAll l := by
  induction l with
  | nil => cases h
  | cons x r ih =>
    simp only [Rows.uptoBulkAll]
    rcases List.mem_cons.1 h with e | e
    · subst e; omega
    · have := ih e; omega
theorem bulk_len {H : Type} (l : List (DataW H)) : l.length ≤ Rows.uptoBulkAll l := by
  induction l with
  | nil => simp [Rows.uptoBulkAll]
  | cons x r ih => have := bulk_one x; simp only [Rows.uptoBulkAll, List.length_cons]; omega
/-- a slice that came in is short -/
theorem bulk_slice {H : Type} {ds : List (DataW H)} (hk : Rows.uptoSmall H ds = true) {d : DataW H} {elems spare : List (DataW H)} (hd : d = DataW.slice elems spare) (h : d ∈ ds) : elems.length ≤ 1048576 := by
  subst hd
  have h1 : Rows.uptoBulkAll ds ≤ 1048576 := of_decide_eq_true hk
  have h2 := bulk_part h
  have h3 := bulk_len elems
  simp only [Rows.uptoBulk] at h2
  omega

open pat (I64)


theorem i64_of {k : Int} (h : (Lit.int .i64 k).wf = true) : I64 k := by
  have h' : (decide (-9223372036854775808 ≤ k) && decide (k ≤ 9223372036854775807)) = true := h
  simp only [Bool.and_eq_true, decide_eq_true_eq] at h'
  exact h'

theorem bytesPair : Tryd.prog.bytesOf 43 = 16 := by kernel_rfl
theorem structPair : ∃ f0 f1, Tryd.prog.underlying 43 = some (.struct #[f0, f1]) ∧ f0.offset = 0 ∧ f1.offset = 1 ∧ f0.type = 3 ∧ f1.type = 3 := ⟨_, _, Tryd.underlying43, rfl, rfl, rfl, rfl⟩
/-- what the walk is told of a slice of pairs that came in -/
def IsPairs (w : World) (a : Option Addr) (len cap : Nat) (l : List (Int × Int)) : Prop := l.length = len ∧ ReadsP w a l ∧ l.length ≤ 1048576 ∧ ∀ p ∈ l, I64 p.1 ∧ I64 p.2
theorem addr_plain {W : World} {x : Addr} {v : Value} (h : W.cell? (x.add (0 * 2)) = some v) : ∃ b o, x = ⟨b, o, none⟩ := by
  obtain ⟨b, off, spot⟩ := x
  have hspot : spot = none := by simpa [Addr.add] using World.cell?_spot h
  subst hspot
  exact ⟨b, off, rfl⟩

theorem walk (a0 : Option Addr) (len0 cap0 : Nat) (l0 : List (Int × Int)) (a1 : Option Addr) (len1 cap1 : Nat) (l1 : List (Int × Int)) (a2 : Int) (w : World) (h0 : IsPairs w a0 len0 cap0 l0) (h1 : IsPairs w a1 len1 cap1 l1) (h2 : I64 a2) (hg : er.Handle w) :
    Calls Tryd.prog 5 #[.slice a0 len0 cap0, .slice a1 len1 cap1, .int .i64 a2] w fun e w' => e = .returned (.bool true) ∧ Below w.heap.size w w' := by
  obtain ⟨rfl, hr0, hb0, hi0⟩ := h0
  obtain ⟨rfl, hr1, hb1, hi1⟩ := h1
  exact bag.tells_any a0 cap0 l0 a1 cap1 l1 a2 w hb0 hr0 (fun p hp => (hi0 p hp).1) hb1 hr1 (fun p hp => (hi1 p hp).1) h2 hg

theorem et : Tryd.prog.globalNamed "errors.errorType" = some 0 := by kernel_rfl
theorem rt : (Tryd.prog.cutTypes.find? (·.1 == "internal/reflectlite.rtype")).map (·.2) = some 89 := by kernel_rfl
theorem oneRow : ((List.range 134).filter fun t => Tryd.prog.rowNamed t [101, 114, 114, 111, 114]) = [47] := by kernel_rfl
theorem tsize : Tryd.prog.types.size = 134 := by kernel_rfl
/-- what the list gives: the variable's one cell -/
theorem handle_of_laid {W : World} (h : laidMetH Tryd.prog Rows.bagTellsUptoRow.laid W) : er.Handle W := by
  have h' : laidMet Tryd.prog [] W ∧ handlesMet Tryd.prog Rows.bagTellsUptoRow.laid W := h
  obtain ⟨name, u, ty, e1, e2, e3, e4, e5⟩ := h'.2 _ (List.mem_singleton.2 rfl)
  have en : name = [101, 114, 114, 111, 114] := (Option.some.inj e1).symm
  subst en
  obtain rfl := Option.some.inj (rt.symm.trans e2)
  have hm : ty ∈ (List.range 134).filter fun t => Tryd.prog.rowNamed t [101, 114, 114, 111, 114] := List.mem_filter.2 ⟨List.mem_range.2 (by rw [← tsize]; exact e3), e4⟩
  rw [oneRow] at hm
  obtain rfl := List.mem_singleton.1 hm
  have hh : typeHandle Tryd.prog 47 = .pointer (some ⟨1, 47, none⟩) := by kernel_rfl
  rw [hh] at e5
  unfold er.Handle
  simpa using World.var?_cell et e5 0
/-- a world that meets the list -/
noncomputable def laidWorld (os : Os) : World :=
  { World.holding Tryd.prog os ⟨#[], #[], []⟩ with heap := (World.holding Tryd.prog os ⟨#[], #[], []⟩).heap.modify 0 fun
      | .cells _ t frozen => .cells #[.iface 89 (.agg #[.pointer (some ⟨1, 47, none⟩)])] t frozen
      | o => o }
theorem laid_met (os : Os) : laidMetH Tryd.prog Rows.bagTellsUptoRow.laid ((laidWorld os).forCall (fun _ _ => 0) ⟨#[], #[.slice none 0 0, .slice none 0 0, .int .i64 0], []⟩).memory :=
  laidMetH_of_parts (laidMet_nil _ _) (by kernel_rfl)
theorem reads (os : Os) {H : Type} (enc : TypeId × Value → H) : ∃ places, DataW.whole enc Tryd.prog ((laidWorld os).forCall (fun _ _ => 0) ⟨#[], #[.slice none 0 0, .slice none 0 0, .int .i64 0], []⟩).memory Tryd.f5.params.toList Rows.bagTellsSpec.vars false #[.slice none 0 0, .slice none 0 0, .int .i64 0].toList 8 = some ([.nil, .nil, .lit (.int .i64 0)], [], places) :=
  ⟨[], by kernel_rfl⟩

set_option maxRecDepth 100000 in
theorem lifted (os : Os) (started : os.Started) (H : Type) (enc : TypeId × Value → H) (F : Stop.Interp) :
    ReturnsInHanded {} Tryd.checked os 5 .any ((Rows.OpenSpec.upto Rows.bagTellsSpec).preRow enc Tryd.prog Tryd.f5 Rows.bagTellsUptoRow.domain false Rows.bagTellsUptoRow.laid) (((Rows.OpenSpec.upto Rows.bagTellsSpec).at F).post enc Tryd.prog Tryd.f5 false true false false) := by
  obtain ⟨places, hx⟩ := reads os enc
  refine returnsInHanded_of_row (C := Tryd.checked) (s := Rows.OpenSpec.upto Rows.bagTellsSpec) own started (by kernel_rfl) Tryd.func5
    (witness_row_at (enc := enc) (C := Tryd.checked) false (laidWorld os) #[.slice none 0 0, .slice none 0 0, .int .i64 0] rfl (by kernel_rfl) (by kernel_rfl) (by kernel_rfl)
      (OpenSpec.preRow_of_cond 8 hx (by kernel_rfl) (fun k hk => by cases hk; kernel_rfl) (by kernel_rfl) (laid_met os))) ?_
  intro W base args ds gs before hval0 hW hcnd hcond hsz0 hL _ _
  have hval : ∀ (j : Nat) t v, Tryd.f5.params[j]? = some t → args[j]? = some v → Value.okWide Tryd.prog W .any base t v := hval0
  have hsz : (DataW.weightsEach Tryd.prog (Tryd.f5.params.toList ++ Rows.bagTellsSpec.plain.varTypes Tryd.prog) (ds ++ gs)).all (· ≤ reachBytes) = true := hsz0
  have hg := handle_of_laid hL
  have hk0 : Rows.uptoSmall H (ds ++ gs) = true := hcond _ rfl
  have hW' := hW
  obtain ⟨p, q, hA0, hV, rfl, hfz, hnd⟩ := hW
  have hA : DataW.TrodAll enc Tryd.prog W 0 (fun _ => true) true Tryd.f5.params.toList args.toList ds p := hA0
  rw [Tryd.params5] at hA hval hsz
  obtain ⟨v0, vs0, d0, ds0, p0, q0, hargs, rfl, rfl, h0, r0⟩ := trodAll_cons hA
  obtain ⟨v1, vs1, d1, ds1, p1, q1, rfl, rfl, rfl, h1, r1⟩ := trodAll_cons r0
  obtain ⟨v2, vs2, d2, ds2, p2, q2, rfl, rfl, rfl, h2, r2⟩ := trodAll_cons r1
  obtain ⟨rfl, rfl, rfl⟩ := trodAll_nil r2
  obtain rfl : args = #[v0, v1, v2] := by cases args; simp_all
  obtain ⟨rfl, rfl⟩ := trodVars_none hV
  have hk : Rows.uptoSmall H [d0, d1, d2] = true := by simpa using hk0
  obtain ⟨a0, len0, cap0, rfl⟩ := okWide_slice Tryd.underlying22 (hval 0 22 v0 rfl rfl)
  have k0 := h0
  have lt0 : ∀ x ∈ p0, x.block < W.heap.size := by obtain ⟨m, hm⟩ := k0; exact DataW.trod_lt m _ _ _ hm
  obtain ⟨l0, hl0⟩ : ∃ l, IsPairs W a0 len0 cap0 l := by
    obtain ⟨fuel, hf⟩ := h0
    obtain ⟨f0, f1, hst, o0, o1, t0, t1⟩ := structPair
    rcases Go.Deep.open_slice_pairs Tryd.underlying22 hst (by kernel_rfl) o0 o1 (by rw [t0]; kernel_rfl) (by rw [t1]; kernel_rfl) hf with ⟨hcs, _⟩ | ⟨x, len, c, m, n, V0, V1, D0, D1, P0, P1, hcs, _, hle, hm, hmm, hx, hcell⟩
    · simp [Value.cells] at hcs
      obtain ⟨rfl, rfl, rfl⟩ := hcs
      exact ⟨[], rfl, .inl rfl, by simp, fun p hp => by cases hp⟩
    · simp [Value.cells] at hcs
      obtain ⟨rfl, rfl, rfl⟩ := hcs
      have hlm : len0 ≤ m := by rw [hmm]; split <;> omega
      have hd := congrArg Prod.fst hx
      have hb := sized_slice hsz (j := 0) (t := 22) (e := 43) rfl (by rw [show d0 = _ from hd]; rfl) Tryd.underlying22
      rw [bytesPair] at hb
      simp only [List.length_map, List.length_range] at hb
      have hr : reachBytes = 140737488351232 := rfl
      rw [hr] at hb
      have each : ∀ i, i < len0 → ∃ p : Int × Int, W.cell? (x.add (i * 2)) = some (.int .i64 p.1) ∧ W.cell? (x.add (i * 2 + 1)) = some (.int .i64 p.2) ∧ I64 p.1 ∧ I64 p.2 := by
        intro i hi
        obtain ⟨c0, c1, g0, g1⟩ := hcell i (by omega)
        rw [t0] at g0
        rw [t1] at g1
        obtain ⟨n0, e0, _, w0⟩ := DataW.trod_int Tryd.underlying3 g0
        obtain ⟨n1, e1, _, w1⟩ := DataW.trod_int Tryd.underlying3 g1
        simp only [List.cons.injEq, and_true] at e0 e1
        exact ⟨(n0, n1), by rw [c0, e0], by rw [c1, e1], i64_of w0, i64_of w1⟩
      obtain ⟨l, hll, hle⟩ : ∃ l : List (Int × Int), l.length = len0 ∧ ∀ i, i < len0 → W.cell? (x.add (i * 2)) = some (.int .i64 (l.getD i (0, 0)).1) ∧ W.cell? (x.add (i * 2 + 1)) = some (.int .i64 (l.getD i (0, 0)).2) ∧ I64 (l.getD i (0, 0)).1 ∧ I64 (l.getD i (0, 0)).2 := by
        obtain ⟨q, hq⟩ := Go.Deep.choose_lt each
        exact ⟨(List.range len0).map q, by simp, fun i hi => by simpa [List.getD_eq_getElem?_getD, hi] using hq i hi⟩
      refine ⟨l, hll, ?_, by rw [hll]; have hd2 := bulk_slice hk (show d0 = DataW.slice _ _ from hd) (by simp); simp only [List.length_map, List.length_range] at hd2; omega, fun p hp => ?_⟩
      · by_cases h0 : len0 = 0
        · exact .inl (List.eq_nil_of_length_eq_zero (by omega))
        · obtain ⟨b, o, rfl⟩ : ∃ b o, x = ⟨b, o, none⟩ := addr_plain (hle 0 (by omega)).1
          refine .inr ⟨b, o, rfl, fun i hi => ?_⟩
          have h := hle i (by omega)
          have ea : ∀ z, (⟨b, o, none⟩ : Addr).add z = ⟨b, o + z, none⟩ := fun z => by unfold Addr.add; split <;> simp_all
          rw [ea, ea] at h
          exact ⟨h.1, by rw [Nat.add_assoc]; exact h.2.1⟩
      · obtain ⟨i, hi, rfl⟩ := List.getElem_of_mem hp
        have h := (hle i (by omega)).2.2
        simpa [List.getD_eq_getElem?_getD, hi] using h
  obtain ⟨a1, len1, cap1, rfl⟩ := okWide_slice Tryd.underlying22 (hval 1 22 v1 rfl rfl)
  have k1 := h1
  have lt1 : ∀ x ∈ p1, x.block < W.heap.size := by obtain ⟨m, hm⟩ := k1; exact DataW.trod_lt m _ _ _ hm
  obtain ⟨l1, hl1⟩ : ∃ l, IsPairs W a1 len1 cap1 l := by
    obtain ⟨fuel, hf⟩ := h1
    obtain ⟨f0, f1, hst, o0, o1, t0, t1⟩ := structPair
    rcases Go.Deep.open_slice_pairs Tryd.underlying22 hst (by kernel_rfl) o0 o1 (by rw [t0]; kernel_rfl) (by rw [t1]; kernel_rfl) hf with ⟨hcs, _⟩ | ⟨x, len, c, m, n, V0, V1, D0, D1, P0, P1, hcs, _, hle, hm, hmm, hx, hcell⟩
    · simp [Value.cells] at hcs
      obtain ⟨rfl, rfl, rfl⟩ := hcs
      exact ⟨[], rfl, .inl rfl, by simp, fun p hp => by cases hp⟩
    · simp [Value.cells] at hcs
      obtain ⟨rfl, rfl, rfl⟩ := hcs
      have hlm : len1 ≤ m := by rw [hmm]; split <;> omega
      have hd := congrArg Prod.fst hx
      have hb := sized_slice hsz (j := 1) (t := 22) (e := 43) rfl (by rw [show d1 = _ from hd]; rfl) Tryd.underlying22
      rw [bytesPair] at hb
      simp only [List.length_map, List.length_range] at hb
      have hr : reachBytes = 140737488351232 := rfl
      rw [hr] at hb
      have each : ∀ i, i < len1 → ∃ p : Int × Int, W.cell? (x.add (i * 2)) = some (.int .i64 p.1) ∧ W.cell? (x.add (i * 2 + 1)) = some (.int .i64 p.2) ∧ I64 p.1 ∧ I64 p.2 := by
        intro i hi
        obtain ⟨c0, c1, g0, g1⟩ := hcell i (by omega)
        rw [t0] at g0
        rw [t1] at g1
        obtain ⟨n0, e0, _, w0⟩ := DataW.trod_int Tryd.underlying3 g0
        obtain ⟨n1, e1, _, w1⟩ := DataW.trod_int Tryd.underlying3 g1
        simp only [List.cons.injEq, and_true] at e0 e1
        exact ⟨(n0, n1), by rw [c0, e0], by rw [c1, e1], i64_of w0, i64_of w1⟩
      obtain ⟨l, hll, hle⟩ : ∃ l : List (Int × Int), l.length = len1 ∧ ∀ i, i < len1 → W.cell? (x.add (i * 2)) = some (.int .i64 (l.getD i (0, 0)).1) ∧ W.cell? (x.add (i * 2 + 1)) = some (.int .i64 (l.getD i (0, 0)).2) ∧ I64 (l.getD i (0, 0)).1 ∧ I64 (l.getD i (0, 0)).2 := by
        obtain ⟨q, hq⟩ := Go.Deep.choose_lt each
        exact ⟨(List.range len1).map q, by simp, fun i hi => by simpa [List.getD_eq_getElem?_getD, hi] using hq i hi⟩
      refine ⟨l, hll, ?_, by rw [hll]; have hd2 := bulk_slice hk (show d1 = DataW.slice _ _ from hd) (by simp); simp only [List.length_map, List.length_range] at hd2; omega, fun p hp => ?_⟩
      · by_cases h0 : len1 = 0
        · exact .inl (List.eq_nil_of_length_eq_zero (by omega))
        · obtain ⟨b, o, rfl⟩ : ∃ b o, x = ⟨b, o, none⟩ := addr_plain (hle 0 (by omega)).1
          refine .inr ⟨b, o, rfl, fun i hi => ?_⟩
          have h := hle i (by omega)
          have ea : ∀ z, (⟨b, o, none⟩ : Addr).add z = ⟨b, o + z, none⟩ := fun z => by unfold Addr.add; split <;> simp_all
          rw [ea, ea] at h
          exact ⟨h.1, by rw [Nat.add_assoc]; exact h.2.1⟩
      · obtain ⟨i, hi, rfl⟩ := List.getElem_of_mem hp
        have h := (hle i (by omega)).2.2
        simpa [List.getD_eq_getElem?_getD, hi] using h
  obtain ⟨a2, rfl, rfl, rfl, w2⟩ := open_int Tryd.underlying3 (hval 2 3 v2 rfl rfl) h2
  clear hA0 hval0 hsz0
  refine (walk a0 len0 cap0 l0 a1 len1 cap1 l1 a2 W hl0 hl1 (i64_of w2) hg).mono fun e W' ⟨he, bel⟩ => ?_
  subst he
  exact ⟨_, rfl, _, _, _, [], _, [], hW', trodAll_mk1 (shut_bool Tryd.underlying4 _), (trodAll_cons_mk (Below.trod laidOut (by kernel_rfl) (of_decide_eq_true (by kernel_rfl)) k0 bel lt0) (trodAll_cons_mk (Below.trod laidOut (by kernel_rfl) (of_decide_eq_true (by kernel_rfl)) k1 bel lt1) (trodAll_cons_mk (shut_int Tryd.underlying3 w2) trodAll_mk0))), rfl, bel.frame _, fun h => by cases h⟩

theorem said : Rows.BagTellsUptoSaid :=
  OpenClaim.holds_of_cond 5 Tryd.f5 rfl rfl rfl rfl rfl rfl rfl ⟨rfl, rfl, rfl, rfl, rfl⟩ rfl rfl rfl rfl rfl (by kernel_rfl) Tryd.func5 (by kernel_rfl)
    (of_decide_eq_true (by kernel_rfl)) (by unfold Func.isWrapper; first | (rw [if_pos (by decide +kernel)]; kernel_rfl) | (rw [if_neg (by decide +kernel)]; exact ⟨rfl, rfl⟩))
    (fun os started H enc _ F => by rw [OpenClaim.pre_eq_preRow]; exact lifted os started H enc F)
theorem looks : true = Tryd.pinned.checked.prog.looks [] := by kernel_rfl
theorem noStand : (Tryd.f5.params.toList.all fun t => !Tryd.prog.wantsStandIn t) = true := by kernel_rfl
theorem plain (f : FuncId) (fn : Func) (hf : Tryd.pinned.checked.prog.funcNamed "wattlework/wattleworklaw4.BagTells" = some f) (hfn : Tryd.pinned.checked.prog.funcs[f]? = some fn) :
    true = Tryd.pinned.checked.prog.looks [] ∧ ∀ (j : Nat) t, fn.params[j]? = some t → Tryd.pinned.checked.prog.wantsStandIn t = false := by
  obtain rfl : f = 5 := Option.some.inj ((show Tryd.prog.funcNamed "wattlework/wattleworklaw4.BagTells" = some 5 by kernel_rfl).symm.trans hf) |>.symm
  obtain rfl : fn = Tryd.f5 := (Option.some.inj (Tryd.func5.symm.trans hfn)).symm
  refine ⟨looks, fun j t ht => ?_⟩
  have h := List.all_eq_true.1 noStand t (by simpa using Array.mem_of_getElem? ht)
  have h2 : Tryd.prog.wantsStandIn t = false := by simpa using h
  exact h2
theorem proved : Rows.BagTellsUptoCardSaid :=
  Claim7.holds_tied_plain_at .later [] _ _ _ _ said (fun _ h => by cases h) (by kernel_rfl) (fun _ h => by cases h) bagTellsUpto_row_tie rfl ⟨rfl, rfl⟩ (by kernel_rfl) rfl plain (by kernel_rfl)
#print axioms proved
end Go.Proofs.YtnebmncjohoekaaDoor.bagTellsSaid
