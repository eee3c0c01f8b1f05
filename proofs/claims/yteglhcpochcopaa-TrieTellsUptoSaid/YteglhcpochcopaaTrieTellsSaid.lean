/- Whatever the input of bulk at most 1048576 (values and letters, each counted each time it is reached): wattleworklaw4.TrieTells returns true, and what was there before the call stays. Condition: that bound on the input (the form Upto); no other. -/
import Derived.Test.YteglhcpochcopaaTrieTells
import Derived.Test.YteglhcpochcopaaRows
import Derived.WalkKit
import Derived.ProofKit
import Derived.OpenShut
import Derived.ShutString
import Derived.ChangeOld
import Derived.Below
import Derived.SizedLaws
import Derived.Deep.SlicePairs
import Derived.Deep.CondSized
namespace Go.Proofs.Yteglhcpochcopaa.trieTellsSaid
open Go.ChangeShapes Go.WideShapes Go.ChangeAt Go.RowKit
open Go.ChangeMaps (open_string shut_string)
set_option linter.unusedVariables false

theorem own : ownKnob Try.prog.godebug = none := by kernel_rfl
theorem laidOut : laidOutB Try.prog = true := by kernel_rfl
theorem bytesInt : Try.prog.bytesOf 3 = 8 := by kernel_rfl

theorem bulk_one {H : Type} (d : DataW H) : 1 ≤ Rows.uptoBulk d := by
  cases d with
  | lit l => cases l <;> simp [Rows.uptoBulk]
  | nil => simp [Rows.uptoBulk]
  | ptr d => simp [Rows.uptoBulk]
  | slice elems spare => simp [Rows.uptoBulk]
  | agg parts => simp [Rows.uptoBulk]
  | iface t d => simp [Rows.uptoBulk]
  | map entries => simp [Rows.uptoBulk]
  | held h => simp [Rows.uptoBulk]
theorem bulk_part {H : Type} {d : DataW H} {l : List (DataW H)} (h : d ∈ l) : Rows.uptoBulk d ≤ Rows.uptoBulkAll l := by
  induction l with
  | nil => cases h
  | cons x r ih =>
    simp only [Rows.uptoBulkAll]
    rcases List.mem_cons.1 h with e | e
    · subst e; omega
    · have := ih e; omega
theorem bulk_len {H : Type} (l : List (DataW H)) : l.length ≤ Rows.uptoBulkAll l := by
  induction l with
  | nil => simp [Rows.uptoBulkAll]
  | cons x r ih => have := bulk_one x; simp only [Rows.uptoBulkAll, List.length_cons]; omega
/-- a slice that came in is short -/
theorem bulk_slice {H : Type} {ds : List (DataW H)} (hk : Rows.uptoSmall H ds = true) {d : DataW H} {elems spare : List (DataW H)} (hd : d = DataW.slice elems spare) (h : d ∈ ds) : elems.length ≤ 1048576 := by
  subst hd
  have h1 : Rows.uptoBulkAll ds ≤ 1048576 := of_decide_eq_true hk
  have h2 := bulk_part h
  have h3 := bulk_len elems
  simp only [Rows.uptoBulk] at h2
  omega
/-- what a slice that came in holds is small -/
theorem bulk_mem {H : Type} {ds : List (DataW H)} (hk : Rows.uptoSmall H ds = true) {d : DataW H} {elems spare : List (DataW H)} (hd : d = DataW.slice elems spare) (h : d ∈ ds) {e : DataW H} (he : e ∈ elems) : Rows.uptoBulk e ≤ 1048576 := by
  subst hd
  have h1 : Rows.uptoBulkAll ds ≤ 1048576 := of_decide_eq_true hk
  have h2 := bulk_part h
  have h3 := bulk_part he
  simp only [Rows.uptoBulk] at h2
  omega

theorem addr_plain {W : World} {x : Addr} {v : Value} (h : W.cell? (x.add (0 * 2)) = some v) : ∃ b o, x = ⟨b, o, none⟩ := by
  obtain ⟨b, off, spot⟩ := x
  have hspot : spot = none := by simpa [Addr.add] using World.cell?_spot h
  subst hspot
  exact ⟨b, off, rfl⟩

open trie (ReadsW)
theorem bytesWord : Try.prog.bytesOf 29 = 24 := by kernel_rfl
theorem structWord : ∃ f0 f1, Try.prog.underlying 29 = some (.struct #[f0, f1]) ∧ f0.offset = 0 ∧ f1.offset = 1 ∧ f0.type = 9 ∧ f1.type = 3 := ⟨_, _, Try.underlying29, rfl, rfl, rfl, rfl⟩
/-- what the walk is told of a slice of words with values that came in -/
def IsWordsV (w : World) (a : Option Addr) (len : Nat) (l : List (trie.Wd × Int)) : Prop := l.length = len ∧ ReadsW w a l ∧ l.length ≤ 1048576 ∧ ∀ x ∈ l, x.1.length ≤ 1048576

open trie (Wd sv bw sv_bw ReadsS)
def wd (b : ByteArray) : Wd := b.data.toList
theorem sv_wd (b : ByteArray) : sv (wd b) = .string b := by cases b; simp [sv, wd]

theorem walk (a0 : Option Addr) (len0 cap0 : Nat) (l0 : List (trie.Wd × Int)) (a1 : Wd) (w : World) (h0 : IsWordsV w a0 len0 l0) (h1 : a1.length ≤ 140737488351232) :
    Calls Try.prog 7 #[.slice a0 len0 cap0, sv a1] w fun e w' => e = .returned (.bool true) ∧ Below w.heap.size w w' := by
  obtain ⟨rfl, hr0, hb0⟩ := h0
  exact trie.tells_any a0 cap0 l0 a1 w hb0 hr0 h1

set_option maxRecDepth 100000 in
theorem lifted (os : Os) (started : os.Started) (H : Type) (enc : TypeId × Value → H) (F : Stop.Interp) :
    ReturnsInHanded {} Try.checked os 7 .any ((Rows.OpenSpec.upto Rows.trieTellsSpec).pre6 enc Try.prog Try.f7 Rows.trieTellsUptoRow.domain false) (((Rows.OpenSpec.upto Rows.trieTellsSpec).at F).post enc Try.prog Try.f7 false true false false) := by
  refine returnsInHanded_of_cond_sized (C := Try.checked) (s := Rows.OpenSpec.upto Rows.trieTellsSpec) (k := Rows.uptoSmall) rfl own started (by kernel_rfl) Try.func7
    (OpenSpec.witness (enc := enc) (C := Try.checked) (s := Rows.OpenSpec.upto Rows.trieTellsSpec) (k := Rows.uptoSmall) rfl false ⟨#[], #[.slice none 0 0, .string { data := #[] }], []⟩ 8 (by kernel_rfl) (by kernel_rfl) (by kernel_rfl)
      (x := ([.nil, .lit (.string [])], [], [])) (by kernel_rfl) rfl (by kernel_rfl)) ?_
  intro W base args ds gs before hval0 hW hcnd hk0 hsz0 _
  have hval : ∀ (j : Nat) t v, Try.f7.params[j]? = some t → args[j]? = some v → Value.okWide Try.prog W .any base t v := hval0
  have hsz : (DataW.weightsEach Try.prog (Try.f7.params.toList ++ Rows.trieTellsSpec.plain.varTypes Try.prog) (ds ++ gs)).all (· ≤ reachBytes) = true := hsz0
  have hW' := hW
  obtain ⟨p, q, hA0, hV, rfl, hfz, hnd⟩ := hW
  have hA : DataW.TrodAll enc Try.prog W 0 (fun _ => true) true Try.f7.params.toList args.toList ds p := hA0
  rw [Try.params7] at hA hval hsz
  obtain ⟨v0, vs0, d0, ds0, p0, q0, hargs, rfl, rfl, h0, r0⟩ := trodAll_cons hA
  obtain ⟨v1, vs1, d1, ds1, p1, q1, rfl, rfl, rfl, h1, r1⟩ := trodAll_cons r0
  obtain ⟨rfl, rfl, rfl⟩ := trodAll_nil r1
  obtain rfl : args = #[v0, v1] := by cases args; simp_all
  obtain ⟨rfl, rfl⟩ := trodVars_none hV
  have hk : Rows.uptoSmall H [d0, d1] = true := by simpa using hk0
  obtain ⟨a0, len0, cap0, rfl⟩ := okWide_slice Try.underlying37 (hval 0 37 v0 rfl rfl)
  have k0 := h0
  have lt0 : ∀ x ∈ p0, x.block < W.heap.size := by obtain ⟨m, hm⟩ := k0; exact DataW.trod_lt m _ _ _ hm
  obtain ⟨l0, hl0⟩ : ∃ l, IsWordsV W a0 len0 l := by
    obtain ⟨fuel, hf⟩ := h0
    obtain ⟨f0, f1, hst, o0, o1, t0, t1⟩ := structWord
    rcases Go.Deep.open_slice_pairs Try.underlying37 hst (by kernel_rfl) o0 o1 (by rw [t0]; kernel_rfl) (by rw [t1]; kernel_rfl) hf with ⟨hcs, _⟩ | ⟨x, len, c, m, n, V0, V1, D0, D1, P0, P1, hcs, _, hle, hm, hmm, hx, hcell⟩
    · simp [Value.cells] at hcs
      obtain ⟨rfl, rfl, rfl⟩ := hcs
      exact ⟨[], rfl, .inl rfl, by simp, fun p hp => by cases hp⟩
    · simp [Value.cells] at hcs
      obtain ⟨rfl, rfl, rfl⟩ := hcs
      have hlm : len0 ≤ m := by rw [hmm]; split <;> omega
      have hd := congrArg Prod.fst hx
      have each : ∀ i, i < len0 → ∃ p : trie.Wd × Int, W.cell? (x.add (i * 2)) = some (sv p.1) ∧ W.cell? (x.add (i * 2 + 1)) = some (.int .i64 p.2) ∧ p.1.length ≤ 1048576 := by
        intro i hi
        obtain ⟨c0, c1, g0, g1⟩ := hcell i (by omega)
        rw [t0] at g0
        rw [t1] at g1
        obtain ⟨n0, e0, x0, _⟩ := DataW.trod_string Try.underlying9 g0
        obtain ⟨n1, e1, _, w1⟩ := DataW.trod_int Try.underlying3 g1
        simp only [List.cons.injEq, and_true] at e0 e1
        have hb1 := bulk_mem hk (show d0 = DataW.slice _ _ from hd) (by simp) (e := .agg [D0 i, D1 i]) (List.mem_map.2 ⟨i, List.mem_range.2 hi, rfl⟩)
        have hb2 : D0 i = .lit (.string n0.data.toList) := congrArg Prod.fst x0
        simp only [Rows.uptoBulk, Rows.uptoBulkAll, hb2] at hb1
        exact ⟨(wd n0, n1), by rw [c0, e0, sv_wd], by rw [c1, e1], by show n0.data.toList.length ≤ 1048576; omega⟩
      obtain ⟨l, hll, hle⟩ : ∃ l : List (trie.Wd × Int), l.length = len0 ∧ ∀ i, i < len0 → W.cell? (x.add (i * 2)) = some (sv (l.getD i ([], 0)).1) ∧ W.cell? (x.add (i * 2 + 1)) = some (.int .i64 (l.getD i ([], 0)).2) ∧ (l.getD i ([], 0)).1.length ≤ 1048576 := by
        obtain ⟨q, hq⟩ := Go.Deep.choose_lt each
        exact ⟨(List.range len0).map q, by simp, fun i hi => by simpa [List.getD_eq_getElem?_getD, hi] using hq i hi⟩
      refine ⟨l, hll, ?_, by rw [hll]; have hd2 := bulk_slice hk (show d0 = DataW.slice _ _ from hd) (by simp); simp only [List.length_map, List.length_range] at hd2; omega, fun p hp => ?_⟩
      · by_cases h0 : len0 = 0
        · exact .inl (List.eq_nil_of_length_eq_zero (by omega))
        · obtain ⟨b, o, rfl⟩ : ∃ b o, x = ⟨b, o, none⟩ := addr_plain (hle 0 (by omega)).1
          refine .inr ⟨b, o, rfl, fun i hi => ?_⟩
          have h := hle i (by omega)
          have ea : ∀ z, (⟨b, o, none⟩ : Addr).add z = ⟨b, o + z, none⟩ := fun z => by unfold Addr.add; split <;> simp_all
          rw [ea, ea] at h
          exact ⟨h.1, by rw [Nat.add_assoc]; exact h.2.1⟩
      · obtain ⟨i, hi, rfl⟩ := List.getElem_of_mem hp
        have h := (hle i (by omega)).2.2
        simpa [List.getD_eq_getElem?_getD, hi] using h
  obtain ⟨s1, rfl, hs1, rfl, w1⟩ := open_string Try.underlying9 (hval 1 9 v1 rfl rfl) h1
  have l1 : (wd s1).length ≤ 140737488351232 := sized_string hsz (j := 1) (t := 9) rfl (by rw [hs1]; rfl)
  rw [← sv_wd s1]
  clear hA0 hval0 hsz0
  refine (walk a0 len0 cap0 l0 (wd s1) W hl0 l1).mono fun e W' ⟨he, bel⟩ => ?_
  subst he
  exact ⟨_, rfl, _, _, _, [], _, [], hW', trodAll_mk1 (shut_bool Try.underlying4 _), (trodAll_cons_mk (Below.trod laidOut (by kernel_rfl) (of_decide_eq_true (by kernel_rfl)) k0 bel lt0) (trodAll_cons_mk (by rw [sv_wd, hs1]; exact shut_string Try.underlying9 w1) trodAll_mk0)), rfl, bel.frame _, fun h => by cases h⟩

theorem proved : Rows.TrieTellsUptoSaid :=
  OpenClaim.holds_of_cond 7 Try.f7 rfl rfl rfl rfl rfl rfl rfl ⟨rfl, rfl, rfl, rfl, rfl⟩ rfl rfl rfl rfl rfl (by kernel_rfl) Try.func7 (by kernel_rfl)
    (of_decide_eq_true (by kernel_rfl)) (by unfold Func.isWrapper; first | (rw [if_pos (by decide +kernel)]; kernel_rfl) | (rw [if_neg (by decide +kernel)]; exact ⟨rfl, rfl⟩))
    (fun os started H enc _ F => lifted os started H enc F)
#print axioms proved
end Go.Proofs.Yteglhcpochcopaa.trieTellsSaid
