/- Whatever the input: wattleworklaw4.TrieLongest returns true, and what was there before the call stays. No condition. -/
import Derived.Test.YteglhcpochcopaaTrieLongest
import Derived.SliceStrings
import Derived.Test.YteglhcpochcopaaRows
import Derived.WalkKit
import Derived.ProofKit
import Derived.OpenShut
import Derived.ShutString
import Derived.ChangeOld
import Derived.Below
import Derived.SizedLaws
import Derived.Deep.SlicePairs
namespace Go.Proofs.Yteglhcpochcopaa.trieLongestSaid
open Go.ChangeShapes Go.WideShapes Go.ChangeAt Go.RowKit
open Go.ChangeMaps (open_string shut_string)
set_option linter.unusedVariables false

theorem own : ownKnob Try.prog.godebug = none := by kernel_rfl
theorem laidOut : laidOutB Try.prog = true := by kernel_rfl
theorem bytesInt : Try.prog.bytesOf 3 = 8 := by kernel_rfl

open trie (Wd sv bw sv_bw ReadsS)
def wd (b : ByteArray) : Wd := b.data.toList
theorem sv_wd (b : ByteArray) : sv (wd b) = .string b := by cases b; simp [sv, wd]

/-- what the walk is told of a slice of words that came in -/
def IsWords (w : World) (a : Option Addr) (len : Nat) (l : List Wd) : Prop := l.length = len ∧ ReadsS w a l ∧ l.length * 16 ≤ 140737488351232
theorem words_of (w : World) (x : Addr) (ss : List ByteArray) (len : Nat) (hl : len ≤ ss.length) (hc : ∀ i, i < ss.length → w.cell? (x.add i) = some (.string (ss.getD i ByteArray.empty))) : ReadsS w (some x) ((ss.take len).map wd) := by
  by_cases h0 : len = 0
  · subst h0; exact .inl rfl
  · have h1 := hc 0 (by omega)
    obtain ⟨b, off, spot⟩ := x
    have hspot : spot = none := by simpa [Addr.add] using World.cell?_spot h1
    subst hspot
    refine .inr ⟨b, off, rfl, fun i hi => ?_⟩
    rw [List.length_map, List.length_take] at hi
    have h := hc i (by omega)
    have ea : (⟨b, off, none⟩ : Addr).add i = ⟨b, off + i, none⟩ := by unfold Addr.add; split <;> simp_all
    rw [ea] at h
    rw [h]
    have e : ((ss.take len).map wd).getD i [] = wd (ss.getD i ByteArray.empty) := by
      simp [List.getD_eq_getElem?_getD, show i < len by omega, show i < ss.length by omega]
    rw [e, sv_wd]

theorem walk (a0 : Option Addr) (len0 cap0 : Nat) (l0 : List Wd) (a1 : Wd) (a2 : Wd) (w : World) (h0 : IsWords w a0 len0 l0) (h1 : a1.length ≤ 140737488351232) (h2 : a2.length ≤ 140737488351232) :
    Calls Try.prog 3 #[.slice a0 len0 cap0, sv a1, sv a2] w fun e w' => e = .returned (.bool true) ∧ Below w.heap.size w w' := by
  obtain ⟨rfl, hr0, hb0⟩ := h0
  exact trie.longest_any a0 cap0 l0 a1 a2 w hb0 hr0 h1 h2

set_option maxRecDepth 100000 in
theorem lifted (os : Os) (started : os.Started) (H : Type) (enc : TypeId × Value → H) :
    ReturnsInHanded {} Try.checked os 3 .any (Rows.trieLongestSpec.pre6 enc Try.prog Try.f3 Rows.trieLongestRow.domain false) (Rows.trieLongestSpec.post enc Try.prog Try.f3 false true false false) := by
  refine returnsInHanded_of_change_sized (C := Try.checked) own started (by kernel_rfl) Try.func3
    (ChangeSpec.witness6 (enc := enc) (C := Try.checked) false ⟨#[], #[.slice none 0 0, .string { data := #[] }, .string { data := #[] }], []⟩ 8 (by kernel_rfl) (by kernel_rfl) (by kernel_rfl) (by kernel_rfl)) ?_
  intro W base args ds gs before hval0 hW hcnd hsz0 _
  have hval : ∀ (j : Nat) t v, Try.f3.params[j]? = some t → args[j]? = some v → Value.okWide Try.prog W .any base t v := hval0
  have hsz : (DataW.weightsEach Try.prog (Try.f3.params.toList ++ Rows.trieLongestSpec.plain.varTypes Try.prog) (ds ++ gs)).all (· ≤ reachBytes) = true := hsz0
  have hW' := hW
  obtain ⟨p, q, hA0, hV, rfl, hfz, hnd⟩ := hW
  have hA : DataW.TrodAll enc Try.prog W 0 (fun _ => true) true Try.f3.params.toList args.toList ds p := hA0
  rw [Try.params3] at hA hval hsz
  obtain ⟨v0, vs0, d0, ds0, p0, q0, hargs, rfl, rfl, h0, r0⟩ := trodAll_cons hA
  obtain ⟨v1, vs1, d1, ds1, p1, q1, rfl, rfl, rfl, h1, r1⟩ := trodAll_cons r0
  obtain ⟨v2, vs2, d2, ds2, p2, q2, rfl, rfl, rfl, h2, r2⟩ := trodAll_cons r1
  obtain ⟨rfl, rfl, rfl⟩ := trodAll_nil r2
  obtain rfl : args = #[v0, v1, v2] := by cases args; simp_all
  obtain ⟨rfl, rfl⟩ := trodVars_none hV
  obtain ⟨a0, len0, cap0, rfl⟩ := okWide_slice Try.underlying22 (hval 0 22 v0 rfl rfl)
  have k0 := h0
  have lt0 : ∀ x ∈ p0, x.block < W.heap.size := by obtain ⟨m, hm⟩ := k0; exact DataW.trod_lt m _ _ _ hm
  obtain ⟨l0, hl0⟩ : ∃ l, IsWords W a0 len0 l := by
    obtain ⟨fuel, hf⟩ := h0
    rcases open_strings Try.underlying22 Try.underlying9 (by kernel_rfl) hf with ⟨hcs, _⟩ | ⟨x, len, c, ss, hcs, _, hle, hm, hz, hx, hcell, _⟩
    · simp [Value.cells] at hcs
      obtain ⟨rfl, rfl, rfl⟩ := hcs
      exact ⟨[], rfl, .inl rfl, by simp⟩
    · simp [Value.cells] at hcs
      obtain ⟨rfl, rfl, rfl⟩ := hcs
      have hz' : ss.length = cap0 := by simpa using hz
      have hd : d0 = .slice (strs (ss.take len0)) (strs (ss.drop len0)) := congrArg Prod.fst hx
      have hb := sized_slice hsz (j := 0) (t := 22) (e := 9) rfl (by rw [hd]; rfl) Try.underlying22
      rw [show Try.prog.bytesOf 9 = 16 by kernel_rfl] at hb
      simp only [strs, List.length_map, List.length_take, List.length_drop] at hb
      have hr : reachBytes = 140737488351232 := rfl
      rw [hr] at hb
      refine ⟨(ss.take len0).map wd, ?_, words_of W x ss len0 (by omega) hcell, ?_⟩
      · rw [List.length_map, List.length_take]
        omega
      · rw [List.length_map, List.length_take]
        omega
  obtain ⟨s1, rfl, hs1, rfl, w1⟩ := open_string Try.underlying9 (hval 1 9 v1 rfl rfl) h1
  have l1 : (wd s1).length ≤ 140737488351232 := sized_string hsz (j := 1) (t := 9) rfl (by rw [hs1]; rfl)
  rw [← sv_wd s1]
  obtain ⟨s2, rfl, hs2, rfl, w2⟩ := open_string Try.underlying9 (hval 2 9 v2 rfl rfl) h2
  have l2 : (wd s2).length ≤ 140737488351232 := sized_string hsz (j := 2) (t := 9) rfl (by rw [hs2]; rfl)
  rw [← sv_wd s2]
  clear hA0 hval0 hsz0
  refine (walk a0 len0 cap0 l0 (wd s1) (wd s2) W hl0 l1 l2).mono fun e W' ⟨he, bel⟩ => ?_
  subst he
  exact ⟨_, rfl, _, _, _, [], _, [], hW', trodAll_mk1 (shut_bool Try.underlying4 _), (trodAll_cons_mk (Below.trod laidOut (by kernel_rfl) (of_decide_eq_true (by kernel_rfl)) k0 bel lt0) (trodAll_cons_mk (by rw [sv_wd, hs1]; exact shut_string Try.underlying9 w1) (trodAll_cons_mk (by rw [sv_wd, hs2]; exact shut_string Try.underlying9 w2) trodAll_mk0))), rfl, bel.frame _, fun h => by cases h⟩

theorem over : Rows.trieLongestRow.holds Try.pinned (OpenSpec.ofChange Rows.trieLongestSpec) :=
  OpenClaim.holds_of_wide 3 Try.f3 rfl rfl rfl rfl rfl rfl rfl ⟨rfl, rfl, rfl, rfl, rfl⟩ rfl rfl rfl rfl rfl (by kernel_rfl) Try.func3 (by kernel_rfl)
    (of_decide_eq_true (by kernel_rfl)) (by unfold Func.isWrapper; first | (rw [if_pos (by decide +kernel)]; kernel_rfl) | (rw [if_neg (by decide +kernel)]; exact ⟨rfl, rfl⟩))
    (fun os started H enc _ => lifted os started H enc)

theorem proved : Rows.TrieLongestSaid := over
#print axioms proved
end Go.Proofs.Yteglhcpochcopaa.trieLongestSaid
