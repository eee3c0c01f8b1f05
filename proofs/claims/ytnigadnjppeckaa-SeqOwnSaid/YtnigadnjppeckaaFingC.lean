/- finger: slices.Clone of a row of things; a row of pointers of the call's own is a row of things. -/
import Derived.Test.YtnigadnjppeckaaFing2
import Derived.Test.YtnigadnjppeckaaAppRow
import Derived.Test.YtnigadnjppeckaaGather
import Derived.Lib.SliceRun
namespace Go.Proofs.Ytnigadnjppeckaa.finger
open Go.RowKit Go

theorem infoTh : (Try.prog.info? 93).map (fun i => (i.zero, i.size, i.bytes)) = some (some (.pointer none), 1, 8) := by kernel_rfl
theorem addr_add (b o i : Nat) : (⟨b, o, none⟩ : Addr).add i = ⟨b, o + i, none⟩ := by unfold Addr.add; split <;> simp_all
theorem len_cons {α : Type} {l : List α} (h : 0 < l.length) : ∃ x r, l = x :: r := by
  cases l with
  | nil => simp at h
  | cons x r => exact ⟨x, r, rfl⟩
set_option maxRecDepth 100000 in
set_option maxHeartbeats 2000000 in
theorem clone_any (w : World) (kb n cap : Nat) (cur : Array Value) (ps : List (Option Addr)) (hk : w.heap[kb]? = some (.cells cur 93 (0, 0))) (hl : ps.length = n)
    (hps : ∀ i, i < n → cur[i]? = some (Value.pointer (ps.getD i none))) (hn : n ≤ 4) :
    Calls Try.prog 114 #[.slice (some ⟨kb, 0, none⟩) n cap] w fun e w' => ∃ v, e = .returned v ∧ w'.ownsRow w.heap.size 93 1 v n (ps.map Value.pointer) ∧ Below w.heap.size w w' := by
  obtain ⟨i0, hi, hz0, hz1, hz2⟩ := info_parts infoTh
  have hnil : ∀ W, (binOp .eql 92 (.slice (some ⟨kb, 0, none⟩) n cap) (.slice none 0 0)).run Try.prog W = .ok (.bool false) W := fun W => Lib.run_eql_slice_nil W 92 93 (some ⟨kb, 0, none⟩) n cap 0 0 Try.underlying92
  have hsome : ∀ y, (some ⟨kb, 0, none⟩ : Option Addr) = some y → ∀ j u, (ps.map Value.pointer)[j]? = some u → (w.alloc (.cells #[] 93)).cell? (y.add j) = some u := by
    intro y hy j u hu
    cases hy
    have hj : j < ps.length := by have := (List.getElem?_eq_some_iff.1 hu).1; simpa using this
    rw [addr_add]
    refine upc (belowAlloc _ _) ?_
    rw [Nat.zero_add, cell_of_row w kb j cur _ _ hk, hps j (by omega)]
    rw [List.getElem?_map, List.getElem?_eq_getElem hj] at hu
    simpa [List.getD_eq_getElem?_getD, hj] using hu
  have Hsome := Lib.hid hsome
  have Hi := Lib.hid (And.intro hi (And.intro hz0 (And.intro hz1 hz2)))
  have Hown := Lib.hid (own_empty (w := w) (E := 93) (s := 1) (heap_alloc_new w (.cells #[] 93)))
  have Hl := Lib.hid hl
  clear hi hz0 hz1 hz2 hk hps hsome hl
  go_enter Try.func114, Try.ntmps114
  go_wp2_with (at_builtin; obtain ⟨hi, hz0, hz1, hz2⟩ := Hi.out; refine wpList_append_row _ rfl (.tmp 5) (.tmp 6) 92 rfl w.heap.size 93 i0 (.pointer none) 1 8 Try.underlying92 hi hz0 hz1 hz2 rfl (by decide) (.slice (some ⟨w.heap.size, 0, none⟩) 0 0) 0 [] rfl Hown.out (some ⟨kb, 0, none⟩) n cap (ps.map Value.pointer) rfl ?c0 ?c1 Hsome.out ?c5 ?c2 ?c3 ?c4 ?_)
  case c0 => intro h; cases h
  case c1 => simp [Hl.out]
  case c5 => intro u hu; obtain ⟨y, _, rfl⟩ := List.mem_map.1 hu; rfl
  case c2 => unfold maxLen; omega
  case c3 => omega
  case c4 => simp
  intro v' w2 hown2 hgrow2
  have hb2 : Below w.heap.size w w2 := Below.grown (belowAlloc w (.cells #[] 93)) hgrow2 (by simp) (fun k hk => by cases hk; exact Nat.le_refl _)
  have hO : w2.ownsRow w.heap.size 93 1 v' n (ps.map Value.pointer) := by simpa using hown2
  have HO := Lib.hid (And.intro hO hb2)
  clear hown2 hgrow2 hb2 hO
  go_wp2_with fail
  go_ret
  exact ⟨_, rfl, HO.out.1, HO.out.2⟩
/-- the pointers of a row of things -/
theorem Dig.ptrs {W : World} {B : Nat} {v : Value} {ts : List FT} (h : Dig W B v ts) : ∃ kb cap, ∃ (cur : Array Value) (ps : List (Option Addr)), v = .slice (some ⟨kb, 0, none⟩) ts.length cap ∧ ts.length ≤ cap ∧ B ≤ kb ∧ W.heap[kb]? = some (.cells cur 93 (0, 0)) ∧
    ps.length = ts.length ∧ (∀ i, i < ts.length → cur[i]? = some (Value.pointer (ps.getD i none))) ∧ ∀ (i : Nat) (t : FT), ts[i]? = some t → Th W B (ps.getD i none) t := by
  obtain ⟨kb, cap, cur, hv, hlc, hB, hk, ht⟩ := h
  have hp : ∀ i : Nat, ∃ p : Option Addr, i < ts.length → cur[i]? = some (Value.pointer p) ∧ ∀ t, ts[i]? = some t → Th W B p t := by
    intro i
    by_cases hi : i < ts.length
    · obtain ⟨p, h1, h2⟩ := ht i ts[i] (List.getElem?_eq_getElem hi)
      exact ⟨p, fun _ => ⟨h1, fun t h3 => by rw [List.getElem?_eq_getElem hi] at h3; cases h3; exact h2⟩⟩
    · exact ⟨none, fun h => absurd h hi⟩
  refine ⟨kb, cap, cur, (List.range ts.length).map (fun i => (hp i).choose), hv, hlc, hB, hk, by simp, fun i hi => ?_, fun i t h3 => ?_⟩
  · have h1 := ((hp i).choose_spec hi).1
    rw [h1]
    simp [List.getD_eq_getElem?_getD, hi]
  · have hi : i < ts.length := (List.getElem?_eq_some_iff.1 h3).1
    have h1 := ((hp i).choose_spec hi).2 t h3
    have e : ((List.range ts.length).map (fun i => (hp i).choose)).getD i none = (hp i).choose := by simp [List.getD_eq_getElem?_getD, hi]
    rw [e]
    exact h1
theorem Dig.of_own {W : World} {B base : Nat} {v : Value} {ts : List FT} {ps : List (Option Addr)} (hB : B ≤ base) (ho : W.ownsRow base 93 1 v ts.length (ps.map Value.pointer)) (hl : ps.length = ts.length) (hp : 0 < ts.length)
    (ht : ∀ (i : Nat) (t : FT), ts[i]? = some t → Th W B (ps.getD i none) t) : Dig W B v ts := by
  rcases ho.2 with ⟨_, h0⟩ | ⟨g, cap, cur, rfl, hg, hk, hle, _⟩
  · omega
  · refine ⟨g, cap, cur, rfl, hle, Nat.le_trans hB hg, hk, fun i t hi => ⟨_, ?_, ht i t hi⟩⟩
    have hlt : i < ts.length := (List.getElem?_eq_some_iff.1 hi).1
    have hc := World.ownsRow.cells ho (g := g) rfl i (.pointer (ps.getD i none)) (by simp [List.getD_eq_getElem?_getD, hl, hlt])
    rw [addr_add, Nat.zero_add, cell_of_row W g i cur _ _ hk] at hc
    exact hc
end Go.Proofs.Ytnigadnjppeckaa.finger
