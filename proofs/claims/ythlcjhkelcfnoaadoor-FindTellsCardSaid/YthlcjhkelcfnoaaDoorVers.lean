/- Package vers in memory; version, New. -/
import Derived.Test.YthlcjhkelcfnoaaDoorRalSet2
import Derived.Test.YthlcjhkelcfnoaaDoorKeep
import Derived.Deep.OwnRows
import Derived.Deep.AppendLies
import Derived.Deep.RegionLaw
import Derived.Laws.EntriesVeiled
namespace Go.Proofs.YthlcjhkelcfnoaaDoor.vers
open Go.RowKit
open ral (Sp WF total elems build setS)

theorem infoL : (Tryd.prog.info? 49).map (fun i => (i.zero, i.size, i.bytes)) = some (some (.agg #[.pointer none, .int .i64 0]), 2, 16) := by kernel_rfl
abbrev Ver := Option Addr × List (BT Int)
/-- the cells of the versions -/
def rowOf : List Ver → List Value
  | [] => []
  | v :: vs => .pointer v.1 :: .int .i64 (total v.2 : Nat) :: rowOf vs
theorem rowOf_length (vs : List Ver) : (rowOf vs).length = vs.length * 2 := by
  induction vs with
  | nil => rfl
  | cons v vs ih => simp only [rowOf, List.length_cons, ih]; omega
theorem rowOf_append (vs us : List Ver) : rowOf (vs ++ us) = rowOf vs ++ rowOf us := by
  induction vs with
  | nil => rfl
  | cons v vs ih => simp [rowOf, ih]
theorem rowOf_at (vs : List Ver) : ∀ (k : Nat) (p : Option Addr) (ts : List (BT Int)), vs[k]? = some (p, ts) → (rowOf vs)[k * 2]? = some (.pointer p) ∧ (rowOf vs)[k * 2 + 1]? = some (.int .i64 (total ts : Nat)) := by
  induction vs with
  | nil => intro k p ts h; simp at h
  | cons v vs ih =>
    intro k p ts h
    cases k with
    | zero => simp at h; subst h; simp [rowOf]
    | succ k =>
      simp at h
      have := ih k p ts h
      simpa [rowOf, Nat.add_mul] using this

/-- the trees of all versions: of N numbers each -/
def Lists (B : Nat) (w : World) (N : Nat) (vs : List Ver) : Prop := ∀ x ∈ vs, Sp B w x.1 x.2 ∧ WF x.2 ∧ total x.2 = N
/-- block b has versions -/
structure VS (ty B : Nat) (w : World) (b N : Nat) (vs : List Ver) : Prop where
  hB : B ≤ b
  box : ∃ v, w.heap[b]? = some (.cells #[v] ty (0, 0)) ∧ w.ownsRow B 49 2 v vs.length (rowOf vs)
  sp : Lists B w N vs
theorem Sp.keep {B : Nat} {T : List Nat} {w w' : World} (hk : KeepT T w w') (h1 : 80 ∉ T) (h2 : 75 ∉ T) : ∀ {ts : List (BT Int)} {p : Option Addr}, Sp B w p ts → Sp B w' p ts
  | [], _, h => h
  | _ :: _, _, ⟨b, q, r, e, hB, hc, hq, hr⟩ => ⟨b, q, r, e, hB, hk _ _ _ _ hc h2, hq.keep hk h1, Sp.keep hk h1 h2 hr⟩
theorem VS.keep {ty B : Nat} {T : List Nat} {w w' : World} {b N : Nat} {vs : List Ver} (h : VS ty B w b N vs) (hk : KeepT T w w') (h0 : ty ∉ T) (h1 : 80 ∉ T) (h2 : 75 ∉ T) (h3 : 49 ∉ T) : VS ty B w' b N vs := by
  obtain ⟨v, hv, ho⟩ := h.box
  exact ⟨h.hB, ⟨v, hk _ _ _ _ hv h0, rowKeep ho hk h3⟩, fun x hx => ⟨Sp.keep hk h1 h2 (h.sp x hx).1, (h.sp x hx).2⟩⟩
theorem VS.up {ty B : Nat} {w w' : World} {b N : Nat} {vs : List Ver} (h : VS ty B w b N vs) (hb : Below w.heap.size w w') : VS ty B w' b N vs :=
  h.keep (T := []) (KeepT.of hb) (by simp) (by simp) (by simp) (by simp)

set_option maxHeartbeats 2000000 in
theorem version_out (w : World) (b m : Nat) (a : Option Addr) (c : Nat) (v : Int) (hb : w.heap[b]? = some (.cells #[.slice a m c] 53 (0, 0))) (hv : v < 0 ∨ (m : Int) ≤ v) :
    Calls Tryd.prog 23 #[.pointer (some ⟨b, 0, none⟩), .int .i64 v] w fun e w' => e = .returned (.tuple #[.agg #[.pointer none, .int .i64 0], .iface 29 (.int .i64 2)]) ∧ Below w.heap.size w w' := by
  have h1 := belowAlloc w (.cells #[.pointer none, .int .i64 0] 49)
  have k0 := cell_of_one hb
  have k1 := upc h1 k0
  have H1 := Lib.hid h1
  clear h1 hb
  by_cases h0 : v < 0
  · clear hv
    go_enter Tryd.func23, Tryd.ntmps23
    go_wp2_with fail
    exact bodyPost_ret (v := .tuple #[.agg #[.pointer none, .int .i64 0], .iface 29 (.int .i64 2)]) (by simp [results, Tryd.results23, go_sem]) rfl ⟨rfl, H1.out⟩
  · have g1 : (m : Int) ≤ v := by omega
    have g0 : 0 ≤ v := by omega
    clear hv
    go_enter Tryd.func23, Tryd.ntmps23
    go_wp2_with fail
    exact bodyPost_ret (v := .tuple #[.agg #[.pointer none, .int .i64 0], .iface 29 (.int .i64 2)]) (by simp [results, Tryd.results23, go_sem]) rfl ⟨rfl, H1.out⟩

set_option maxHeartbeats 2000000 in
theorem version_in (w : World) (b m g c : Nat) (k : Nat) (p : Option Addr) (n : Int) (hb : w.heap[b]? = some (.cells #[.slice (some ⟨g, 0, none⟩) m c] 53 (0, 0))) (hk : k < m)
    (h0 : w.cell? ⟨g, k * 2, none⟩ = some (.pointer p)) (h1 : w.cell? ⟨g, k * 2 + 1, none⟩ = some (.int .i64 n)) :
    Calls Tryd.prog 23 #[.pointer (some ⟨b, 0, none⟩), .int .i64 (k : Nat)] w fun e w' => e = .returned (.tuple #[.agg #[.pointer p, .int .i64 n], .nilIface]) ∧ Below w.heap.size w w' := by
  have hb1 := belowAlloc w (.cells #[.pointer none, .int .i64 0] 49)
  have k0 := cell_of_one hb
  have k1 := upc hb1 k0
  have k2 := upc hb1 h0
  have k3 := upc hb1 h1
  have g0 : (0 : Int) ≤ (k : Int) := by omega
  have g1 : (k : Int) < (m : Int) := by omega
  have H1 := Lib.hid hb1
  clear hb1 hb
  go_enter Tryd.func23, Tryd.ntmps23
  go_wp2_with fail
  exact bodyPost_ret (v := .tuple #[.agg #[.pointer p, .int .i64 n], .nilIface]) (by simp [results, Tryd.results23, go_sem]) rfl ⟨rfl, belowAlloc _ _⟩

theorem made_at (z : Value) (n i : Nat) (h : i < n) : (madeCells #[z] n)[i]? = some z := by
  simp [madeCells, h, Nat.mod_one]
theorem reads_made (w : World) (n : Nat) : Reads (w.alloc (.cells (madeCells #[.int .i64 0] n) 3)) (some ⟨w.heap.size, 0, none⟩) (List.replicate n 0) := by
  by_cases h : n = 0
  · subst h; exact .inl rfl
  · refine .inr ⟨w.heap.size, 0, rfl, fun i hi => ?_⟩
    rw [List.length_replicate] at hi
    have hb := heap_alloc_new w (.cells (madeCells #[.int .i64 0] n) 3)
    simp only [World.cell?, hb]
    simp [made_at _ _ _ hi, hi]
theorem own_new {w : World} {g B : Nat} {cur : Array Value} {e sz : Nat} (hB : B ≤ g) (h : w.heap[g]? = some (.cells cur e (0, 0))) (hs : cur.size = 1 * sz) : w.ownsRow B e sz (.slice (some ⟨g, 0, none⟩) 1 1) 1 cur.toList := by
  refine ⟨by simpa using hs, .inr ⟨g, 1, cur, rfl, hB, h, Nat.le_refl _, by unfold maxLen; omega, hs, ?_⟩⟩
  rw [List.take_of_length_le]
  rw [Array.length_toList, hs]
  exact Nat.le_refl _

def RetNew (ty : Nat) (w : World) (n : Nat) (xs : List Int) (e : Ending) (w' : World) : Prop :=
  ∃ b p, e = .returned (.tuple #[.pointer (some ⟨b, 0, none⟩), .nilIface]) ∧ VS ty w.heap.size w' b n [(p, build xs)] ∧ Below w.heap.size w w'

set_option maxHeartbeats 2000000 in
theorem New_in (w : World) (n : Nat) (hn : n ≤ 5000) :
    Calls Tryd.prog 6 #[.int .i64 (n : Nat)] w (RetNew 53 w n (List.replicate n 0)) := by
  have g0 : (0 : Int) ≤ (n : Int) := by omega
  have g1 : (n : Int) ≤ 5000 := by omega
  have hmk := fun W : World => run_make_row' (P := Tryd.prog) 22 3 (.int .i64 0) 8 Tryd.underlying22 infoInt rfl .i64 .i64 n (by omega) (by omega) W
  have hOf := ral.Of_any (w.alloc (.cells (madeCells #[.int .i64 0] n) 3)) (some ⟨w.heap.size, 0, none⟩) n (List.replicate n 0) (by rw [List.length_replicate]; omega) (reads_made w n)
  rw [List.length_replicate] at hOf
  have HOf := Lib.hid hOf
  clear hOf
  go_enter Tryd.func6, Tryd.ntmps6
  go_wp2_with fail
  refine HOf.out.mono ?_
  rintro e w1 ⟨p, rfl, hp, hb1⟩
  have hB1 := belowTrans (belowAlloc w _) hb1
  have ht : total (build (List.replicate n (0 : Int))) = n := by rw [ral.total_build, List.length_replicate]
  rw [ht]
  clear hmk
  have Hp := Lib.hid hp
  have HB1 := Lib.hid hB1
  have Ht := Lib.hid ht
  have Hb1 := Lib.hid hb1
  clear hp hB1 ht hb1
  go_wp2_with fail
  go_ret2
  have hs := HB1.out.size
  have h2 := belowTrans (belowAlloc w1 (.cells #[.pointer p, .int .i64 (n : Nat)] 49)) (belowAlloc _ (.cells #[.slice (some ⟨w1.heap.size, 0, none⟩) 1 1] 53))
  refine ⟨w1.heap.size + 1, p, rfl, ⟨by omega, ⟨_, heapNew2 _ _ _, ?_⟩, ?_⟩, belowTrans HB1.out h2⟩
  · have h := own_new (B := w.heap.size) (sz := 2) hs (heapNew1 w1 (.cells #[.pointer p, .int .i64 (n : Nat)] 49) (.cells #[.slice (some ⟨w1.heap.size, 0, none⟩) 1 1] 53)) rfl
    simpa [rowOf, Ht.out] using h
  · intro x hx
    obtain rfl : x = (p, build (List.replicate n 0)) := by simpa using hx
    exact ⟨Sp.up h2 (Sp.lower (by simp) Hp.out), ral.wf_build _, Ht.out⟩

set_option maxHeartbeats 2000000 in
theorem New_out (w : World) (n : Int) (hn : n < 0 ∨ 5000 < n) :
    Calls Tryd.prog 6 #[.int .i64 n] w fun e w' => e = .returned (.tuple #[.pointer none, .iface 29 (.int .i64 1)]) ∧ w = w' := by
  by_cases h0 : n < 0
  · clear hn
    go_enter Tryd.func6, Tryd.ntmps6
    go_wp2_with fail
    go_ret2
    exact ⟨rfl, rfl⟩
  · have g0 : 0 ≤ n := by omega
    have g1 : 5000 < n := by omega
    clear hn
    go_enter Tryd.func6, Tryd.ntmps6
    go_wp2_with fail
    go_ret2
    exact ⟨rfl, rfl⟩
end Go.Proofs.YthlcjhkelcfnoaaDoor.vers
