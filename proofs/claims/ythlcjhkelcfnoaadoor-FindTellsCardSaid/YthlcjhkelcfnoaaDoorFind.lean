/- Package find in memory; version, top. -/
import Derived.Test.YthlcjhkelcfnoaaDoorVers
import Derived.Test.YthlcjhkelcfnoaaDoorFindP
import Derived.Lib.MinMax
namespace Go.Proofs.YthlcjhkelcfnoaaDoor.find
open Go.RowKit
open ral (Sp WF total elems build setS)
open vers (Ver rowOf Lists rowOf_at rowOf_length rowOf_append own_new infoL)

/-- block b has versions of groups of N numbers -/
structure FS (B : Nat) (w : World) (b N : Nat) (vs : List Ver) : Prop where
  hB : B ≤ b
  box : ∃ v, w.heap[b]? = some (.cells #[.int .i64 (N : Nat), v] 64 (0, 0)) ∧ w.ownsRow B 49 2 v vs.length (rowOf vs)
  sp : Lists B w N vs
  par : ∀ x ∈ vs, Par N (elems x.2)
theorem FS.keep {B : Nat} {T : List Nat} {w w' : World} {b N : Nat} {vs : List Ver} (h : FS B w b N vs) (hk : KeepT T w w') (h0 : 64 ∉ T) (h1 : 80 ∉ T) (h2 : 75 ∉ T) (h3 : 49 ∉ T) : FS B w' b N vs := by
  obtain ⟨v, hv, ho⟩ := h.box
  exact ⟨h.hB, ⟨v, hk _ _ _ _ hv h0, rowKeep ho hk h3⟩, fun x hx => ⟨vers.Sp.keep hk h1 h2 (h.sp x hx).1, (h.sp x hx).2⟩, h.par⟩
theorem FS.up {B : Nat} {w w' : World} {b N : Nat} {vs : List Ver} (h : FS B w b N vs) (hb : Below w.heap.size w w') : FS B w' b N vs :=
  h.keep (T := []) (KeepT.of hb) (by simp) (by simp) (by simp) (by simp)
theorem FS.form {B : Nat} {w : World} {b N : Nat} {vs : List Ver} (h : FS B w b N vs) : ∃ a c, w.heap[b]? = some (.cells #[.int .i64 (N : Nat), .slice a vs.length c] 64 (0, 0)) := by
  obtain ⟨v, hv, ho⟩ := h.box
  rcases ho.2 with ⟨rfl, h0⟩ | ⟨g, cap, cur, rfl, _⟩
  · exact ⟨none, 0, by rw [h0]; exact hv⟩
  · exact ⟨_, _, hv⟩
theorem FS.at {B : Nat} {w : World} {b N : Nat} {vs : List Ver} (h : FS B w b N vs) (hl : 0 < vs.length) :
    ∃ g c, w.heap[b]? = some (.cells #[.int .i64 (N : Nat), .slice (some ⟨g, 0, none⟩) vs.length c] 64 (0, 0)) ∧ B ≤ g ∧ w.ownsRow B 49 2 (.slice (some ⟨g, 0, none⟩) vs.length c) vs.length (rowOf vs) ∧
      ∀ k p ts, vs[k]? = some (p, ts) → w.cell? ⟨g, k * 2, none⟩ = some (.pointer p) ∧ w.cell? ⟨g, k * 2 + 1, none⟩ = some (.int .i64 (total ts : Nat)) := by
  obtain ⟨v, hv, ho⟩ := h.box
  obtain ⟨g, c, rfl, hg, _, hc⟩ := rowCell ho hl
  exact ⟨g, c, hv, hg, ho, fun k p ts hk => ⟨hc _ _ (rowOf_at vs k p ts hk).1, hc _ _ (rowOf_at vs k p ts hk).2⟩⟩

def RetVer (w : World) (v : Value) (e : Ending) (w' : World) : Prop := e = .returned v ∧ Below w.heap.size w w'
def noVer (c : Int) : Value := .tuple #[.agg #[.pointer none, .int .i64 0], .iface 29 (.int .i64 c)]

set_option maxHeartbeats 2000000 in
theorem version_out (B : Nat) (w : World) (b N : Nat) (vs : List Ver) (h : FS B w b N vs) (v : Int) (al : Value) (hv : v < 0 ∨ (vs.length : Int) ≤ v) :
    Calls Tryd.prog 28 #[.pointer (some ⟨b, 0, none⟩), .int .i64 v, al] w (RetVer w (noVer 2)) := by
  obtain ⟨a, c, hb⟩ := h.form
  obtain ⟨m, hm⟩ : ∃ m, m = vs.length := ⟨_, rfl⟩
  rw [← hm] at hb hv
  have h1 := belowAlloc w (.cells #[.pointer none, .int .i64 0] 49)
  have k0 := two_c1 hb
  have k1 := upc h1 k0
  have H1 := Lib.hid h1
  clear h1 hb hm h
  by_cases h0 : v < 0
  · clear hv
    go_enter Tryd.func28, Tryd.ntmps28
    go_wp2_with fail
    exact bodyPost_ret (v := noVer 2) (by simp [results, Tryd.results28, go_sem, noVer]) rfl ⟨rfl, H1.out⟩
  · have g1 : (m : Int) ≤ v := by omega
    have g0 : 0 ≤ v := by omega
    clear hv
    go_enter Tryd.func28, Tryd.ntmps28
    go_wp2_with fail
    exact bodyPost_ret (v := noVer 2) (by simp [results, Tryd.results28, go_sem, noVer]) rfl ⟨rfl, H1.out⟩

set_option maxHeartbeats 4000000 in
theorem version_in (B : Nat) (w : World) (b N : Nat) (vs : List Ver) (h : FS B w b N vs) (k : Nat) (p : Option Addr) (ts : List (BT Int)) (hkv : vs[k]? = some (p, ts)) (a : Option Addr) (c m : Nat) (l : List Int) (hr : Reads w a l) (hl : l.length = m) (hm : m ≤ 1000)
    (hin : ∀ i, i < m → 0 ≤ l.getD i 0 ∧ l.getD i 0 < (N : Int)) :
    Calls Tryd.prog 28 #[.pointer (some ⟨b, 0, none⟩), .int .i64 (k : Nat), .slice a m c] w (RetVer w (.tuple #[.agg #[.pointer p, .int .i64 (N : Nat)], .nilIface])) := by
  have hk : k < vs.length := (List.getElem?_eq_some_iff.1 hkv).1
  obtain ⟨g, c', hb, _, _, hc⟩ := h.at (by omega)
  have htot : total ts = N := (h.sp _ (List.mem_of_getElem? hkv)).2.2
  obtain ⟨hc0, hc1⟩ := hc k p ts hkv
  rw [htot] at hc1
  obtain ⟨M, hM⟩ : ∃ M, M = vs.length := ⟨_, rfl⟩
  rw [← hM] at hb hk
  have h1 := belowAlloc w (.cells #[.pointer none, .int .i64 0] 49)
  have k0 := upc h1 (two_c0 hb)
  have k1 := upc h1 (two_c1 hb)
  have k2 := upc h1 hc0
  have k3 := upc h1 hc1
  have g0 : (0 : Int) ≤ (k : Int) := by omega
  have g1 : (k : Int) < (M : Int) := by omega
  have g2 : decide (M ≤ k) = false := by simp; omega
  have g3 : decide ((k : Int) < 0) = false := by simp
  have H1 := Lib.hid h1
  have HR := Lib.hid (And.intro (hr.up h1) (And.intro hl hin))
  clear h1 hb hc hM hc0 hc1 hkv htot hr hl hin h
  go_enter Tryd.func28, Tryd.ntmps28
  go_wp2_with fail
  obtain ⟨W, hW⟩ : ∃ W, W = w.alloc (.cells #[.pointer none, .int .i64 0] 49) := ⟨_, rfl⟩
  go_loopw [25] (fun iv wr => ∃ j : Nat, iv = .int .i64 j ∧ j ≤ m ∧ wr = w.alloc (.cells #[.pointer none, .int .i64 0] 49)) (fun iv _ => m - (intOf iv).toNat)
  case atStart => exact ⟨0, rfl, Nat.zero_le _, rfl⟩
  case round =>
    obtain ⟨j, rfl, hj, rfl⟩ := hrel
    by_cases hlt : j < m
    · obtain ⟨b2, o2, rfl, kj⟩ : ∃ b o, a = some ⟨b, o, none⟩ ∧ (w.alloc (.cells #[.pointer none, .int .i64 0] 49)).cell? ⟨b, o + j, none⟩ = some (.int .i64 (l.getD j 0)) := by
        rcases HR.out.1 with h | ⟨b, o, ha, hc⟩
        · have h2 := HR.out.2.1; rw [h] at h2; simp at h2; omega
        · exact ⟨b, o, ha, hc j (by rw [HR.out.2.1]; exact hlt)⟩
      obtain ⟨y, hy⟩ : ∃ y, y = l.getD j 0 := ⟨_, rfl⟩
      have hyr := HR.out.2.2 j hlt
      rw [← hy] at kj hyr
      obtain ⟨y0, y1⟩ := hyr
      have j0 : (0 : Int) ≤ (j : Int) := by omega
      have j1 : (j : Int) < (m : Int) := by omega
      clear hy
      go_wp2_with fail
      go_roundw
      case rel => exact ⟨j + 1, by go_num, hlt, by first | rfl | trivial⟩
      case measure => simp [intOf]; omega
    · go_wp2_with fail
      exact bodyPost_ret (v := .tuple #[.agg #[.pointer p, .int .i64 (N : Nat)], .nilIface]) (by simp [results, Tryd.results28, go_sem]) rfl ⟨rfl, belowAlloc _ _⟩

set_option maxHeartbeats 4000000 in
theorem version_bad (B : Nat) (w : World) (b N : Nat) (vs : List Ver) (h : FS B w b N vs) (k : Nat) (hk : k < vs.length) (a : Option Addr) (c m j0 : Nat) (l : List Int) (hr : Reads w a l) (hl : l.length = m) (hm : m ≤ 1000) (hj0 : j0 < m)
    (hbad : l.getD j0 0 < 0 ∨ (N : Int) ≤ l.getD j0 0) (hin : ∀ i, i < j0 → 0 ≤ l.getD i 0 ∧ l.getD i 0 < (N : Int)) :
    Calls Tryd.prog 28 #[.pointer (some ⟨b, 0, none⟩), .int .i64 (k : Nat), .slice a m c] w (RetVer w (noVer 1)) := by
  obtain ⟨g, c', hb, _, _, _⟩ := h.at (by omega)
  obtain ⟨M, hM⟩ : ∃ M, M = vs.length := ⟨_, rfl⟩
  rw [← hM] at hb hk
  have h1 := belowAlloc w (.cells #[.pointer none, .int .i64 0] 49)
  have k0 := upc h1 (two_c0 hb)
  have k1 := upc h1 (two_c1 hb)
  have g0 : (0 : Int) ≤ (k : Int) := by omega
  have g1 : (k : Int) < (M : Int) := by omega
  have g2 : decide (M ≤ k) = false := by simp; omega
  have g3 : decide ((k : Int) < 0) = false := by simp
  have H1 := Lib.hid h1
  have HR := Lib.hid (And.intro (hr.up h1) (And.intro hl (And.intro hin hbad)))
  clear h1 hb hM hr hl hin hbad h
  go_enter Tryd.func28, Tryd.ntmps28
  go_wp2_with fail
  go_loopw [25] (fun iv wr => ∃ j : Nat, iv = .int .i64 j ∧ j ≤ j0 ∧ wr = w.alloc (.cells #[.pointer none, .int .i64 0] 49)) (fun iv _ => m - (intOf iv).toNat)
  case atStart => exact ⟨0, rfl, Nat.zero_le _, rfl⟩
  case round =>
    obtain ⟨j, rfl, hj, rfl⟩ := hrel
    obtain ⟨b2, o2, rfl, kj⟩ : ∃ b o, a = some ⟨b, o, none⟩ ∧ (w.alloc (.cells #[.pointer none, .int .i64 0] 49)).cell? ⟨b, o + j, none⟩ = some (.int .i64 (l.getD j 0)) := by
      rcases HR.out.1 with h | ⟨b, o, ha, hc⟩
      · have h2 := HR.out.2.1; rw [h] at h2; simp at h2; omega
      · exact ⟨b, o, ha, hc j (by rw [HR.out.2.1]; omega)⟩
    have j0' : (0 : Int) ≤ (j : Int) := by omega
    have j1 : (j : Int) < (m : Int) := by omega
    by_cases hlt : j < j0
    · obtain ⟨y, hy⟩ : ∃ y, y = l.getD j 0 := ⟨_, rfl⟩
      have hyr := HR.out.2.2.1 j hlt
      rw [← hy] at kj hyr
      obtain ⟨y0, y1⟩ := hyr
      clear hy
      go_wp2_with fail
      go_roundw
      case rel => exact ⟨j + 1, by go_num, hlt, by first | rfl | trivial⟩
      case measure => simp [intOf]; omega
    · obtain rfl : j = j0 := by omega
      obtain ⟨y, hy⟩ : ∃ y, y = l.getD j 0 := ⟨_, rfl⟩
      have hyr := HR.out.2.2.2
      rw [← hy] at kj hyr
      clear hy
      by_cases hy0 : y < 0
      · clear hyr
        go_wp2_with fail
        exact bodyPost_ret (v := noVer 1) (by simp [results, Tryd.results28, go_sem, noVer]) rfl ⟨rfl, H1.out⟩
      · have hy1 : (N : Int) ≤ y := by omega
        have hy2 : 0 ≤ y := by omega
        clear hyr
        go_wp2_with fail
        exact bodyPost_ret (v := noVer 1) (by simp [results, Tryd.results28, go_sem, noVer]) rfl ⟨rfl, H1.out⟩

def RetNat (w : World) (r : Nat) (e : Ending) (w' : World) : Prop := e = .returned (.int .i64 (r : Nat)) ∧ Below w.heap.size w w'

set_option maxHeartbeats 4000000 in
theorem top_any (B : Nat) (w : World) (p : Option Addr) (ts : List (BT Int)) (N a r : Nat) (h : Sp B w p ts) (hw : WF ts) (hN : total ts = N) (ha : a < N) (hn : N ≤ 5000) (hp : Par N (elems ts)) (ht : Top (elems ts) a r) :
    Calls Tryd.prog 29 #[.agg #[.pointer p, .int .i64 (N : Nat)], .int .i64 (a : Nat)] w (RetNat w r) := by
  have HS := Lib.hid (And.intro h (And.intro hw (And.intro hN hp)))
  have Ht := Lib.hid ht
  clear h hw hN hp ht
  have hb0 := belowAlloc w (.cells #[.pointer p, .int .i64 (N : Nat)] 49)
  have hbx := heap_alloc_new w (.cells #[.pointer p, .int .i64 (N : Nat)] 49)
  have Hb0 := Lib.hid hb0
  have Hbx := Lib.hid hbx
  clear hb0 hbx
  go_enter Tryd.func29, Tryd.ntmps29
  go_wp2_with fail
  go_loopw [1] (fun av wr => ∃ j : Nat, av = .int .i64 j ∧ j < N ∧ Hid (Top (elems ts) j r) ∧ Hid (Below w.heap.size w wr ∧ wr.heap[w.heap.size]? = some (.cells #[.pointer p, .int .i64 (N : Nat)] 49 (0, 0)))) (fun av _ => (intOf av).toNat)
  case atStart => exact ⟨a, rfl, ha, Ht, Lib.hid ⟨Hb0.out, Hbx.out⟩⟩
  case round =>
    obtain ⟨j, rfl, hj, HT, HB⟩ := hrel
    have c0 := two_c0 HB.out.2
    have c1 := two_c1 HB.out.2
    obtain ⟨y, hy⟩ : ∃ y, y = (elems ts).getD j 0 := ⟨_, rfl⟩
    obtain ⟨hy0, hy1⟩ := HS.out.2.2.2.2 j hj
    rw [← hy] at hy0 hy1
    obtain ⟨m, rfl⟩ : ∃ m : Nat, y = (m : Int) := ⟨y.toNat, by omega⟩
    have HA := Lib.hid (ral.At_in B wr p ts N j (m : Int) (Sp.up HB.out.1 HS.out.1) HS.out.2.1 HS.out.2.2.1 hj (by omega) hy.symm)
    have Hy := Lib.hid hy
    clear hy
    by_cases he : m = j
    · subst he
      have hr : m = r := by
        have h := HT.out
        cases h with
        | root _ => rfl
        | step h2 hne _ => rw [← Hy.out] at h2; exact absurd (by omega) hne
      have Hr := Lib.hid hr
      clear hr
      go_wp2_with fail
      refine HA.out.mono ?_
      rintro e w1 ⟨rfl, hb1⟩
      have Hb1 := Lib.hid hb1
      clear hb1
      go_wp2_with fail
      go_ret
      exact ⟨by rw [Hr.out]; rfl, HB.out.1.trans (Hb1.out.mono HB.out.1.size)⟩
    · have he' : ((m : Int) == (j : Int)) = false := by simp; omega
      have ht2 : Top (elems ts) m r := by
        have h := HT.out
        cases h with
        | root h2 => rw [← Hy.out] at h2; exact absurd (by omega) he
        | step h2 _ h3 => rw [← Hy.out] at h2; have e := Int.ofNat.inj h2; subst e; exact h3
      have HT2 := Lib.hid ht2
      have hmj : m < j := by omega
      have He := Lib.hid he
      clear ht2 he
      go_wp2_with fail
      refine HA.out.mono ?_
      rintro e w1 ⟨rfl, hb1⟩
      have HB1 := Lib.hid (And.intro (HB.out.1.trans (hb1.mono HB.out.1.size)) (upb hb1 HB.out.2))
      clear hb1 c0 c1
      go_wp2_with fail
      go_roundw
      case rel => exact ⟨m, rfl, by omega, HT2, HB1⟩
      case measure => simp [intOf]; omega
end Go.Proofs.YthlcjhkelcfnoaaDoor.find
