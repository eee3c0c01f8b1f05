/- A walk over all pairs under a node, with the closure Each$1, that is told what keys may come. -/
import Derived.Test.YtenaddjnaeebbaaHamtWalk
import Derived.Test.YtenaddjnaeebbaaHamtG
namespace Go.Proofs.Ytenaddjnaeebbaa.hamt
open Go.RowKit

structure VisK (g : Nat) (caps : Array Value) (S : Nat → Prop) (w0 : World) (M : Nat) (K : Int → Prop) (I : PL → World → Prop) : Prop where
  size : ∀ xs W, I xs W → w0.heap.size ≤ W.heap.size
  frame : ∀ xs W, I xs W → ∀ x, S x → x < w0.heap.size → W.heap[x]? = w0.heap[x]?
  up : ∀ xs W W', I xs W → Below W.heap.size W W' → I xs W'
  call : ∀ xs k v W, I xs W → K k → xs.length + 1 ≤ M → Calls Try.prog g (#[.agg #[.int .i64 k, .int .i64 v]] ++ caps) W (fun e W' => e = .returned (.tuple #[]) ∧ I (xs ++ [(k, v)]) W')
theorem VisK.cell {g : Nat} {caps : Array Value} {S : Nat → Prop} {w0 : World} {M : Nat} {K : Int → Prop} {I : PL → World → Prop} (h : VisK g caps S w0 M K I) {xs : PL} {W : World} (hi : I xs W) {a : Addr} {v : Value} (ha : S a.block) (hc : w0.cell? a = some v) : W.cell? a = some v := by
  have hl := World.block_lt_of_cell? w0 a hc
  have he := h.frame xs W hi a.block ha hl
  rw [← hc]
  exact World.cell?_of_block he
theorem VisK.blk {g : Nat} {caps : Array Value} {S : Nat → Prop} {w0 : World} {M : Nat} {K : Int → Prop} {I : PL → World → Prop} (h : VisK g caps S w0 M K I) {xs : PL} {W : World} (hi : I xs W) {b : Nat} {o : Obj} (ha : S b) (hc : w0.heap[b]? = some o) : W.heap[b]? = some o :=
  (h.frame xs W hi b ha (Array.getElem?_eq_some_iff.1 hc).1).trans hc
set_option maxRecDepth 100000 in
set_option maxHeartbeats 4000000 in
theorem kwalk_bot (O F : Nat) (S : Nat → Prop) (w0 : World) (M : Nat) (K : Int → Prop) (I : PL → World → Prop) (hv : VisK 36 #[.pointer (some ⟨O, 0, none⟩), .pointer (some ⟨F, 0, none⟩)] S w0 M K I) (b : Nat) (L : PL) (h : HN S w0 0 b L) (xs : PL) (w : World) (hI : I xs w) (hM : xs.length + L.length ≤ M) (hL : ∀ p ∈ L, K p.1) (hM2 : M ≤ 8796093022208) :
    Calls Try.prog 31 #[.pointer (some ⟨b, 0, none⟩), .func (.func 36) #[] #[.pointer (some ⟨O, 0, none⟩), .pointer (some ⟨F, 0, none⟩)]] w fun e w' => e = .returned (.tuple #[]) ∧ I (xs ++ L) w' := by
  obtain ⟨hSb, hne, hdis, pv, hb, ho, hgS⟩ := h
  obtain ⟨ap, cp, hpv, _, hrd, hgp⟩ := ho.form
  subst hpv
  obtain ⟨n, hln⟩ : ∃ n, L.length = n := ⟨_, rfl⟩
  rw [hln] at hb ho hM
  have hcells : ∀ j, j < n → ∃ g, ap = some ⟨g, 0, none⟩ ∧ S g ∧ w0.cell? ⟨g, j * 2, none⟩ = some (.int .i64 (L.getD j (0, 0)).1) ∧ w0.cell? ⟨g, j * 2 + 1, none⟩ = some (.int .i64 (L.getD j (0, 0)).2) := by
    intro j hj
    obtain ⟨q, qo, hq, z1, z2⟩ := hrd.at (k := j) (by rw [hln]; exact hj)
    obtain ⟨g, hg, _⟩ := hgp _ hq
    cases hg
    exact ⟨q, hq, hgS q (by rw [hq]; rfl), by simpa using z1, by simpa using z2⟩
  have k1 := node_c1 (hv.blk hI hSb hb)
  have HV := Lib.hid hv
  have HB := Lib.hid (And.intro hSb (And.intro hb (And.intro hcells hln)))
  have HI := Lib.hid hI
  have HL : Hid (∀ j, j < n → ∀ {x : Int}, x = (L.getD j (0, 0)).1 → K x) := Lib.hid (fun j hj x hx => by
    have e : L.getD j (0, 0) = L[j]'(by omega) := by simp [List.getD_eq_getElem?_getD, show j < L.length by omega]
    rw [hx, e]
    exact hL _ (List.getElem_mem _))
  clear hv hb ho hrd hgp hcells hln hI hne hdis hgS hL
  go_enter Try.func31, Try.ntmps31
  go_wp2_with fail
  go_loopw [15] (fun jv wr => jv = .int .i64 0 ∧ wr = w) (fun _ _ => 0)
  case atStart => exact ⟨rfl, rfl⟩
  case round =>
    obtain ⟨rfl, rfl⟩ := hrel
    have k2 := node_c2 (HV.out.blk HI.out HB.out.1 HB.out.2.1)
    go_wp2_with fail
    go_loopw [28] (fun jv wr => ∃ j : Nat, jv = .int .i64 j ∧ j ≤ n ∧ Hid (I (xs ++ L.take j) wr)) (fun jv _ => n - (intOf jv).toNat)
    case atStart => exact ⟨0, rfl, Nat.zero_le _, Lib.hid (by simpa using HI.out)⟩
    case round =>
      obtain ⟨j, rfl, hj, HS⟩ := hrel
      have j0 : (0 : Int) ≤ (j : Int) := by omega
      clear HI k1 k2
      by_cases hlt : j < n
      · have j1 : (j : Int) < (n : Int) := by omega
        obtain ⟨g, hag, hSg, z1, z2⟩ := HB.out.2.2.1 j hlt
        subst hag
        obtain ⟨x, hx⟩ : ∃ x, x = (L.getD j (0, 0)).1 := ⟨_, rfl⟩
        obtain ⟨y, hy⟩ : ∃ x, x = (L.getD j (0, 0)).2 := ⟨_, rfl⟩
        rw [← hx] at z1
        rw [← hy] at z2
        have k1 := HV.out.cell HS.out (a := ⟨g, j * 2, none⟩) hSg z1
        have k2 := HV.out.cell HS.out (a := ⟨g, j * 2 + 1, none⟩) hSg z2
        have hb3 := belowAlloc wr (.cells #[.int .i64 x, .int .i64 y] 31)
        have n0 := two_c0 (heap_alloc_new wr (.cells #[.int .i64 x, .int .i64 y] 31))
        have n1 := two_c1 (heap_alloc_new wr (.cells #[.int .i64 x, .int .i64 y] 31))
        have HC := Lib.hid (HV.out.call (xs ++ L.take j) x y _ (HV.out.up _ _ _ HS.out hb3) (HL.out j hlt hx) (by rw [List.length_append, List.length_take]; omega))
        have HX : Hid (xs ++ L.take (j + 1) = xs ++ L.take j ++ [(x, y)]) := Lib.hid (by
          have hjl : j < L.length := by rw [HB.out.2.2.2]; exact hlt
          have e : L.getD j (0, 0) = L[j] := by simp [List.getD_eq_getElem?_getD, hjl]
          rw [take_snoc L j hjl, hx, hy, e, List.append_assoc])
        clear z1 z2 hx hy hb3
        go_wp2_with fail
        refine HC.out.mono ?_
        rintro e w2 ⟨rfl, hI2⟩
        have HN : Hid (I (xs ++ L.take (j + 1)) w2) := Lib.hid (by rw [HX.out]; exact hI2)
        clear hI2 HC HS k1 k2 n0 n1
        go_wp2_with fail
        go_roundw
        case rel => exact ⟨j + 1, by go_num, hlt, HN⟩
        case measure => simp [intOf]; omega
      · obtain rfl : j = n := by omega
        have HF : Hid (I (xs ++ L) wr) := Lib.hid (by have h := HS.out; rwa [List.take_of_length_le (by rw [HB.out.2.2.2]; exact Nat.le_refl _)] at h)
        clear HS
        go_wp2_with fail
        go_end0
        exact ⟨rfl, HF.out⟩
set_option maxRecDepth 100000 in
set_option maxHeartbeats 4000000 in
theorem kwalk_node (O F : Nat) (S : Nat → Prop) (w0 : World) (M : Nat) (K : Int → Prop) (I : PL → World → Prop) (hv : VisK 36 #[.pointer (some ⟨O, 0, none⟩), .pointer (some ⟨F, 0, none⟩)] S w0 M K I) (d b : Nat) (L : PL) (h : HN S w0 (d + 1) b L) (xs : PL) (w : World) (hI : I xs w) (hM : xs.length + L.length ≤ M) (hL : ∀ p ∈ L, K p.1)
    (ih : ∀ b L xs w, HN S w0 d b L → I xs w → xs.length + L.length ≤ M → (∀ p ∈ L, K p.1) → Calls Try.prog 31 #[.pointer (some ⟨b, 0, none⟩), .func (.func 36) #[] #[.pointer (some ⟨O, 0, none⟩), .pointer (some ⟨F, 0, none⟩)]] w fun e w' => e = .returned (.tuple #[]) ∧ I (xs ++ L) w') :
    Calls Try.prog 31 #[.pointer (some ⟨b, 0, none⟩), .func (.func 36) #[] #[.pointer (some ⟨O, 0, none⟩), .pointer (some ⟨F, 0, none⟩)]] w fun e w' => e = .returned (.tuple #[]) ∧ I (xs ++ L) w' := by
  obtain ⟨hSb, hne, ks, m, kv, hLf, hks, hm, hb, ho, hgS, hkid⟩ := h
  obtain ⟨ak, ck, hkv⟩ := rowVal ho
  subst hkv
  obtain ⟨nk, hnk⟩ : ∃ n, ks.length = n := ⟨_, rfl⟩
  have hnk32 := hks.len
  rw [hnk] at hb ho hnk32
  have hcells : ∀ j e, ks[j]? = some e → ∃ g, ak = some ⟨g, 0, none⟩ ∧ S g ∧ w0.cell? ⟨g, j, none⟩ = some (.pointer (some ⟨e.2.1, 0, none⟩)) := by
    intro j e hj
    have hjl := (List.getElem?_eq_some_iff.1 hj).1
    obtain ⟨g, hak⟩ : ∃ g, ak = some ⟨g, 0, none⟩ := by
      rcases ho.2 with ⟨_, h0⟩ | ⟨g, cap, cur, hv, _⟩
      · omega
      · cases hv; exact ⟨g, rfl⟩
    subst hak
    have h := World.ownsRow.cells (h := ho) (g := g) rfl j (ptr e) (by rw [List.getElem?_map, hj]; rfl)
    rw [addr_add, Nat.zero_add] at h
    exact ⟨g, rfl, hgS g rfl, h⟩
  have k1 := node_c1 (hv.blk hI hSb hb)
  have HV := Lib.hid hv
  have HB := Lib.hid (And.intro hSb (And.intro hb (And.intro hcells (And.intro hnk (And.intro hkid hLf)))))
  have HI := Lib.hid hI
  have HM := Lib.hid hM
  have HL : Hid (∀ e ∈ ks, ∀ p ∈ e.2.2, K p.1) := Lib.hid (fun e he p hp => hL p (by rw [hLf]; exact mem_flat.2 ⟨e, he, hp⟩))
  clear hv hb ho hcells hnk hI hne hgS hkid hLf hks hm hM hL
  go_enter Try.func31, Try.ntmps31
  go_wp2_with fail
  go_loopw [15] (fun jv wr => ∃ j : Nat, jv = .int .i64 j ∧ j ≤ nk ∧ Hid (I (xs ++ flat (ks.take j)) wr)) (fun jv _ => nk - (intOf jv).toNat)
  case atStart => exact ⟨0, rfl, Nat.zero_le _, Lib.hid (by simpa [flat] using HI.out)⟩
  case round =>
    obtain ⟨j, rfl, hj, HS⟩ := hrel
    have j0 : (0 : Int) ≤ (j : Int) := by omega
    clear HI k1
    by_cases hlt : j < nk
    · have j1 : (j : Int) < (nk : Int) := by omega
      have hjl : j < ks.length := by rw [HB.out.2.2.2.1]; exact hlt
      obtain ⟨g, hag, hSg, z1⟩ := HB.out.2.2.1 j ks[j] (List.getElem?_eq_getElem hjl)
      subst hag
      obtain ⟨e0, he0⟩ : ∃ e, e = ks[j] := ⟨_, rfl⟩
      have hem : e0 ∈ ks := by rw [he0]; exact List.getElem_mem hjl
      rw [← he0] at z1
      have k1 := HV.out.cell HS.out (a := ⟨g, j, none⟩) hSg z1
      have HX : Hid (xs ++ flat (ks.take (j + 1)) = xs ++ flat (ks.take j) ++ e0.2.2) := Lib.hid (by rw [take_snoc ks j hjl, ← he0, flat_append, flat_one, List.append_assoc])
      have hlen : (xs ++ flat (ks.take j)).length + e0.2.2.length ≤ M := by
        have h1 : (xs ++ flat (ks.take (j + 1))).length ≤ M := by
          refine Nat.le_trans ?_ HM.out
          rw [HB.out.2.2.2.2.2, List.length_append]
          have h2 : (flat ks).length = (flat (ks.take (j + 1))).length + (flat (ks.drop (j + 1))).length := by rw [← List.length_append, ← flat_append, List.take_append_drop]
          omega
        rw [HX.out, List.length_append] at h1
        exact h1
      have HC := Lib.hid (ih e0.2.1 e0.2.2 (xs ++ flat (ks.take j)) wr (HB.out.2.2.2.2.1 e0 hem) HS.out hlen (HL.out e0 hem))
      clear z1 he0 hem hlen
      go_wp2_with fail
      refine HC.out.mono ?_
      rintro e w2 ⟨rfl, hI2⟩
      have HN : Hid (I (xs ++ flat (ks.take (j + 1))) w2) := Lib.hid (by rw [HX.out]; exact hI2)
      clear hI2 HC HS k1
      go_wp2_with fail
      go_roundw
      case rel => exact ⟨j + 1, by go_num, hlt, HN⟩
      case measure => simp [intOf]; omega
    · obtain rfl : j = nk := by omega
      have k2 := node_c2 (HV.out.blk HS.out HB.out.1 HB.out.2.1)
      have HF : Hid (I (xs ++ L) wr) := Lib.hid (by have h := HS.out; rw [List.take_of_length_le (by rw [HB.out.2.2.2.1]; exact Nat.le_refl _)] at h; rw [HB.out.2.2.2.2.2]; exact h)
      clear HS
      go_wp2_with fail
      go_loopw [28] (fun jv wr' => jv = .int .i64 0 ∧ wr' = wr) (fun _ _ => 0)
      case atStart => exact ⟨rfl, rfl⟩
      case round =>
        obtain ⟨rfl, rfl⟩ := hrel
        go_wp2_with fail
        go_end0
        exact ⟨rfl, HF.out⟩
theorem kwalk_any (O F : Nat) (S : Nat → Prop) (w0 : World) (M : Nat) (K : Int → Prop) (I : PL → World → Prop) (hv : VisK 36 #[.pointer (some ⟨O, 0, none⟩), .pointer (some ⟨F, 0, none⟩)] S w0 M K I) (hM2 : M ≤ 8796093022208) : ∀ (d b : Nat) (L : PL) (xs : PL) (w : World), HN S w0 d b L → I xs w → xs.length + L.length ≤ M → (∀ p ∈ L, K p.1) →
    Calls Try.prog 31 #[.pointer (some ⟨b, 0, none⟩), .func (.func 36) #[] #[.pointer (some ⟨O, 0, none⟩), .pointer (some ⟨F, 0, none⟩)]] w fun e w' => e = .returned (.tuple #[]) ∧ I (xs ++ L) w'
  | 0, b, L, xs, w, h, hI, hM, hL => kwalk_bot O F S w0 M K I hv b L h xs w hI hM hL hM2
  | d + 1, b, L, xs, w, h, hI, hM, hL => kwalk_node O F S w0 M K I hv d b L h xs w hI hM hL fun b L xs w h hI hM hL => kwalk_any O F S w0 M K I hv hM2 d b L xs w h hI hM hL
end Go.Proofs.Ytenaddjnaeebbaa.hamt
