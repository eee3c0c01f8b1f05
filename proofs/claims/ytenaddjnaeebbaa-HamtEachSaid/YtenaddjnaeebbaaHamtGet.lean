/- Maps by what keys are mixed to: Get. -/
import Derived.Test.YtenaddjnaeebbaaHamtMap
namespace Go.Proofs.Ytenaddjnaeebbaa.hamt
open Go.RowKit
open pat (PT OOk ocnt olist oput odrop oget tk I64 tk_lt tk_inj lk told)

def RetV (w : World) (r : Option Int) (e : Ending) (w' : World) : Prop := e = .returned (.tuple #[.int .i64 (r.getD 0), .bool r.isSome]) ∧ Below w.heap.size w w'
theorem RetV.none {w w' : World} (h : Below w.heap.size w w') : RetV w none (.returned (.tuple #[.int .i64 0, .bool false])) w' := ⟨rfl, h⟩
theorem idx_some {L : PL} {k : Int} {i : Nat} (hd : Dis L) (h : Idx L k (some i)) : lkI L k = some (L.getD i (0, 0)).2 := by
  obtain ⟨hi, hk, _⟩ := h
  refine hd.lk ?_
  have e : L.getD i (0, 0) = L[i] := by simp [List.getD_eq_getElem?_getD, hi]
  rw [e] at hk ⊢
  have : (k, L[i].2) = L[i] := by rw [← hk]
  rw [this]
  exact List.getElem_mem hi
set_option maxHeartbeats 1000000 in
theorem get_nil (k : Int) (w : World) : Calls Try.prog 19 #[.agg #[.pointer none], .int .i64 k] w (RetV w none) := by
  have kz := cell_of_one (heap_alloc_new w (.cells #[.pointer none] 25))
  have HB := Lib.hid (belowAlloc w (.cells #[.pointer none] 25))
  go_enter Try.func19, Try.ntmps19
  go_wp2_with fail
  go_loopw [6, 7] (fun tv uv wr => tv = .pointer none ∧ uv = .int .i64 0 ∧ wr = w.alloc (.cells #[.pointer none] 25)) (fun _ _ _ => 0)
  case atStart => exact ⟨rfl, rfl, rfl⟩
  case round =>
    obtain ⟨rfl, rfl, rfl⟩ := hrel
    go_wp2_with fail
    go_ret2
    exact RetV.none HB.out
set_option maxRecDepth 100000 in
set_option maxHeartbeats 4000000 in
theorem get_node (S : Nat → Prop) (b0 : Nat) (L : PL) (k : Int) (w : World) (h : HN S w 7 b0 L) (hn : L.length ≤ 8796093022000) (r : Option Int) (hr : lkI L k = r) :
    Calls Try.prog 19 #[.agg #[.pointer (some ⟨b0, 0, none⟩)], .int .i64 k] w (RetV w r) := by
  have kz := cell_of_one (heap_alloc_new w (.cells #[.pointer (some ⟨b0, 0, none⟩)] 25))
  have HI : Hid (HN S w 7 b0 L ∧ L.length ≤ 8796093022000 ∧ lkI L k = r ∧ Below w.heap.size w (w.alloc (.cells #[.pointer (some ⟨b0, 0, none⟩)] 25))) := Lib.hid ⟨h, hn, hr, belowAlloc w _⟩
  clear h hn hr
  go_enter Try.func19, Try.ntmps19
  go_wp2_with fail
  go_loopw [6, 7] (fun tv uv wr => ∃ (d u b : Nat) (M : PL), tv = .pointer (some ⟨b, 0, none⟩) ∧ uv = .int .i64 (u : Nat) ∧ u + 5 * d = 35 ∧ Hid (HN S w d b M ∧ M.length ≤ 8796093022000 ∧ lkI M k = r ∧ Below w.heap.size w wr)) (fun _ uv _ => 36 - (intOf uv).toNat)
  case atStart => exact ⟨7, 0, b0, L, rfl, rfl, by omega, HI⟩
  case round =>
    obtain ⟨d, u, b, M, rfl, rfl, hu, HS⟩ := hrel
    have hu0 : (0 : Int) ≤ (u : Int) := by omega
    clear HI
    cases d with
    | zero =>
      obtain rfl : u = 35 := by omega
      obtain ⟨⟨_, hne, hdis, pv, hb, ho, _⟩, hml, hlk, hbel⟩ := HS.out
      obtain ⟨ap, cp, hpv, _, hrd, _⟩ := ho.form
      subst hpv
      obtain ⟨n, hln⟩ : ∃ n, M.length = n := ⟨_, rfl⟩
      rw [hln] at hb ho hml
      obtain ⟨q, hq⟩ := idx_exists M k
      have HF := Lib.hid (find_walk b 0 (.slice none 0 0) ap cp n M k wr (upb hbel hb) hln (by omega) (hrd.up hbel) q hq)
      have HB := Lib.hid (And.intro hb (And.intro ho (And.intro hln (And.intro hq hdis))))
      have HW := Lib.hid (And.intro hlk hbel)
      clear hne hdis hb ho hrd hml hlk hbel hq hln HS
      go_wp2_with fail
      refine HF.out.mono ?_
      rintro e w2 ⟨rfl, hb2⟩
      have HB2 := Lib.hid (HW.out.2.trans (hb2.mono HW.out.2.size))
      clear hb2 HF
      cases q with
      | none =>
        rw [show idxV none = -1 from rfl]
        have HR : Hid (r = none) := Lib.hid (by rw [← HW.out.1]; exact idx_lk HB.out.2.2.2.1)
        go_wp2_with fail
        go_ret2
        rw [HR.out]
        exact RetV.none HB2.out
      | some i =>
        rw [show idxV (some i) = (i : Int) from rfl]
        have hi : i < n := by have h := HB.out.2.2.2.1.1; rw [HB.out.2.2.1] at h; exact h
        obtain ⟨g, o, hag, z1, z2⟩ := (HB.out.2.1.reads).at (k := i) (by rw [HB.out.2.2.1]; exact hi)
        subst hag
        obtain ⟨x, hx⟩ : ∃ x, x = (M.getD i (0, 0)).2 := ⟨_, rfl⟩
        rw [← hx] at z2
        have HR : Hid (r = some x) := Lib.hid (by rw [← HW.out.1, hx]; exact idx_some HB.out.2.2.2.2 HB.out.2.2.2.1)
        have k2 := node_c2 (upb HB2.out HB.out.1)
        have k3 := upc HB2.out z2
        have i0 : (0 : Int) ≤ (i : Int) := by omega
        have i1 : (i : Int) < (n : Int) := by omega
        clear z1 z2 hx
        go_wp2_with fail
        go_ret2
        rw [HR.out]
        exact ⟨rfl, HB2.out⟩
    | succ d =>
      have hu5 : 35 - 5 * (d + 1) = u := by omega
      have hu1 : (u : Int) < 35 := by omega
      obtain ⟨⟨_, hne, ks, m, kv, hMf, hks, hm, hb, ho, _, hkid⟩, hml, hlk, hbel⟩ := HS.out
      rw [hu5] at hks
      obtain ⟨ak, ck, hkv⟩ := rowVal ho
      subst hkv
      obtain ⟨nk, hnk⟩ : ∃ n, ks.length = n := ⟨_, rfl⟩
      rw [hnk] at hb ho
      obtain ⟨y, hy⟩ : ∃ y, y = wy u k := ⟨_, rfl⟩
      have hyl : y < 32 := by rw [hy]; exact wy_lt u k
      obtain ⟨pre, mid, post, hs⟩ := split_exists y hks.asc
      obtain ⟨z, hz⟩ : ∃ z, z = 2 ^ y := ⟨_, rfl⟩
      have HWay := Lib.hid (fun W => way_walk k u (by omega) W)
      have HSp := Lib.hid (spot_walk b m y (.slice ak nk ck) (.slice none 0 0) M.length wr (upb hbel hb) hyl hm.lt)
      rw [hs.count hks hm, hs.has hm] at HSp
      rw [← hz] at HSp
      rw [← hy, ← hz] at HWay
      obtain ⟨i, hi⟩ : ∃ i, pre.length = i := ⟨_, rfl⟩
      rw [hi] at HSp
      have hw5 : IntKind.i64.wrap ((u : Int) + 5) = (u : Int) + 5 := IntWalk.i64_in _ (by omega)
      have hlm : lkI (flat ks) k = lkI (flat mid) k := hs.lk hks hy.symm
      have HK := Lib.hid (And.intro hs (And.intro hMf (And.intro hnk (And.intro hi (And.intro hlm hml)))))
      have HB := Lib.hid (And.intro hb (And.intro ho hkid))
      have HW := Lib.hid (And.intro hlk hbel)
      clear hne hMf hks hm hb ho hkid hml hlk hbel hs hnk hy hyl hz hi hu5 hlm HS
      go_wp2_with fail
      refine (HWay.out _).mono ?_
      rintro e w' ⟨rfl, rfl⟩
      go_wp2_with fail
      refine HSp.out.mono ?_
      rintro e w2 ⟨rfl, hb2⟩
      have HB2 := Lib.hid (HW.out.2.trans (hb2.mono HW.out.2.size))
      clear hb2 HSp HWay
      have hsp := HK.out.1.eq
      cases hmid : mid with
      | nil =>
        have HR : Hid (r = none) := Lib.hid (by rw [← HW.out.1, HK.out.2.1, HK.out.2.2.2.2.1, hmid]; rfl)
        rw [show (!([] : List Kid).isEmpty) = false from rfl]
        clear hmid hsp
        go_wp2_with fail
        go_ret2
        rw [HR.out]
        exact RetV.none HB2.out
      | cons e0 rest =>
        obtain rfl : rest = [] := by have h := HK.out.1.one; rw [hmid] at h; simp at h; exact h
        rw [show (!([e0] : List Kid).isEmpty) = true from rfl]
        have he0 : e0 ∈ ks := by rw [hsp, hmid]; simp
        have hil : i < nk := by
          have h := congrArg List.length hsp
          rw [HK.out.2.2.1, hmid] at h
          simp only [List.length_append, List.length_singleton] at h
          have := HK.out.2.2.2.1
          omega
        obtain ⟨gk, hak⟩ : ∃ g, ak = some ⟨g, 0, none⟩ := by
          rcases HB.out.2.1.2 with ⟨_, h0⟩ | ⟨g, cap, cur, hv, _⟩
          · omega
          · cases hv; exact ⟨g, rfl⟩
        subst hak
        have hel : w.cell? ⟨gk, i, none⟩ = some (.pointer (some ⟨e0.2.1, 0, none⟩)) := by
          have h := World.ownsRow.cells (h := HB.out.2.1) (g := gk) rfl i (ptr e0) (by rw [hsp, hmid, ← HK.out.2.2.2.1]; exact map_get pre post e0)
          rwa [addr_add, Nat.zero_add] at h
        have k1 := node_c1 (upb HB2.out HB.out.1)
        have k2 := upc HB2.out hel
        have i0 : (0 : Int) ≤ (i : Int) := by omega
        have i1 : (i : Int) < (nk : Int) := by omega
        have HN : Hid (HN S w d e0.2.1 e0.2.2 ∧ e0.2.2.length ≤ 8796093022000 ∧ lkI e0.2.2 k = r ∧ Below w.heap.size w w2) := by
          refine Lib.hid ⟨HB.out.2.2 e0 he0, ?_, ?_, HB2.out⟩
          · have h := HK.out.2.2.2.2.2
            rw [HK.out.2.1, hsp, hmid, flat_len, flat_one] at h
            omega
          · rw [← HW.out.1, HK.out.2.1, HK.out.2.2.2.2.1, hmid, flat_one]
        clear hel he0 hmid hsp
        go_wp2_with fail
        go_roundw
        case rel => exact ⟨d, u + 5, e0.2.1, e0.2.2, rfl, by go_num, by omega, HN⟩
        case measure => simp [intOf]; omega
theorem Get_any (B : Nat) (w : World) (p : Option Addr) (o : Option PT) (k : Int) (h : HO B w p o) (ho : OOk o) (hk : I64 k) (r : Option Int) (hr : oget o (tk k) = r) :
    Calls Try.prog 19 #[.agg #[.pointer p], .int .i64 k] w (RetV w r) := by
  obtain ⟨L, hq, hs, _, hll⟩ := h
  have hlk : lkI L k = r := by rw [hs.lk k hk, ← pat.oget_eq ho, hr]
  rcases hq with ⟨rfl, rfl⟩ | ⟨b, rfl, hn⟩
  · obtain rfl : r = none := by rw [← hlk]; rfl
    exact get_nil k w
  · exact get_node _ b L k w hn hll r hlk
end Go.Proofs.Ytenaddjnaeebbaa.hamt
