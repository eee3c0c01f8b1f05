/- A key is put into a node that has kids. -/
import Derived.Test.YtenaddjnaeebbaaHamtQ
namespace Go.Proofs.Ytenaddjnaeebbaa.hamt
open Go.RowKit

def kKid (S : Nat → Prop) (D d : Nat) (L : PL) (k v : Int) : grow.Kept := ⟨fun x W => ∃ b L', x = .pointer (some ⟨b, 0, none⟩) ∧ HN (fun z => S z ∨ D ≤ z) W d b L' ∧ PutOf L k v L', fun _ _ _ hb ⟨b, L', e, h, hp⟩ => ⟨b, L', e, h.up hb, hp⟩⟩
set_option maxRecDepth 100000 in
set_option maxHeartbeats 8000000 in
theorem put_node (S : Nat → Prop) (d u b : Nat) (L : PL) (k v : Int) (w : World) (hu : u + 5 * (d + 1) = 35) (h : HN S w (d + 1) b L) (hn : L.length ≤ 8796093022000)
    (ihn : ∀ W, Calls Try.prog 29 #[.pointer none, .int .i64 k, .int .i64 v, .int .i64 ((u : Int) + 5)] W (RetNew d k v W))
    (ihs : ∀ (T : Nat → Prop) b L W, HN T W d b L → L.length ≤ 8796093022000 → Calls Try.prog 29 #[.pointer (some ⟨b, 0, none⟩), .int .i64 k, .int .i64 v, .int .i64 ((u : Int) + 5)] W (RetPut T d L k v W)) :
    Calls Try.prog 29 #[.pointer (some ⟨b, 0, none⟩), .int .i64 k, .int .i64 v, .int .i64 (u : Nat)] w (RetPut S (d + 1) L k v w) := by
  obtain ⟨hBb, hne, ks, m, kv, hLf, hks, hm, hb, ho, hgS, hkid⟩ := h
  have hu5 : 35 - 5 * (d + 1) = u := by omega
  rw [hu5] at hks
  obtain ⟨ak, ck, hkv⟩ := rowVal ho
  subst hkv
  obtain ⟨n, hln⟩ : ∃ n, L.length = n := ⟨_, rfl⟩
  obtain ⟨nk, hnk⟩ : ∃ n, ks.length = n := ⟨_, rfl⟩
  have hnk32 := hks.len
  rw [hln] at hb hn
  rw [hnk] at hb ho hnk32
  obtain ⟨y, hy⟩ : ∃ y, y = wy u k := ⟨_, rfl⟩
  have hyl : y < 32 := by rw [hy]; exact wy_lt u k
  obtain ⟨pre, mid, post, hs⟩ := split_exists y hks.asc
  obtain ⟨z, hz⟩ : ∃ z, z = 2 ^ y := ⟨_, rfl⟩
  have hzl := pow_lt y hyl
  rw [← hz] at hzl
  have hb' : w.heap[b]? = some (.cells #[.int .u32 (m : Nat), .slice ak nk ck, .slice none 0 0, .int .i64 (n : Nat)] 62 (0, 0)) := hb
  have hO0 := Out.new w #[.int .u32 (m : Nat), .slice ak nk ck, .slice none 0 0, .int .i64 (n : Nat)]
  have hb0 := belowAlloc w (.cells #[.int .u32 (m : Nat), .slice ak nk ck, .slice none 0 0, .int .i64 (n : Nat)] 62)
  have HWay := Lib.hid (fun W => way_walk k u (by omega) W)
  have HSp := Lib.hid (spot_walk b m y (.slice ak nk ck) (.slice none 0 0) n _ (upb hb0 hb) hyl hm.lt)
  rw [hs.count hks hm, hs.has hm] at HSp
  rw [← hz] at HSp
  rw [← hy, ← hz] at HWay
  obtain ⟨i, hi⟩ : ∃ i, pre.length = i := ⟨_, rfl⟩
  rw [hi] at HSp
  have hu0 : (0 : Int) ≤ (u : Int) := by omega
  have hu1 : (u : Int) < 35 := by omega
  have hw5 : IntKind.i64.wrap ((u : Int) + 5) = (u : Int) + 5 := IntWalk.i64_in _ (by omega)
  have k0 := node_c0 hb'
  have k1 := node_c1 hb'
  have k2 := node_c2 hb'
  have k3 := node_c3 hb'
  have HO := Lib.hid hO0
  have HB := Lib.hid (And.intro hb' (And.intro ho (And.intro hgS hkid)))
  have HK := Lib.hid (And.intro hks (And.intro hm (And.intro hs (And.intro hLf (And.intro hnk hln)))))
  have HI := Lib.hid (And.intro hi (And.intro hy (And.intro hyl (And.intro hz hu5))))
  clear hb hb' ho hO0 hb0 hks hm hs hLf hgS hkid hne hnk hln hi hy hyl hz hu5
  go_enter Try.func29, Try.ntmps29
  go_wp2_with fail
  refine (HWay.out _).mono ?_
  rintro e w' ⟨rfl, rfl⟩
  go_wp2_with fail
  refine HSp.out.mono ?_
  rintro e w1 ⟨rfl, hb1⟩
  have hO1 := Lib.hid (HO.out.up hb1)
  clear hb1 HO HSp HWay k0 k1 k2 k3
  have k1 := node_c1 (upb hO1.out.bel HB.out.1)
  have hsp := HK.out.2.2.1.eq
  cases hmid : mid with
  | nil =>
    have HM := Lib.hid hmid
    clear hmid
    have HC := Lib.hid (CloneK 0 nk (.slice ak nk ck) (ks.map ptr) w1 (rowUp HB.out.2.1 hO1.out.bel) (ptr_one ks) (by omega))
    rw [show (!([] : List Kid).isEmpty) = false from rfl]
    go_wp2_with fail
    refine HC.out.mono ?_
    rintro e w2 ⟨a2, c2, rfl, ho2, hb2⟩
    have hO2 := Lib.hid (hO1.out.up hb2)
    have HR2 := Lib.hid (And.intro ho2 hb2.size)
    clear ho2 hb2 HC k1
    go_wp2_with fail
    refine (ihn w2).mono ?_
    rintro e w3 ⟨b3, rfl, h3, hb3⟩
    have HN3 := Lib.hid h3
    have hO3 := Lib.hid (hO2.out.up hb3)
    have HR3 := Lib.hid (rowUp HR2.out.1 hb3)
    have HS3 := Lib.hid (And.intro hb3.size HR2.out.2)
    have HL3 := Lib.hid (World.ownsRow.lt HR2.out.1)
    clear h3 hb3 hO2 HR2
    have hb4 := belowAlloc w3 (.cells #[.pointer (some ⟨b3, 0, none⟩)] 23)
    have HIns := Lib.hid (Insert_any w1.heap.size nk i w3.heap.size (.slice a2 nk c2) (.pointer (some ⟨b3, 0, none⟩)) (ks.map ptr) _ (rowUp HR3.out hb4) (Nat.le_trans (Nat.le_trans HS3.out.2 HS3.out.1) hb4.size) (by have h := congrArg List.length HK.out.2.2.1.eq; rw [HK.out.2.2.2.2.1] at h; simp only [List.length_append] at h; have := HI.out.1; omega) (heap_alloc_new w3 _) (fun e => by have := (HL3.out _ e).2; have := HS3.out.1; omega) rfl (ptr_one ks) (by omega))
    clear hb4
    go_wp2_with fail
    refine HIns.out.mono ?_
    rintro e w5 ⟨a5, c5, rfl, ho5, hg5⟩
    have hO4 := hO3.out.up (belowAlloc w3 (.cells #[.pointer (some ⟨b3, 0, none⟩)] 23))
    have hR4 := ownsRow_lower (rowUp HR3.out (belowAlloc w3 (.cells #[.pointer (some ⟨b3, 0, none⟩)] 23))) hO1.out.bel.size
    have hO5 := hO4.grown hR4 (by decide) hg5
    have h35 : ∀ x, w2.heap.size ≤ x → x < w3.heap.size → w5.heap[x]? = w3.heap[x]? := fun x hx hl => by
      refine (hg5.block x (by simp; omega) (fun e => ?_)).trans ((belowAlloc w3 (.cells #[.pointer (some ⟨b3, 0, none⟩)] 23)).block x hl)
      have := (HL3.out x e.symm).2
      omega
    have hwG : w.heap.size < w2.heap.size := Nat.lt_of_lt_of_le hO1.out.lt HS3.out.2
    have hor := u32_or_nat m z HK.out.2.1.lt (by omega)
    obtain ⟨m', hm'⟩ : ∃ q, q = m ||| z := ⟨_, rfl⟩
    rw [← hm'] at hor
    have hw1 : IntKind.i64.wrap ((n : Int) + 1) = ((n + 1 : Nat) : Int) := by rw [IntKind.wrap_i64]; omega
    obtain ⟨W, hW⟩ : ∃ W, W = ((w5.setCell ⟨w.heap.size, 1, none⟩ (.slice a5 (nk + 1) c5)).setCell ⟨w.heap.size, 0, none⟩ (.int .u32 (m' : Nat))).setCell ⟨w.heap.size, 3, none⟩ (.int .i64 ((n + 1 : Nat) : Int)) := ⟨_, rfl⟩
    have HF : Hid (RetPut S (d + 1) L k v w (.returned (.pointer (some ⟨w.heap.size, 0, none⟩))) W) := by
      have hO6 := hO5.set 1 (.slice a5 (nk + 1) c5)
      have hO7 := hO6.set 0 (.int .u32 (m' : Nat))
      have hO8 := hO7.set 3 (.int .i64 ((n + 1 : Nat) : Int))
      have hR8 := rowKeep (rowKeep (rowKeep (ownsRow_lower ho5 hO1.out.bel.size) (hO5.keep 1 (.slice a5 (nk + 1) c5)) (by decide)) (hO6.keep 0 (.int .u32 (m' : Nat))) (by decide)) (hO7.keep 3 (.int .i64 ((n + 1 : Nat) : Int))) (by decide)
      rw [← hW] at hO8 hR8
      have h3W : ∀ x, w2.heap.size ≤ x → x < w3.heap.size → W.heap[x]? = w3.heap[x]? := fun x hx hl => by
        have hxG : x ≠ w.heap.size := by omega
        rw [hW, Below.heap_setCell _ _ _ _ hxG, Below.heap_setCell _ _ _ _ hxG, Below.heap_setCell _ _ _ _ hxG]
        exact h35 x hx hl
      have hkn := HN3.out.there.frame (fun x hx hl => h3W x hx.1 hl)
      obtain ⟨hks, hm, hs, hLf, hnk, hln⟩ := HK.out
      obtain ⟨hi, hy, hyl, hz, hu5⟩ := HI.out
      have hmd := HM.out
      subst hmd
      have hat : At (wy u) y [(y, b3, [(k, v)])] := At.single (fun p hp => by obtain rfl := List.mem_singleton.1 hp; exact hy.symm) (by simp) (dis_one _)
      have hm2 := hm.set hyl hs b3 [(k, v)]
      rw [← hz, ← hm'] at hm2
      have hlen : (pre ++ [(y, b3, [(k, v)])] ++ post).length = nk + 1 := by rw [← hnk, hs.eq]; simp only [List.length_append, List.length_singleton, List.length_nil]; omega
      have hfl : (flat (pre ++ [(y, b3, [(k, v)])] ++ post)).length = n + 1 := by
        rw [← hln, hLf, hs.eq, flat_len, flat_len, flat_one]
        simp [flat]
        omega
      have hrow : (ks.map ptr).take i ++ .pointer (some ⟨b3, 0, none⟩) :: (ks.map ptr).drop i = (pre ++ [(y, b3, [(k, v)])] ++ post).map ptr := by
        rw [hs.eq, ← hi]; exact map_ins pre post (y, b3, [(k, v)])
      rw [hrow] at hR8
      rw [← hlen] at hR8 hO8
      refine Lib.hid ⟨_, _, rfl, node_new (S := S) (n' := n + 1) hu5 hks hs hyl hat hm2 (by simp) hfl hO8 hR8 (fun x hx => hx) HB.out.2.2.2 (fun e he => ?_), ⟨?_, ?_⟩, hO8.bel⟩
      · obtain rfl := List.mem_singleton.1 he
        exact hkn.mono fun x hx => .inr (by have := hx.1; omega)
      · rw [hLf]
        refine hs.put_lk hks hyl hat hy.symm fun j _ => ?_
        rw [flat_one]
        exact lk_one k v j
      · rw [hfl, hln]; exact Nat.le_refl _
    have g1 := node_c1 hO5.blk
    have g0 := node_c0 hO5.blk
    have g3 := node_c3 hO5.blk
    have f1 := node_f (o := 1) hO5.blk
    have f0 := node_f (o := 0) hO5.blk
    have f3 := node_f (o := 3) hO5.blk
    clear hO4 hR4 hO5 ho5 hg5 h35 hsp HN3 hO3 HR3 HIns hm'
    go_wp2_with fail
    go_ret
    have hF := HF.out
    rw [hW] at hF
    exact hF
  | cons e0 rest =>
    obtain rfl : rest = [] := by have h := HK.out.2.2.1.one; rw [hmid] at h; simp at h; exact h
    have HM := Lib.hid hmid
    have hil : i < nk := by
      have h := congrArg List.length hsp
      rw [HK.out.2.2.2.2.1, hmid] at h
      simp only [List.length_append, List.length_singleton] at h
      have := HI.out.1
      omega
    clear hmid
    have he0 : e0 ∈ ks := by rw [hsp, HM.out]; simp
    have HE := Lib.hid he0
    have hkb := HB.out.2.2.2 e0 he0
    obtain ⟨m0, kv0, pv0, hc0⟩ := hkb.cells
    obtain ⟨n0, hn0⟩ : ∃ n, e0.2.2.length = n := ⟨_, rfl⟩
    rw [hn0] at hc0
    have hn0n : n0 ≤ n := by
      rw [← hn0, ← HK.out.2.2.2.2.2, HK.out.2.2.2.1, hsp, HM.out, flat_len, flat_one]
      omega
    obtain ⟨gk, hak⟩ : ∃ g, ak = some ⟨g, 0, none⟩ := by
      rcases HB.out.2.1.2 with ⟨_, h0⟩ | ⟨g, cap, cur, hv, _⟩
      · omega
      · cases hv; exact ⟨g, rfl⟩
    subst hak
    have hel : w.cell? ⟨gk, i, none⟩ = some (.pointer (some ⟨e0.2.1, 0, none⟩)) := by
      have h := World.ownsRow.cells (h := HB.out.2.1) (g := gk) rfl i (ptr e0) (by rw [hsp, HM.out, ← HI.out.1]; exact map_get pre post e0)
      rwa [addr_add, Nat.zero_add] at h
    have HEL := Lib.hid (And.intro hel (And.intro hc0 (And.intro hn0 hn0n)))
    have HC := Lib.hid (CloneK 0 nk (.slice (some ⟨gk, 0, none⟩) nk ck) (ks.map ptr) w1 (rowUp HB.out.2.1 hO1.out.bel) (ptr_one ks) (by omega))
    rw [show (!([e0] : List Kid).isEmpty) = true from rfl]
    clear he0 hkb hc0 hn0 hn0n hel hsp
    go_wp2_with fail
    refine HC.out.mono ?_
    rintro e w2 ⟨a2, c2, rfl, ho2, hb2⟩
    have hO2 := hO1.out.up hb2
    have hR2 := ownsRow_lower ho2 hO1.out.bel.size
    have g1 := node_c1 hO2.blk
    have f1 := node_f (o := 1) hO2.blk
    have hO3 := hO2.set 1 (.slice a2 nk c2)
    have hR3 := rowKeep hR2 (hO2.keep 1 (.slice a2 nk c2)) (by decide)
    obtain ⟨R, hR⟩ : ∃ g, a2 = some ⟨g, 0, none⟩ := by
      rcases ho2.2 with ⟨_, h0⟩ | ⟨g, cap, cur, hv, _⟩
      · omega
      · cases hv; exact ⟨g, rfl⟩
    subst hR
    obtain ⟨w3, hw3⟩ : ∃ W, W = w2.setCell ⟨w.heap.size, 1, none⟩ (.slice (some ⟨R, 0, none⟩) nk c2) := ⟨_, rfl⟩
    rw [← hw3] at hO3 hR3
    have HW3 := Lib.hid hw3
    have HO3 := Lib.hid (And.intro hO3 hR3)
    have hRb := World.ownsRow.lt hR3 R rfl
    clear ho2 hb2 hO2 hR2 hO3 hR3 hw3 HC k1
    go_wp2_with fail
    rw [← HW3.out]
    clear g1 f1 hO1 HW3
    have G1 := Lib.hid (node_c1 HO3.out.1.blk)
    have G2 := Lib.hid (node_c1 (upb HO3.out.1.bel HB.out.1))
    have G3 := Lib.hid (upc HO3.out.1.bel HEL.out.1)
    have i0 : (0 : Int) ≤ (i : Int) := by omega
    have i1 : (i : Int) < (nk : Int) := by omega
    have HIH := Lib.hid (fun W (hW : Below w3.heap.size w3 W) => ihs (fun x => S x ∧ x < w.heap.size) e0.2.1 e0.2.2 W (((HB.out.2.2.2 e0 HE.out).there.up HO3.out.1.bel).up hW) (by rw [HEL.out.2.2.1]; have := HEL.out.2.2.2; omega))
    refine grow.wp_grow_last 16 _ [grow.kEq (.pointer (some ⟨w.heap.size, 1, none⟩)), grow.kEq (.slice (some ⟨R, 0, none⟩) nk c2), grow.kEq (.int .i64 (i : Nat)), grow.kEq (.pointer (some ⟨b, 0, none⟩)), grow.kEq (.pointer (some ⟨b, 0, none⟩)), grow.kEq (.pointer (some ⟨b, 1, none⟩)), grow.kEq (.slice (some ⟨gk, 0, none⟩) nk ck), grow.kEq (.int .i64 (i : Nat)), grow.kEq (.pointer (some ⟨gk, i, none⟩)), grow.kEq (.pointer (some ⟨e0.2.1, 0, none⟩)), grow.kEq (.int .i64 k), grow.kEq (.int .i64 v), grow.kEq (.int .i64 (u : Nat)), grow.kEq (.int .i64 ((u : Int) + 5)), kKid (fun x => S x ∧ x < w.heap.size) w3.heap.size d e0.2.2 k v, grow.kEq (.pointer (some ⟨R, i, none⟩))] rfl rfl rfl (by kernel_rfl) (by kernel_rfl) (by kernel_rfl) (by kernel_rfl) (by kernel_rfl) ?step ?fin
    case step =>
      refine grow.EachL.cons ?_ ?_
      · intro A W hB hs hJ K hK
        have s0 := hs 9 (by kernel_rfl)
        simp at s0
        rw [if_pos (by rfl)]
        clear hs hJ
        go_simp
        exact hK _ _ (Below.refl _ _) rfl
      refine grow.EachL.cons ?_ ?_
      · intro A W hB hs hJ K hK
        have s0 : A.tmps.getD 69 undef = .pointer (some ⟨w.heap.size, 1, none⟩) := hJ 0 69 (by kernel_rfl) (by kernel_rfl)
        simp at s0
        have kk := upc hB G1.out
        rw [if_pos (by rfl)]
        clear hs hJ
        go_simp
        exact hK _ _ (Below.refl _ _) rfl
      refine grow.EachL.cons ?_ ?_
      · intro A W hB hs hJ K hK
        have s0 := hs 12 (by kernel_rfl)
        simp at s0
        rw [if_pos (by rfl)]
        clear hs hJ
        go_simp
        exact hK _ _ (Below.refl _ _) rfl
      refine grow.EachL.cons ?_ ?_
      · intro A W hB hs hJ K hK
        have s0 := hs 0 (by kernel_rfl)
        simp at s0
        rw [if_pos (by rfl)]
        clear hs hJ
        go_simp
        exact hK _ _ (Below.refl _ _) rfl
      refine grow.EachL.cons ?_ ?_
      · intro A W hB hs hJ K hK
        have s0 : A.tmps.getD 72 undef = .pointer (some ⟨b, 0, none⟩) := hJ 3 72 (by kernel_rfl) (by kernel_rfl)
        simp at s0
        rw [if_pos (by rfl)]
        clear hs hJ
        go_simp
        exact hK _ _ (Below.refl _ _) rfl
      refine grow.EachL.cons ?_ ?_
      · intro A W hB hs hJ K hK
        have s0 : A.tmps.getD 73 undef = .pointer (some ⟨b, 0, none⟩) := hJ 4 73 (by kernel_rfl) (by kernel_rfl)
        simp at s0
        rw [if_pos (by rfl)]
        clear hs hJ
        go_simp
        exact hK _ _ (Below.refl _ _) rfl
      refine grow.EachL.cons ?_ ?_
      · intro A W hB hs hJ K hK
        have s0 : A.tmps.getD 74 undef = .pointer (some ⟨b, 1, none⟩) := hJ 5 74 (by kernel_rfl) (by kernel_rfl)
        simp at s0
        have kk := upc hB G2.out
        rw [if_pos (by rfl)]
        clear hs hJ
        go_simp
        exact hK _ _ (Below.refl _ _) rfl
      refine grow.EachL.cons ?_ ?_
      · intro A W hB hs hJ K hK
        have s0 := hs 12 (by kernel_rfl)
        simp at s0
        rw [if_pos (by rfl)]
        clear hs hJ
        go_simp
        exact hK _ _ (Below.refl _ _) rfl
      refine grow.EachL.cons ?_ ?_
      · intro A W hB hs hJ K hK
        have s0 : A.tmps.getD 75 undef = .slice (some ⟨gk, 0, none⟩) nk ck := hJ 6 75 (by kernel_rfl) (by kernel_rfl)
        simp at s0
        have s1 : A.tmps.getD 76 undef = .int .i64 (i : Nat) := hJ 7 76 (by kernel_rfl) (by kernel_rfl)
        simp at s1
        rw [if_pos (by rfl)]
        clear hs hJ
        go_simp
        exact hK _ _ (Below.refl _ _) rfl
      refine grow.EachL.cons ?_ ?_
      · intro A W hB hs hJ K hK
        have s0 : A.tmps.getD 77 undef = .pointer (some ⟨gk, i, none⟩) := hJ 8 77 (by kernel_rfl) (by kernel_rfl)
        simp at s0
        have kk := upc hB G3.out
        rw [if_pos (by rfl)]
        clear hs hJ
        go_simp
        exact hK _ _ (Below.refl _ _) rfl
      refine grow.EachL.cons ?_ ?_
      · intro A W hB hs hJ K hK
        have s0 := hs 1 (by kernel_rfl)
        simp at s0
        rw [if_pos (by rfl)]
        clear hs hJ
        go_simp
        exact hK _ _ (Below.refl _ _) rfl
      refine grow.EachL.cons ?_ ?_
      · intro A W hB hs hJ K hK
        have s0 := hs 2 (by kernel_rfl)
        simp at s0
        rw [if_pos (by rfl)]
        clear hs hJ
        go_simp
        exact hK _ _ (Below.refl _ _) rfl
      refine grow.EachL.cons ?_ ?_
      · intro A W hB hs hJ K hK
        have s0 := hs 3 (by kernel_rfl)
        simp at s0
        rw [if_pos (by rfl)]
        clear hs hJ
        go_simp
        exact hK _ _ (Below.refl _ _) rfl
      refine grow.EachL.cons ?_ ?_
      · intro A W hB hs hJ K hK
        have s0 : A.tmps.getD 81 undef = .int .i64 (u : Nat) := hJ 12 81 (by kernel_rfl) (by kernel_rfl)
        simp at s0
        have hw := hw5
        rw [if_pos (by rfl)]
        clear hs hJ
        go_simp
        exact hK _ _ (Below.refl _ _) rfl
      refine grow.EachL.cons ?_ ?_
      · intro A W hB hs hJ K hK
        have s0 : A.tmps.getD 78 undef = .pointer (some ⟨e0.2.1, 0, none⟩) := hJ 9 78 (by kernel_rfl) (by kernel_rfl)
        simp at s0
        have s1 : A.tmps.getD 79 undef = .int .i64 k := hJ 10 79 (by kernel_rfl) (by kernel_rfl)
        simp at s1
        have s2 : A.tmps.getD 80 undef = .int .i64 v := hJ 11 80 (by kernel_rfl) (by kernel_rfl)
        simp at s2
        have s3 : A.tmps.getD 82 undef = .int .i64 ((u : Int) + 5) := hJ 13 82 (by kernel_rfl) (by kernel_rfl)
        simp at s3
        rw [if_pos (by rfl)]
        clear hs hJ
        go_simp
        go_at_call 29
        refine (HIH.out W hB).mono ?_
        rintro e W2 ⟨b3, L3, rfl, h3, hp3, hb3⟩
        exact hK _ _ hb3 ⟨b3, L3, rfl, h3.mono (fun x hx => hx.imp id (fun h => Nat.le_trans hB.size h)), hp3⟩
      refine grow.EachL.cons ?_ ?_
      · intro A W hB hs hJ K hK
        have s0 : A.tmps.getD 70 undef = .slice (some ⟨R, 0, none⟩) nk c2 := hJ 1 70 (by kernel_rfl) (by kernel_rfl)
        simp at s0
        have s1 : A.tmps.getD 71 undef = .int .i64 (i : Nat) := hJ 2 71 (by kernel_rfl) (by kernel_rfl)
        simp at s1
        rw [if_pos (by rfl)]
        clear hs hJ
        go_simp
        exact hK _ _ (Below.refl _ _) rfl
      exact grow.EachL.nil
    case fin =>
      intro f W hB hF
      have f0 : f 0 = .pointer (some ⟨w.heap.size, 1, none⟩) := hF 0 (by decide)
      have f1 : f 1 = .slice (some ⟨R, 0, none⟩) nk c2 := hF 1 (by decide)
      have f2 : f 2 = .int .i64 (i : Nat) := hF 2 (by decide)
      have f3 : f 3 = .pointer (some ⟨b, 0, none⟩) := hF 3 (by decide)
      have f4 : f 4 = .pointer (some ⟨b, 0, none⟩) := hF 4 (by decide)
      have f5 : f 5 = .pointer (some ⟨b, 1, none⟩) := hF 5 (by decide)
      have f6 : f 6 = .slice (some ⟨gk, 0, none⟩) nk ck := hF 6 (by decide)
      have f7 : f 7 = .int .i64 (i : Nat) := hF 7 (by decide)
      have f8 : f 8 = .pointer (some ⟨gk, i, none⟩) := hF 8 (by decide)
      have f9 : f 9 = .pointer (some ⟨e0.2.1, 0, none⟩) := hF 9 (by decide)
      have f10 : f 10 = .int .i64 k := hF 10 (by decide)
      have f11 : f 11 = .int .i64 v := hF 11 (by decide)
      have f12 : f 12 = .int .i64 (u : Nat) := hF 12 (by decide)
      have f13 : f 13 = .int .i64 ((u : Int) + 5) := hF 13 (by decide)
      obtain ⟨b3_14, L3_14, f14, h3_14, hp3_14⟩ := hF 14 (by decide)
      have f15 : f 15 = .pointer (some ⟨R, i, none⟩) := hF 15 (by decide)
      clear hF
      intro A hA
      simp only [grow.puts, Act.put, List.getElem?_toArray, List.getElem?_cons_zero, List.getElem?_cons_succ, Option.bind_some, List.setIfInBounds_toArray, List.set_cons_zero, List.set_cons_succ, f0, f1, f2, f3, f4, f5, f6, f7, f8, f9, f10, f11, f12, f13, f14, f15] at hA
      subst hA
      have hO4 := HO3.out.1.up hB
      have hR4 := rowUp HO3.out.2 hB
      have hst := World.ownsRow.stored (h := hR4) i (.pointer (some ⟨b3_14, 0, none⟩))
      obtain ⟨u0, hu0c⟩ : ∃ x, W.cell? ⟨R, i, none⟩ = some x := ⟨_, by rw [World.ownsRow.cellAt hR4 i (by omega), List.getElem?_eq_getElem (by rw [List.length_map, HK.out.2.2.2.2.1]; exact hil)]⟩
      have hfz : W.frozen? ⟨R, i, none⟩ = false := World.ownsRow.frozenAt hR4 i
      have hRG : R ≠ w.heap.size := by rintro rfl; obtain ⟨_, h | ⟨g, cap, cur, hv, _, hgc, _⟩⟩ := hR4; (· cases h.1); (· cases hv; rw [hO4.blk] at hgc; cases hgc)
      have hO5 : Out w w.heap.size #[.int .u32 (m : Nat), .slice (some ⟨R, 0, none⟩) nk c2, .slice none 0 0, .int .i64 (n : Nat)] (W.setCell ⟨R, i, none⟩ (.pointer (some ⟨b3_14, 0, none⟩))) := ⟨hO4.bel.setCell (p := ⟨R, i, none⟩) hRb.1 _, Nat.le_refl _, (Below.heap_setCell _ _ _ _ (Ne.symm hRG)).trans hO4.blk⟩
      have hGl := HO3.out.1.lt
      have hk5 : HN (fun z => (S z ∧ z < w.heap.size) ∨ w3.heap.size ≤ z) (W.setCell ⟨R, i, none⟩ (.pointer (some ⟨b3_14, 0, none⟩))) d b3_14 L3_14 := h3_14.frame (fun x hx _ => Below.heap_setCell _ _ _ _ (by rcases hx with hx | hx; (· have := hx.2; have := hRb.1; show x ≠ R; omega); (· have := hRb.2; show x ≠ R; omega)))
      obtain ⟨w4, hw4⟩ : ∃ V, V = W.setCell ⟨R, i, none⟩ (.pointer (some ⟨b3_14, 0, none⟩)) := ⟨_, rfl⟩
      go_simp
      rw [← hw4] at hO5 hk5 hst ⊢
      have HO5 := Lib.hid (And.intro hO5 (And.intro hst.1 (And.intro hk5 hp3_14)))
      obtain ⟨m3, kv3, pv3, hc3⟩ := hk5.cells
      obtain ⟨b3, rfl⟩ : ∃ x, x = b3_14 := ⟨_, rfl⟩
      obtain ⟨L3, rfl⟩ : ∃ x, x = L3_14 := ⟨_, rfl⟩
      obtain ⟨n3, hn3⟩ : ∃ x, L3.length = x := ⟨_, rfl⟩
      rw [hn3] at hc3
      have HN3 := Lib.hid (And.intro hn3 hc3)
      clear hO4 hR4 hst hu0c hfz hO5 hk5 h3_14 hp3_14 hw4 hn3 hc3 hB HIH G1 G2 G3 HO3
      go_wp2_with fail
      have G1 := Lib.hid (node_c1 HO5.out.1.blk)
      have G2 := Lib.hid (node_c1 (upb HO5.out.1.bel HB.out.1))
      have G3 := Lib.hid (upc HO5.out.1.bel HEL.out.1)
      have G4 := Lib.hid (node_c3 HO5.out.1.blk)
      have G5 := Lib.hid (node_c3 HN3.out.2)
      have G6 := Lib.hid (node_c3 (upb HO5.out.1.bel HEL.out.2.1))
      have G7 : Hid (w4.cell? ⟨R, i, none⟩ = some (.pointer (some ⟨b3, 0, none⟩))) := Lib.hid (by rw [World.ownsRow.cellAt HO5.out.2.1 i (by omega), List.getElem?_set_self (by rw [List.length_map, HK.out.2.2.2.2.1]; exact hil)])
      have hn31 : n3 ≤ n0 + 1 := by rw [← HN3.out.1, ← HEL.out.2.2.1]; exact HO5.out.2.2.2.2
      have hn0n := HEL.out.2.2.2
      have hws : IntKind.i64.wrap ((n3 : Int) - (n0 : Int)) = (n3 : Int) - (n0 : Int) := IntWalk.i64_in _ (by omega)
      have hwa : IntKind.i64.wrap ((n : Int) + ((n3 : Int) - (n0 : Int))) = (n : Int) + ((n3 : Int) - (n0 : Int)) := IntWalk.i64_in _ (by omega)
      refine grow.wp_grow_last 23 _ [grow.kEq (.pointer (some ⟨w.heap.size, 3, none⟩)), grow.kEq (.int .i64 (n : Nat)), grow.kEq (.pointer (some ⟨w.heap.size, 1, none⟩)), grow.kEq (.slice (some ⟨R, 0, none⟩) nk c2), grow.kEq (.int .i64 (i : Nat)), grow.kEq (.pointer (some ⟨R, i, none⟩)), grow.kEq (.pointer (some ⟨b3, 0, none⟩)), grow.kEq (.pointer (some ⟨b3, 0, none⟩)), grow.kEq (.pointer (some ⟨b3, 3, none⟩)), grow.kEq (.int .i64 (n3 : Nat)), grow.kEq (.pointer (some ⟨b, 0, none⟩)), grow.kEq (.pointer (some ⟨b, 0, none⟩)), grow.kEq (.pointer (some ⟨b, 1, none⟩)), grow.kEq (.slice (some ⟨gk, 0, none⟩) nk ck), grow.kEq (.int .i64 (i : Nat)), grow.kEq (.pointer (some ⟨gk, i, none⟩)), grow.kEq (.pointer (some ⟨e0.2.1, 0, none⟩)), grow.kEq (.pointer (some ⟨e0.2.1, 0, none⟩)), grow.kEq (.pointer (some ⟨e0.2.1, 3, none⟩)), grow.kEq (.int .i64 (n0 : Nat)), grow.kEq (.int .i64 ((n3 : Int) - (n0 : Int))), grow.kEq (.int .i64 ((n : Int) + ((n3 : Int) - (n0 : Int)))), grow.kEq (.pointer (some ⟨w.heap.size, 3, none⟩))] rfl rfl rfl (by kernel_rfl) (by kernel_rfl) (by kernel_rfl) (by kernel_rfl) (by kernel_rfl) ?step ?fin
      case step =>
        refine grow.EachL.cons ?_ ?_
        · intro A W hB hs hJ K hK
          have s0 := hs 9 (by kernel_rfl)
          simp at s0
          rw [if_pos (by rfl)]
          clear hs hJ
          go_simp
          exact hK _ _ (Below.refl _ _) rfl
        refine grow.EachL.cons ?_ ?_
        · intro A W hB hs hJ K hK
          have s0 : A.tmps.getD 85 undef = .pointer (some ⟨w.heap.size, 3, none⟩) := hJ 0 85 (by kernel_rfl) (by kernel_rfl)
          simp at s0
          have kk := upc hB G4.out
          rw [if_pos (by rfl)]
          clear hs hJ
          go_simp
          exact hK _ _ (Below.refl _ _) rfl
        refine grow.EachL.cons ?_ ?_
        · intro A W hB hs hJ K hK
          have s0 := hs 9 (by kernel_rfl)
          simp at s0
          rw [if_pos (by rfl)]
          clear hs hJ
          go_simp
          exact hK _ _ (Below.refl _ _) rfl
        refine grow.EachL.cons ?_ ?_
        · intro A W hB hs hJ K hK
          have s0 : A.tmps.getD 87 undef = .pointer (some ⟨w.heap.size, 1, none⟩) := hJ 2 87 (by kernel_rfl) (by kernel_rfl)
          simp at s0
          have kk := upc hB G1.out
          rw [if_pos (by rfl)]
          clear hs hJ
          go_simp
          exact hK _ _ (Below.refl _ _) rfl
        refine grow.EachL.cons ?_ ?_
        · intro A W hB hs hJ K hK
          have s0 := hs 12 (by kernel_rfl)
          simp at s0
          rw [if_pos (by rfl)]
          clear hs hJ
          go_simp
          exact hK _ _ (Below.refl _ _) rfl
        refine grow.EachL.cons ?_ ?_
        · intro A W hB hs hJ K hK
          have s0 : A.tmps.getD 88 undef = .slice (some ⟨R, 0, none⟩) nk c2 := hJ 3 88 (by kernel_rfl) (by kernel_rfl)
          simp at s0
          have s1 : A.tmps.getD 89 undef = .int .i64 (i : Nat) := hJ 4 89 (by kernel_rfl) (by kernel_rfl)
          simp at s1
          rw [if_pos (by rfl)]
          clear hs hJ
          go_simp
          exact hK _ _ (Below.refl _ _) rfl
        refine grow.EachL.cons ?_ ?_
        · intro A W hB hs hJ K hK
          have s0 : A.tmps.getD 90 undef = .pointer (some ⟨R, i, none⟩) := hJ 5 90 (by kernel_rfl) (by kernel_rfl)
          simp at s0
          have kk := upc hB G7.out
          rw [if_pos (by rfl)]
          clear hs hJ
          go_simp
          exact hK _ _ (Below.refl _ _) rfl
        refine grow.EachL.cons ?_ ?_
        · intro A W hB hs hJ K hK
          have s0 : A.tmps.getD 91 undef = .pointer (some ⟨b3, 0, none⟩) := hJ 6 91 (by kernel_rfl) (by kernel_rfl)
          simp at s0
          rw [if_pos (by rfl)]
          clear hs hJ
          go_simp
          exact hK _ _ (Below.refl _ _) rfl
        refine grow.EachL.cons ?_ ?_
        · intro A W hB hs hJ K hK
          have s0 : A.tmps.getD 92 undef = .pointer (some ⟨b3, 0, none⟩) := hJ 7 92 (by kernel_rfl) (by kernel_rfl)
          simp at s0
          rw [if_pos (by rfl)]
          clear hs hJ
          go_simp
          exact hK _ _ (Below.refl _ _) rfl
        refine grow.EachL.cons ?_ ?_
        · intro A W hB hs hJ K hK
          have s0 : A.tmps.getD 93 undef = .pointer (some ⟨b3, 3, none⟩) := hJ 8 93 (by kernel_rfl) (by kernel_rfl)
          simp at s0
          have kk := upc hB G5.out
          rw [if_pos (by rfl)]
          clear hs hJ
          go_simp
          exact hK _ _ (Below.refl _ _) rfl
        refine grow.EachL.cons ?_ ?_
        · intro A W hB hs hJ K hK
          have s0 := hs 0 (by kernel_rfl)
          simp at s0
          rw [if_pos (by rfl)]
          clear hs hJ
          go_simp
          exact hK _ _ (Below.refl _ _) rfl
        refine grow.EachL.cons ?_ ?_
        · intro A W hB hs hJ K hK
          have s0 : A.tmps.getD 95 undef = .pointer (some ⟨b, 0, none⟩) := hJ 10 95 (by kernel_rfl) (by kernel_rfl)
          simp at s0
          rw [if_pos (by rfl)]
          clear hs hJ
          go_simp
          exact hK _ _ (Below.refl _ _) rfl
        refine grow.EachL.cons ?_ ?_
        · intro A W hB hs hJ K hK
          have s0 : A.tmps.getD 96 undef = .pointer (some ⟨b, 0, none⟩) := hJ 11 96 (by kernel_rfl) (by kernel_rfl)
          simp at s0
          rw [if_pos (by rfl)]
          clear hs hJ
          go_simp
          exact hK _ _ (Below.refl _ _) rfl
        refine grow.EachL.cons ?_ ?_
        · intro A W hB hs hJ K hK
          have s0 : A.tmps.getD 97 undef = .pointer (some ⟨b, 1, none⟩) := hJ 12 97 (by kernel_rfl) (by kernel_rfl)
          simp at s0
          have kk := upc hB G2.out
          rw [if_pos (by rfl)]
          clear hs hJ
          go_simp
          exact hK _ _ (Below.refl _ _) rfl
        refine grow.EachL.cons ?_ ?_
        · intro A W hB hs hJ K hK
          have s0 := hs 12 (by kernel_rfl)
          simp at s0
          rw [if_pos (by rfl)]
          clear hs hJ
          go_simp
          exact hK _ _ (Below.refl _ _) rfl
        refine grow.EachL.cons ?_ ?_
        · intro A W hB hs hJ K hK
          have s0 : A.tmps.getD 98 undef = .slice (some ⟨gk, 0, none⟩) nk ck := hJ 13 98 (by kernel_rfl) (by kernel_rfl)
          simp at s0
          have s1 : A.tmps.getD 99 undef = .int .i64 (i : Nat) := hJ 14 99 (by kernel_rfl) (by kernel_rfl)
          simp at s1
          rw [if_pos (by rfl)]
          clear hs hJ
          go_simp
          exact hK _ _ (Below.refl _ _) rfl
        refine grow.EachL.cons ?_ ?_
        · intro A W hB hs hJ K hK
          have s0 : A.tmps.getD 100 undef = .pointer (some ⟨gk, i, none⟩) := hJ 15 100 (by kernel_rfl) (by kernel_rfl)
          simp at s0
          have kk := upc hB G3.out
          rw [if_pos (by rfl)]
          clear hs hJ
          go_simp
          exact hK _ _ (Below.refl _ _) rfl
        refine grow.EachL.cons ?_ ?_
        · intro A W hB hs hJ K hK
          have s0 : A.tmps.getD 101 undef = .pointer (some ⟨e0.2.1, 0, none⟩) := hJ 16 101 (by kernel_rfl) (by kernel_rfl)
          simp at s0
          rw [if_pos (by rfl)]
          clear hs hJ
          go_simp
          exact hK _ _ (Below.refl _ _) rfl
        refine grow.EachL.cons ?_ ?_
        · intro A W hB hs hJ K hK
          have s0 : A.tmps.getD 102 undef = .pointer (some ⟨e0.2.1, 0, none⟩) := hJ 17 102 (by kernel_rfl) (by kernel_rfl)
          simp at s0
          rw [if_pos (by rfl)]
          clear hs hJ
          go_simp
          exact hK _ _ (Below.refl _ _) rfl
        refine grow.EachL.cons ?_ ?_
        · intro A W hB hs hJ K hK
          have s0 : A.tmps.getD 103 undef = .pointer (some ⟨e0.2.1, 3, none⟩) := hJ 18 103 (by kernel_rfl) (by kernel_rfl)
          simp at s0
          have kk := upc hB G6.out
          rw [if_pos (by rfl)]
          clear hs hJ
          go_simp
          exact hK _ _ (Below.refl _ _) rfl
        refine grow.EachL.cons ?_ ?_
        · intro A W hB hs hJ K hK
          have s0 : A.tmps.getD 94 undef = .int .i64 (n3 : Nat) := hJ 9 94 (by kernel_rfl) (by kernel_rfl)
          simp at s0
          have s1 : A.tmps.getD 104 undef = .int .i64 (n0 : Nat) := hJ 19 104 (by kernel_rfl) (by kernel_rfl)
          simp at s1
          have hw := hws
          rw [if_pos (by rfl)]
          clear hs hJ
          go_simp
          exact hK _ _ (Below.refl _ _) rfl
        refine grow.EachL.cons ?_ ?_
        · intro A W hB hs hJ K hK
          have s0 : A.tmps.getD 86 undef = .int .i64 (n : Nat) := hJ 1 86 (by kernel_rfl) (by kernel_rfl)
          simp at s0
          have s1 : A.tmps.getD 105 undef = .int .i64 ((n3 : Int) - (n0 : Int)) := hJ 20 105 (by kernel_rfl) (by kernel_rfl)
          simp at s1
          have hw := hwa
          rw [if_pos (by rfl)]
          clear hs hJ
          go_simp
          exact hK _ _ (Below.refl _ _) rfl
        refine grow.EachL.cons ?_ ?_
        · intro A W hB hs hJ K hK
          have s0 := hs 9 (by kernel_rfl)
          simp at s0
          rw [if_pos (by rfl)]
          clear hs hJ
          go_simp
          exact hK _ _ (Below.refl _ _) rfl
        exact grow.EachL.nil
      case fin =>
        intro f W hB hF
        have f0 : f 0 = .pointer (some ⟨w.heap.size, 3, none⟩) := hF 0 (by decide)
        have f1 : f 1 = .int .i64 (n : Nat) := hF 1 (by decide)
        have f2 : f 2 = .pointer (some ⟨w.heap.size, 1, none⟩) := hF 2 (by decide)
        have f3 : f 3 = .slice (some ⟨R, 0, none⟩) nk c2 := hF 3 (by decide)
        have f4 : f 4 = .int .i64 (i : Nat) := hF 4 (by decide)
        have f5 : f 5 = .pointer (some ⟨R, i, none⟩) := hF 5 (by decide)
        have f6 : f 6 = .pointer (some ⟨b3, 0, none⟩) := hF 6 (by decide)
        have f7 : f 7 = .pointer (some ⟨b3, 0, none⟩) := hF 7 (by decide)
        have f8 : f 8 = .pointer (some ⟨b3, 3, none⟩) := hF 8 (by decide)
        have f9 : f 9 = .int .i64 (n3 : Nat) := hF 9 (by decide)
        have f10 : f 10 = .pointer (some ⟨b, 0, none⟩) := hF 10 (by decide)
        have f11 : f 11 = .pointer (some ⟨b, 0, none⟩) := hF 11 (by decide)
        have f12 : f 12 = .pointer (some ⟨b, 1, none⟩) := hF 12 (by decide)
        have f13 : f 13 = .slice (some ⟨gk, 0, none⟩) nk ck := hF 13 (by decide)
        have f14 : f 14 = .int .i64 (i : Nat) := hF 14 (by decide)
        have f15 : f 15 = .pointer (some ⟨gk, i, none⟩) := hF 15 (by decide)
        have f16 : f 16 = .pointer (some ⟨e0.2.1, 0, none⟩) := hF 16 (by decide)
        have f17 : f 17 = .pointer (some ⟨e0.2.1, 0, none⟩) := hF 17 (by decide)
        have f18 : f 18 = .pointer (some ⟨e0.2.1, 3, none⟩) := hF 18 (by decide)
        have f19 : f 19 = .int .i64 (n0 : Nat) := hF 19 (by decide)
        have f20 : f 20 = .int .i64 ((n3 : Int) - (n0 : Int)) := hF 20 (by decide)
        have f21 : f 21 = .int .i64 ((n : Int) + ((n3 : Int) - (n0 : Int))) := hF 21 (by decide)
        have f22 : f 22 = .pointer (some ⟨w.heap.size, 3, none⟩) := hF 22 (by decide)
        clear hF
        intro A hA
        simp only [grow.puts, Act.put, List.getElem?_toArray, List.getElem?_cons_zero, List.getElem?_cons_succ, Option.bind_some, List.setIfInBounds_toArray, List.set_cons_zero, List.set_cons_succ, f0, f1, f2, f3, f4, f5, f6, f7, f8, f9, f10, f11, f12, f13, f14, f15, f16, f17, f18, f19, f20, f21, f22] at hA
        subst hA
        have hO6 := HO5.out.1.up hB
        have hR6 := rowUp HO5.out.2.1 hB
        have g3 := node_c3 hO6.blk
        have f3 := node_f (o := 3) hO6.blk
        obtain ⟨n4, hn4⟩ : ∃ q : Nat, (n : Int) + ((n3 : Int) - (n0 : Int)) = (q : Nat) := ⟨n + n3 - n0, by omega⟩
        rw [hn4]
        have HF : Hid (RetPut S (d + 1) L k v w (.returned (.pointer (some ⟨w.heap.size, 0, none⟩))) (W.setCell ⟨w.heap.size, 3, none⟩ (.int .i64 (n4 : Nat)))) := by
          have hO7 := hO6.set 3 (.int .i64 (n4 : Nat))
          have hR7 := rowKeep hR6 (hO6.keep 3 (.int .i64 (n4 : Nat))) (by decide)
          obtain ⟨hks, hm, hs, hLf, hnk, hln⟩ := HK.out
          obtain ⟨hi, hy, hyl, hz, hu5⟩ := HI.out
          have hmd := HM.out
          subst hmd
          have hp3 := HO5.out.2.2.2
          have hk6 : HN (fun z => S z ∨ w.heap.size ≤ z) (W.setCell ⟨w.heap.size, 3, none⟩ (.int .i64 (n4 : Nat))) d b3 L3 := by
            exact ((HO5.out.2.2.1.up hB).frame (fun x hx _ => Below.heap_setCell _ _ _ _ (by show x ≠ w.heap.size; rcases hx with hx | hx; (· have := hx.2; omega); (· omega)))).mono (fun x hx => hx.imp And.left (fun h => by omega))
          have he0r := hks.route e0 HE.out
          have he0w : e0.1 = y := hs.here e0 (by simp)
          have hat : At (wy u) y [(y, b3, L3)] := At.single (fun p hp => by rcases hp3.mem HO5.out.2.2.1.dis hp with e | ⟨q, hq, e⟩; (· rw [e]; exact hy.symm); (· rw [← e, he0r q hq]; exact he0w)) hp3.ne HO5.out.2.2.1.dis
          have hm2 : MaskOf m (pre ++ [(y, b3, L3)] ++ post) := hm.same hs.eq he0w rfl
          have hlen : (pre ++ [(y, b3, L3)] ++ post).length = nk := by rw [← hnk, hs.eq]; simp
          have hfl : (flat (pre ++ [(y, b3, L3)] ++ post)).length = n4 := by have h1 := hln; rw [hLf, hs.eq, flat_len, flat_one, HEL.out.2.2.1] at h1; rw [flat_len, flat_one]; show _ + L3.length + _ = _; rw [HN3.out.1]; omega
          have hrow : (ks.map ptr).set i (.pointer (some ⟨b3, 0, none⟩)) = (pre ++ [(y, b3, L3)] ++ post).map ptr := by rw [hs.eq, ← hi]; exact map_set pre post e0 (y, b3, L3)
          rw [hrow] at hR7
          rw [← hlen] at hR7 hO7
          refine Lib.hid ⟨_, _, rfl, node_new (S := S) (n' := n4) hu5 hks hs hyl hat hm2 (by simp) hfl hO7 hR7 (fun x hx => hx) HB.out.2.2.2 (fun e he => by obtain rfl := List.mem_singleton.1 he; exact hk6), ⟨?_, by rw [hfl, hln]; omega⟩, hO7.bel⟩
          rw [hLf]
          refine hs.put_lk hks hyl hat hy.symm fun j _ => ?_
          rw [flat_one, flat_one]
          exact hp3.1 j
        clear hO6 hR6
        go_simp
        go_wp2_with fail
        go_ret
        exact HF.out
end Go.Proofs.Ytenaddjnaeebbaa.hamt
