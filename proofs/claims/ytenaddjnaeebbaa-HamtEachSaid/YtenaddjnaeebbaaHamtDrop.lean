/- A key is dropped from a node that has kids. -/
import Derived.Test.YtenaddjnaeebbaaHamtR
namespace Go.Proofs.Ytenaddjnaeebbaa.hamt
open Go.RowKit

theorem HQ.frame {S : Nat → Prop} {w w' : World} (hw : ∀ x, S x → x < w.heap.size → w'.heap[x]? = w.heap[x]?) {d : Nat} {p : Option Addr} {L : PL} (h : HQ S w d p L) : HQ S w' d p L := by
  rcases h with h | ⟨b, e, h⟩
  · exact .inl h
  · exact .inr ⟨b, e, h.frame hw⟩
theorem HQ.there {S : Nat → Prop} {w : World} {d : Nat} {p : Option Addr} {L : PL} (h : HQ S w d p L) : HQ (fun x => S x ∧ x < w.heap.size) w d p L := by
  rcases h with h | ⟨b, e, h⟩
  · exact .inl h
  · exact .inr ⟨b, e, h.there⟩
theorem map_del (pre post : List Kid) (e : Kid) : ((pre ++ [e] ++ post).map ptr).take pre.length ++ ((pre ++ [e] ++ post).map ptr).drop (pre.length + 1) = (pre ++ [] ++ post).map ptr := by
  rw [List.append_nil, List.append_assoc, List.map_append, List.take_left' (by simp), List.drop_append, List.drop_of_length_le (by simp)]
  simp
set_option maxRecDepth 100000 in
set_option maxHeartbeats 8000000 in
theorem drop_node (S : Nat → Prop) (d u b : Nat) (L : PL) (k : Int) (w : World) (hu : u + 5 * (d + 1) = 35) (h : HN S w (d + 1) b L) (hn : L.length ≤ 8796093022000)
    (ih : ∀ (T : Nat → Prop) b L W, HN T W d b L → L.length ≤ 8796093022000 → Calls Try.prog 40 #[.pointer (some ⟨b, 0, none⟩), .int .i64 k, .int .i64 ((u : Int) + 5)] W (RetDrop T d L k W)) :
    Calls Try.prog 40 #[.pointer (some ⟨b, 0, none⟩), .int .i64 k, .int .i64 (u : Nat)] w (RetDrop S (d + 1) L k w) := by
  have hH0 := h
  obtain ⟨hBb, hne, ks, m, kv, hLf, hks, hm, hb, ho, hgS, hkid⟩ := h
  have hu5 : 35 - 5 * (d + 1) = u := by omega
  rw [hu5] at hks
  obtain ⟨ak, ck, hkv⟩ := rowVal ho
  subst hkv
  obtain ⟨n, hln⟩ : ∃ n, L.length = n := ⟨_, rfl⟩
  obtain ⟨nk, hnk⟩ : ∃ n, ks.length = n := ⟨_, rfl⟩
  have hnk32 := hks.len
  rw [hln] at hb hn
  rw [hnk] at hb ho hnk32
  obtain ⟨y, hy⟩ : ∃ y, y = wy u k := ⟨_, rfl⟩
  have hyl : y < 32 := by rw [hy]; exact wy_lt u k
  obtain ⟨pre, mid, post, hs⟩ := split_exists y hks.asc
  obtain ⟨z, hz⟩ : ∃ z, z = 2 ^ y := ⟨_, rfl⟩
  have hzl := pow_lt y hyl
  rw [← hz] at hzl
  have hb' : w.heap[b]? = some (.cells #[.int .u32 (m : Nat), .slice ak nk ck, .slice none 0 0, .int .i64 (n : Nat)] 62 (0, 0)) := hb
  have hO0 := Out.new w #[.int .u32 (m : Nat), .slice ak nk ck, .slice none 0 0, .int .i64 (n : Nat)]
  have hb0 := belowAlloc w (.cells #[.int .u32 (m : Nat), .slice ak nk ck, .slice none 0 0, .int .i64 (n : Nat)] 62)
  have HWay := Lib.hid (fun W => way_walk k u (by omega) W)
  have HSp := Lib.hid (spot_walk b m y (.slice ak nk ck) (.slice none 0 0) n _ (upb hb0 hb) hyl hm.lt)
  rw [hs.count hks hm, hs.has hm] at HSp
  rw [← hz] at HSp
  rw [← hy, ← hz] at HWay
  obtain ⟨i, hi⟩ : ∃ i, pre.length = i := ⟨_, rfl⟩
  rw [hi] at HSp
  have hu0 : (0 : Int) ≤ (u : Int) := by omega
  have hu1 : (u : Int) < 35 := by omega
  have hw5 : IntKind.i64.wrap ((u : Int) + 5) = (u : Int) + 5 := IntWalk.i64_in _ (by omega)
  have k0 := node_c0 hb'
  have k1 := node_c1 hb'
  have k2 := node_c2 hb'
  have k3 := node_c3 hb'
  have HO := Lib.hid hO0
  have HH := Lib.hid hH0
  have HB := Lib.hid (And.intro hb' (And.intro ho (And.intro hgS hkid)))
  have HK := Lib.hid (And.intro hks (And.intro hm (And.intro hs (And.intro hLf (And.intro hnk hln)))))
  have HI := Lib.hid (And.intro hi (And.intro hy (And.intro hyl (And.intro hz hu5))))
  clear hH0 hb hb' ho hO0 hb0 hks hm hs hLf hgS hkid hne hnk hln hi hy hyl hz hu5
  go_enter Try.func40, Try.ntmps40
  go_wp2_with fail
  refine (HWay.out _).mono ?_
  rintro e w' ⟨rfl, rfl⟩
  go_wp2_with fail
  refine HSp.out.mono ?_
  rintro e w1 ⟨rfl, hb1⟩
  have hO1 := Lib.hid (HO.out.up hb1)
  clear hb1 HO HSp HWay k0 k1 k2 k3
  have k1 := node_c1 (upb hO1.out.bel HB.out.1)
  have hsp := HK.out.2.2.1.eq
  cases hmid : mid with
  | nil =>
    have HF : Hid (RetDrop S (d + 1) L k w (.returned (.pointer (some ⟨b, 0, none⟩))) w1) := by
      obtain ⟨hks, hm, hs, hLf, hnk, hln⟩ := HK.out
      obtain ⟨hi, hy, hyl, hz, hu5⟩ := HI.out
      subst hmid
      refine Lib.hid ⟨_, L, rfl, .inr ⟨b, rfl, (HH.out.up hO1.out.bel).mono fun x hx => .inl hx⟩, dropOf_none ?_, HH.out.dis, hO1.out.bel⟩
      rw [hLf, hs.lk hks hy.symm]
      rfl
    rw [show (!([] : List Kid).isEmpty) = false from rfl]
    clear hmid hsp
    go_wp2_with fail
    go_ret
    exact HF.out
  | cons e0 rest =>
    obtain rfl : rest = [] := by have h := HK.out.2.2.1.one; rw [hmid] at h; simp at h; exact h
    have HM := Lib.hid hmid
    have hil : i < nk := by
      have h := congrArg List.length hsp
      rw [HK.out.2.2.2.2.1, hmid] at h
      simp only [List.length_append, List.length_singleton] at h
      have := HI.out.1
      omega
    clear hmid
    have he0 : e0 ∈ ks := by rw [hsp, HM.out]; simp
    have HE := Lib.hid he0
    have hkb := HB.out.2.2.2 e0 he0
    obtain ⟨m0, kv0, pv0, hc0⟩ := hkb.cells
    obtain ⟨n0, hn0⟩ : ∃ n, e0.2.2.length = n := ⟨_, rfl⟩
    rw [hn0] at hc0
    have hn0n : n0 ≤ n := by
      rw [← hn0, ← HK.out.2.2.2.2.2, HK.out.2.2.2.1, hsp, HM.out, flat_len, flat_one]
      omega
    obtain ⟨gk, hak⟩ : ∃ g, ak = some ⟨g, 0, none⟩ := by
      rcases HB.out.2.1.2 with ⟨_, h0⟩ | ⟨g, cap, cur, hv, _⟩
      · omega
      · cases hv; exact ⟨g, rfl⟩
    subst hak
    have hel : w.cell? ⟨gk, i, none⟩ = some (.pointer (some ⟨e0.2.1, 0, none⟩)) := by
      have h := World.ownsRow.cells (h := HB.out.2.1) (g := gk) rfl i (ptr e0) (by rw [hsp, HM.out, ← HI.out.1]; exact map_get pre post e0)
      rwa [addr_add, Nat.zero_add] at h
    have HEL := Lib.hid (And.intro hel (And.intro hc0 (And.intro hn0 hn0n)))
    have HIH := Lib.hid (ih (fun x => S x ∧ x < w.heap.size) e0.2.1 e0.2.2 w1 ((HB.out.2.2.2 e0 HE.out).there.up hO1.out.bel) (by rw [hn0]; omega))
    have k4 := upc hO1.out.bel hel
    have i0 : (0 : Int) ≤ (i : Int) := by omega
    have i1 : (i : Int) < (nk : Int) := by omega
    rw [show (!([e0] : List Kid).isEmpty) = true from rfl]
    clear he0 hkb hc0 hn0 hn0n hel hsp
    go_wp2_with fail
    refine HIH.out.mono ?_
    rintro e w2 ⟨p3, L3, rfl, h3, hd3, hdis3, hb2⟩
    have HQ3 := Lib.hid (And.intro h3.there (And.intro hd3 hdis3))
    have HO2 := Lib.hid (hO1.out.up hb2)
    have hw1l := hO1.out.lt
    have hw12 := hb2.size
    clear h3 hd3 hdis3 hb2 HIH k1 k4 hO1
    obtain ⟨n3, hn3⟩ : ∃ x, L3.length = x := ⟨_, rfl⟩
    have HN3 := Lib.hid hn3
    clear hn3
    go_wp2_with fail
    have G2 := Lib.hid (node_c1 (upb HO2.out.bel HB.out.1))
    have G3 := Lib.hid (upc HO2.out.bel HEL.out.1)
    have G4 := Lib.hid (node_c3 HO2.out.blk)
    have G6 := Lib.hid (node_c3 (upb HO2.out.bel HEL.out.2.1))
    have hn31 : n3 ≤ n0 := by rw [← HN3.out, ← HEL.out.2.2.1]; exact HQ3.out.2.1.2
    have hn0n := HEL.out.2.2.2
    have hws : IntKind.i64.wrap ((n3 : Int) - (n0 : Int)) = (n3 : Int) - (n0 : Int) := IntWalk.i64_in _ (by omega)
    have hwa : IntKind.i64.wrap ((n : Int) + ((n3 : Int) - (n0 : Int))) = (n : Int) + ((n3 : Int) - (n0 : Int)) := IntWalk.i64_in _ (by omega)
    have HSz := Lib.hid (fun W (hW : Below w2.heap.size w2 W) => size_walk _ W d p3 L3 (HQ3.out.1.up hW))
    rw [HN3.out] at HSz
    refine grow.wp_grow_last 17 _ [grow.kEq (.pointer (some ⟨w.heap.size, 3, none⟩)), grow.kEq (.int .i64 (n : Nat)), grow.kEq (.pointer p3), grow.kEq (.int .i64 (n3 : Nat)), grow.kEq (.pointer (some ⟨b, 0, none⟩)), grow.kEq (.pointer (some ⟨b, 0, none⟩)), grow.kEq (.pointer (some ⟨b, 1, none⟩)), grow.kEq (.slice (some ⟨gk, 0, none⟩) nk ck), grow.kEq (.int .i64 (i : Nat)), grow.kEq (.pointer (some ⟨gk, i, none⟩)), grow.kEq (.pointer (some ⟨e0.2.1, 0, none⟩)), grow.kEq (.pointer (some ⟨e0.2.1, 0, none⟩)), grow.kEq (.pointer (some ⟨e0.2.1, 3, none⟩)), grow.kEq (.int .i64 (n0 : Nat)), grow.kEq (.int .i64 ((n3 : Int) - (n0 : Int))), grow.kEq (.int .i64 ((n : Int) + ((n3 : Int) - (n0 : Int)))), grow.kEq (.pointer (some ⟨w.heap.size, 3, none⟩))] rfl rfl rfl (by kernel_rfl) (by kernel_rfl) (by kernel_rfl) (by kernel_rfl) (by kernel_rfl) ?step ?fin
    case step =>
      refine grow.EachL.cons ?_ ?_
      · intro A W hB hs hJ K hK
        have s0 := hs 7 (by kernel_rfl)
        simp at s0
        rw [if_pos (by rfl)]
        clear hs hJ
        go_simp
        exact hK _ _ (Below.refl _ _) rfl
      refine grow.EachL.cons ?_ ?_
      · intro A W hB hs hJ K hK
        have s0 : A.tmps.getD 63 undef = .pointer (some ⟨w.heap.size, 3, none⟩) := hJ 0 63 (by kernel_rfl) (by kernel_rfl)
        simp at s0
        have kk := upc hB G4.out
        rw [if_pos (by rfl)]
        clear hs hJ
        go_simp
        exact hK _ _ (Below.refl _ _) rfl
      refine grow.EachL.cons ?_ ?_
      · intro A W hB hs hJ K hK
        have s0 := hs 12 (by kernel_rfl)
        simp at s0
        rw [if_pos (by rfl)]
        clear hs hJ
        go_simp
        exact hK _ _ (Below.refl _ _) rfl
      refine grow.EachL.cons ?_ ?_
      · intro A W hB hs hJ K hK
        have s0 : A.tmps.getD 65 undef = .pointer p3 := hJ 2 65 (by kernel_rfl) (by kernel_rfl)
        simp at s0
        rw [if_pos (by rfl)]
        clear hs hJ
        go_simp
        go_at_call 30
        refine (HSz.out W hB).mono ?_
        rintro e W2 ⟨rfl, rfl⟩
        exact hK _ _ (Below.refl _ _) rfl
      refine grow.EachL.cons ?_ ?_
      · intro A W hB hs hJ K hK
        have s0 := hs 0 (by kernel_rfl)
        simp at s0
        rw [if_pos (by rfl)]
        clear hs hJ
        go_simp
        exact hK _ _ (Below.refl _ _) rfl
      refine grow.EachL.cons ?_ ?_
      · intro A W hB hs hJ K hK
        have s0 : A.tmps.getD 67 undef = .pointer (some ⟨b, 0, none⟩) := hJ 4 67 (by kernel_rfl) (by kernel_rfl)
        simp at s0
        rw [if_pos (by rfl)]
        clear hs hJ
        go_simp
        exact hK _ _ (Below.refl _ _) rfl
      refine grow.EachL.cons ?_ ?_
      · intro A W hB hs hJ K hK
        have s0 : A.tmps.getD 68 undef = .pointer (some ⟨b, 0, none⟩) := hJ 5 68 (by kernel_rfl) (by kernel_rfl)
        simp at s0
        rw [if_pos (by rfl)]
        clear hs hJ
        go_simp
        exact hK _ _ (Below.refl _ _) rfl
      refine grow.EachL.cons ?_ ?_
      · intro A W hB hs hJ K hK
        have s0 : A.tmps.getD 69 undef = .pointer (some ⟨b, 1, none⟩) := hJ 6 69 (by kernel_rfl) (by kernel_rfl)
        simp at s0
        have kk := upc hB G2.out
        rw [if_pos (by rfl)]
        clear hs hJ
        go_simp
        exact hK _ _ (Below.refl _ _) rfl
      refine grow.EachL.cons ?_ ?_
      · intro A W hB hs hJ K hK
        have s0 := hs 10 (by kernel_rfl)
        simp at s0
        rw [if_pos (by rfl)]
        clear hs hJ
        go_simp
        exact hK _ _ (Below.refl _ _) rfl
      refine grow.EachL.cons ?_ ?_
      · intro A W hB hs hJ K hK
        have s0 : A.tmps.getD 70 undef = .slice (some ⟨gk, 0, none⟩) nk ck := hJ 7 70 (by kernel_rfl) (by kernel_rfl)
        simp at s0
        have s1 : A.tmps.getD 71 undef = .int .i64 (i : Nat) := hJ 8 71 (by kernel_rfl) (by kernel_rfl)
        simp at s1
        rw [if_pos (by rfl)]
        clear hs hJ
        go_simp
        exact hK _ _ (Below.refl _ _) rfl
      refine grow.EachL.cons ?_ ?_
      · intro A W hB hs hJ K hK
        have s0 : A.tmps.getD 72 undef = .pointer (some ⟨gk, i, none⟩) := hJ 9 72 (by kernel_rfl) (by kernel_rfl)
        simp at s0
        have kk := upc hB G3.out
        rw [if_pos (by rfl)]
        clear hs hJ
        go_simp
        exact hK _ _ (Below.refl _ _) rfl
      refine grow.EachL.cons ?_ ?_
      · intro A W hB hs hJ K hK
        have s0 : A.tmps.getD 73 undef = .pointer (some ⟨e0.2.1, 0, none⟩) := hJ 10 73 (by kernel_rfl) (by kernel_rfl)
        simp at s0
        rw [if_pos (by rfl)]
        clear hs hJ
        go_simp
        exact hK _ _ (Below.refl _ _) rfl
      refine grow.EachL.cons ?_ ?_
      · intro A W hB hs hJ K hK
        have s0 : A.tmps.getD 74 undef = .pointer (some ⟨e0.2.1, 0, none⟩) := hJ 11 74 (by kernel_rfl) (by kernel_rfl)
        simp at s0
        rw [if_pos (by rfl)]
        clear hs hJ
        go_simp
        exact hK _ _ (Below.refl _ _) rfl
      refine grow.EachL.cons ?_ ?_
      · intro A W hB hs hJ K hK
        have s0 : A.tmps.getD 75 undef = .pointer (some ⟨e0.2.1, 3, none⟩) := hJ 12 75 (by kernel_rfl) (by kernel_rfl)
        simp at s0
        have kk := upc hB G6.out
        rw [if_pos (by rfl)]
        clear hs hJ
        go_simp
        exact hK _ _ (Below.refl _ _) rfl
      refine grow.EachL.cons ?_ ?_
      · intro A W hB hs hJ K hK
        have s0 : A.tmps.getD 66 undef = .int .i64 (n3 : Nat) := hJ 3 66 (by kernel_rfl) (by kernel_rfl)
        simp at s0
        have s1 : A.tmps.getD 76 undef = .int .i64 (n0 : Nat) := hJ 13 76 (by kernel_rfl) (by kernel_rfl)
        simp at s1
        have hw := hws
        rw [if_pos (by rfl)]
        clear hs hJ
        go_simp
        exact hK _ _ (Below.refl _ _) rfl
      refine grow.EachL.cons ?_ ?_
      · intro A W hB hs hJ K hK
        have s0 : A.tmps.getD 64 undef = .int .i64 (n : Nat) := hJ 1 64 (by kernel_rfl) (by kernel_rfl)
        simp at s0
        have s1 : A.tmps.getD 77 undef = .int .i64 ((n3 : Int) - (n0 : Int)) := hJ 14 77 (by kernel_rfl) (by kernel_rfl)
        simp at s1
        have hw := hwa
        rw [if_pos (by rfl)]
        clear hs hJ
        go_simp
        exact hK _ _ (Below.refl _ _) rfl
      refine grow.EachL.cons ?_ ?_
      · intro A W hB hs hJ K hK
        have s0 := hs 7 (by kernel_rfl)
        simp at s0
        rw [if_pos (by rfl)]
        clear hs hJ
        go_simp
        exact hK _ _ (Below.refl _ _) rfl
      exact grow.EachL.nil
    case fin =>
      intro f W hB hF
      have f0 : f 0 = .pointer (some ⟨w.heap.size, 3, none⟩) := hF 0 (by decide)
      have f1 : f 1 = .int .i64 (n : Nat) := hF 1 (by decide)
      have f2 : f 2 = .pointer p3 := hF 2 (by decide)
      have f3 : f 3 = .int .i64 (n3 : Nat) := hF 3 (by decide)
      have f4 : f 4 = .pointer (some ⟨b, 0, none⟩) := hF 4 (by decide)
      have f5 : f 5 = .pointer (some ⟨b, 0, none⟩) := hF 5 (by decide)
      have f6 : f 6 = .pointer (some ⟨b, 1, none⟩) := hF 6 (by decide)
      have f7 : f 7 = .slice (some ⟨gk, 0, none⟩) nk ck := hF 7 (by decide)
      have f8 : f 8 = .int .i64 (i : Nat) := hF 8 (by decide)
      have f9 : f 9 = .pointer (some ⟨gk, i, none⟩) := hF 9 (by decide)
      have f10 : f 10 = .pointer (some ⟨e0.2.1, 0, none⟩) := hF 10 (by decide)
      have f11 : f 11 = .pointer (some ⟨e0.2.1, 0, none⟩) := hF 11 (by decide)
      have f12 : f 12 = .pointer (some ⟨e0.2.1, 3, none⟩) := hF 12 (by decide)
      have f13 : f 13 = .int .i64 (n0 : Nat) := hF 13 (by decide)
      have f14 : f 14 = .int .i64 ((n3 : Int) - (n0 : Int)) := hF 14 (by decide)
      have f15 : f 15 = .int .i64 ((n : Int) + ((n3 : Int) - (n0 : Int))) := hF 15 (by decide)
      have f16 : f 16 = .pointer (some ⟨w.heap.size, 3, none⟩) := hF 16 (by decide)
      clear hF
      intro A hA
      simp only [grow.puts, Act.put, List.getElem?_toArray, List.getElem?_cons_zero, List.getElem?_cons_succ, Option.bind_some, List.setIfInBounds_toArray, List.set_cons_zero, List.set_cons_succ, f0, f1, f2, f3, f4, f5, f6, f7, f8, f9, f10, f11, f12, f13, f14, f15, f16] at hA
      subst hA
      have hO2 := HO2.out.up hB
      have g3 := node_c3 hO2.blk
      have f3 := node_f (o := 3) hO2.blk
      obtain ⟨n4, hn4⟩ : ∃ q : Nat, (n : Int) + ((n3 : Int) - (n0 : Int)) = (q : Nat) := ⟨n + n3 - n0, by omega⟩
      rw [hn4]
      have hO3 := hO2.set 3 (.int .i64 (n4 : Nat))
      obtain ⟨w3, hw3⟩ : ∃ V, V = W.setCell ⟨w.heap.size, 3, none⟩ (.int .i64 (n4 : Nat)) := ⟨_, rfl⟩
      have hQ4 : HQ (fun x => ((S x ∧ x < w.heap.size) ∨ w1.heap.size ≤ x) ∧ x < w2.heap.size) w3 d p3 L3 := (HQ3.out.1.up hB).frame (fun x hx _ => by rw [hw3]; exact Below.heap_setCell _ _ _ _ (by show x ≠ w.heap.size; rcases hx.1 with h | h; (· have := h.2; omega); (· omega)))
      go_simp
      rw [← hw3] at hO3 ⊢
      have hw23 : w2.heap.size ≤ w3.heap.size := by rw [hw3]; simpa using hB.size
      have HO3 := Lib.hid (And.intro hO3 hQ4)
      clear hO2 g3 f3 hO3 hQ4 hw3 hB HO2 G2 G3 G4 G6 HSz
      have HC := Lib.hid (CloneK 0 nk (.slice (some ⟨gk, 0, none⟩) nk ck) (ks.map ptr) w3 (rowUp HB.out.2.1 HO3.out.1.bel) (ptr_one ks) (by omega))
      have k1 := node_c1 (upb HO3.out.1.bel HB.out.1)
      go_wp2_with fail
      refine HC.out.mono ?_
      rintro e w4 ⟨a4, c4, rfl, ho4, hb4⟩
      obtain ⟨R, hR⟩ : ∃ g, a4 = some ⟨g, 0, none⟩ := by
        rcases ho4.2 with ⟨_, h0⟩ | ⟨g, cap, cur, hv, _⟩
        · omega
        · cases hv; exact ⟨g, rfl⟩
      subst hR
      have hRb := World.ownsRow.lt ho4 R rfl
      have hO4 := HO3.out.1.up hb4
      have hR4 := ownsRow_lower ho4 HO3.out.1.bel.size
      have hO5 := hO4.set 1 (.slice (some ⟨R, 0, none⟩) nk c4)
      have hR5 := rowKeep hR4 (hO4.keep 1 (.slice (some ⟨R, 0, none⟩) nk c4)) (by decide)
      obtain ⟨w5, hw5e⟩ : ∃ V, V = w4.setCell ⟨w.heap.size, 1, none⟩ (.slice (some ⟨R, 0, none⟩) nk c4) := ⟨_, rfl⟩
      rw [← hw5e] at hO5 hR5
      have hRG : ¬ (R = w.heap.size) := by have := HO3.out.1.lt; omega
      have hRG2 : ¬ (w.heap.size = R) := Ne.symm hRG
      have hst := World.ownsRow.stored (h := hR5) i (.pointer p3)
      have hO6 : Out w w.heap.size #[.int .u32 (m : Nat), .slice (some ⟨R, 0, none⟩) nk c4, .slice none 0 0, .int .i64 (n4 : Nat)] (w5.setCell ⟨R, i, none⟩ (.pointer p3)) := ⟨hO5.bel.setCell (p := ⟨R, i, none⟩) (by show w.heap.size ≤ R; have := HO3.out.1.lt; omega) _, Nat.le_refl _, (Below.heap_setCell _ _ _ _ hRG2).trans hO5.blk⟩
      obtain ⟨w6, hw6e⟩ : ∃ V, V = w5.setCell ⟨R, i, none⟩ (.pointer p3) := ⟨_, rfl⟩
      rw [← hw6e] at hO6 hst
      have hQ6 : HQ (fun x => ((S x ∧ x < w.heap.size) ∨ w1.heap.size ≤ x) ∧ x < w2.heap.size) w6 d p3 L3 := (HO3.out.2.up hb4).frame (fun x hx _ => by rw [hw6e, hw5e]; exact (Below.heap_setCell _ _ _ _ (by show x ≠ R; have := hx.2; omega)).trans (Below.heap_setCell _ _ _ _ (by show x ≠ w.heap.size; rcases hx.1 with h | h; (· have := h.2; omega); (· omega))))
      obtain ⟨u0, hu0c⟩ : ∃ x, w4.cell? ⟨R, i, none⟩ = some x := ⟨_, by rw [World.ownsRow.cellAt hR4 i (by omega), List.getElem?_eq_getElem (by rw [List.length_map, HK.out.2.2.2.2.1]; exact hil)]⟩
      have hfz : w4.frozen? ⟨R, i, none⟩ = false := World.ownsRow.frozenAt hR4 i
      have g1 := node_c1 hO4.blk
      have f1 := node_f (o := 1) hO4.blk
      have g0 := node_c0 hO4.blk
      have f0 := node_f (o := 0) hO4.blk
      have g3 := node_c3 hO4.blk
      have HO6 := Lib.hid (And.intro hO6 (And.intro hst.1 hQ6))
      have HW6 := Lib.hid (And.intro hw5e hw6e)
      have hRb1 := hRb.1
      have hRb2 : R < w6.heap.size := by have := World.ownsRow.lt hst.1 R rfl; omega
      clear hO4 hR4 hO5 hR5 hst hO6 hQ6 hw5e hw6e ho4 hb4 HC HO3 k1 hRb
      obtain ⟨fm, hfm⟩ : ∃ q : List Kid → List Kid, q = fun mid2 => pre ++ mid2 ++ post := ⟨_, rfl⟩
      have HD : Hid (∀ mid2, At (wy u) y mid2 → flat mid2 = L3 → (flat (pre ++ mid2 ++ post)).length = n4 ∧ DropOf L k (flat (pre ++ mid2 ++ post)) ∧ Dis (flat (pre ++ mid2 ++ post))) := by
        refine Lib.hid fun mid2 hat hf => ?_
        obtain ⟨hks, hm, hs, hLf, hnk, hln⟩ := HK.out
        obtain ⟨hi, hy, hyl, hz, hu5⟩ := HI.out
        have hmd := HM.out
        subst hmd
        have hl : (flat (pre ++ mid2 ++ post)).length = n4 := by have h1 := hln; rw [hLf, hs.eq, flat_len, flat_one, HEL.out.2.2.1] at h1; rw [flat_len, hf, HN3.out]; omega
        refine ⟨hl, ⟨?_, by rw [hl, hln]; omega⟩, (hs.put hks hyl hat).1.flat_dis⟩
        rw [hLf]
        refine hs.put_lk hks hyl hat hy.symm fun j _ => ?_
        rw [hf, flat_one]
        exact HQ3.out.2.1.1 j
      clear hfm fm
      cases p3 with
      | some ad =>
        obtain ⟨b3, hb3⟩ : ∃ b3, some ad = some (⟨b3, 0, none⟩ : Addr) ∧ HN (fun x => ((S x ∧ x < w.heap.size) ∨ w1.heap.size ≤ x) ∧ x < w2.heap.size) w6 d b3 L3 := by
          rcases HO6.out.2.2 with ⟨h, _⟩ | h
          · cases h
          · exact h
        obtain ⟨hb3e, hb3n⟩ := hb3
        cases hb3e
        have hL3n := hb3n.ne
        have HF : Hid (RetDrop S (d + 1) L k w (.returned (.pointer (some ⟨w.heap.size, 0, none⟩))) w6 ∧ ¬ (n4 = 0)) := by
          obtain ⟨hks, hm, hs, hLf, hnk, hln⟩ := HK.out
          obtain ⟨hi, hy, hyl, hz, hu5⟩ := HI.out
          have hmd := HM.out
          subst hmd
          have he0w : e0.1 = y := hs.here e0 (by simp)
          have he0r := hks.route e0 HE.out
          have hat : At (wy u) y [(y, b3, L3)] := At.single (fun p hp => by obtain ⟨q, hq, e⟩ := HQ3.out.2.1.mem HQ3.out.2.2 hp; rw [← e, he0r q hq]; exact he0w) hL3n HQ3.out.2.2
          obtain ⟨hl, hdo, hdd⟩ := HD.out _ hat (flat_one _)
          have hm2 : MaskOf m (pre ++ [(y, b3, L3)] ++ post) := hm.same hs.eq he0w rfl
          have hlen : (pre ++ [(y, b3, L3)] ++ post).length = nk := by rw [← hnk, hs.eq]; simp
          have hrow : (ks.map ptr).set i (.pointer (some ⟨b3, 0, none⟩)) = (pre ++ [(y, b3, L3)] ++ post).map ptr := by rw [hs.eq, ← hi]; exact map_set pre post e0 (y, b3, L3)
          have hO7 := HO6.out.1
          have hR7 := HO6.out.2.1
          rw [hrow] at hR7
          rw [← hlen] at hR7 hO7
          have hnode := node_new (S := S) (S' := fun x => S x ∨ w.heap.size ≤ x) (d := d) (n' := n4) hu5 hks hs hyl hat hm2 (by simp) hl hO7 hR7 (fun x hx => hx) HB.out.2.2.2 (fun e he => by obtain rfl := List.mem_singleton.1 he; exact hb3n.mono fun x hx => hx.1.imp And.left (fun h => by omega))
          refine Lib.hid ⟨⟨_, _, rfl, .inr ⟨_, rfl, hnode⟩, hdo, hdd, hO7.bel⟩, fun e => ?_⟩
          rw [e] at hl
          exact hnode.ne (List.eq_nil_of_length_eq_zero hl)
        have hz : ¬ ((n4 : Int) = 0) := by have := HF.out.2; omega
        clear hb3n hL3n HD HO6
        go_wp2_with fail
        go_ret
        rw [← HW6.out.1, ← HW6.out.2]
        exact HF.out.1
      | none =>
        have hL3 : L3 = [] := by
          rcases HO6.out.2.2 with ⟨_, h⟩ | ⟨b3, h, _⟩
          · exact h
          · cases h
        have hwi : IntKind.i64.wrap ((i : Int) + 1) = (i : Int) + 1 := IntWalk.i64_in _ (by omega)
        have hone : ∀ u ∈ (ks.map ptr).set i (.pointer none), u.oneCell' = true := fun u hu => by
          rcases List.mem_or_eq_of_mem_set hu with h | h
          · exact ptr_one ks u h
          · rw [h]; rfl
        have HDl := Lib.hid (DeleteK w.heap.size nk i (i + 1) R c4 ((ks.map ptr).set i (.pointer none)) w6 HO6.out.2.1 hone (by omega) hil rfl)
        clear hone
        go_wp2_with fail
        rw [← HW6.out.1, ← HW6.out.2]
        refine HDl.out.mono ?_
        rintro e w7 ⟨rfl, ho7, hg7⟩
        have hO7 := HO6.out.1.grown HO6.out.2.1 (by decide) hg7
        have hO8 := hO7.set 1 (.slice (some ⟨R, 0, none⟩) (nk - 1) c4)
        have hR8 := rowKeep ho7 (hO7.keep 1 (.slice (some ⟨R, 0, none⟩) (nk - 1) c4)) (by decide)
        have han := u32_andNot_nat m z HK.out.2.1.lt (by omega)
        obtain ⟨m', hm'⟩ : ∃ q, q = m &&& (4294967295 - z) := ⟨_, rfl⟩
        rw [← hm'] at han
        have hO9 := hO8.set 0 (.int .u32 (m' : Nat))
        have hR9 := rowKeep hR8 (hO8.keep 0 (.int .u32 (m' : Nat))) (by decide)
        obtain ⟨nk1, hnk1⟩ : ∃ q, q = nk - 1 := ⟨_, rfl⟩
        rw [← hnk1] at hO9 hR9 ⊢
        obtain ⟨W9, hW9⟩ : ∃ W, W = (w7.setCell ⟨w.heap.size, 1, none⟩ (.slice (some ⟨R, 0, none⟩) nk1 c4)).setCell ⟨w.heap.size, 0, none⟩ (.int .u32 (m' : Nat)) := ⟨_, rfl⟩
        rw [← hW9] at hO9 hR9
        have h1 := node_c1 hO7.blk
        have h0 := node_c0 hO7.blk
        have h3 := node_c3 hO7.blk
        have e1 := node_f (o := 1) hO7.blk
        have e0f := node_f (o := 0) hO7.blk
        have HF : Hid ((n4 = 0 → RetDrop S (d + 1) L k w (.returned (.pointer none)) W9) ∧ (¬ (n4 = 0) → RetDrop S (d + 1) L k w (.returned (.pointer (some ⟨w.heap.size, 0, none⟩))) W9)) := by
          obtain ⟨hks, hm, hs, hLf, hnk, hln⟩ := HK.out
          obtain ⟨hi, hy, hyl, hz, hu5⟩ := HI.out
          have hmd := HM.out
          subst hmd
          have hat : At (wy u) y [] := At.none _ _
          obtain ⟨hl, hdo, hdd⟩ := HD.out [] hat (by rw [hL3]; rfl)
          have hm2 := mask_not hyl hm hs
          rw [← hz, ← hm'] at hm2
          have hlen : (pre ++ [] ++ post).length = nk1 := by have h := congrArg List.length hs.eq; rw [hnk] at h; simp only [List.length_append, List.length_singleton, List.length_nil] at h ⊢; omega
          have hrow : ((ks.map ptr).set i (.pointer none)).take (i * 1) ++ ((ks.map ptr).set i (.pointer none)).drop ((i + 1) * 1) = (pre ++ [] ++ post).map ptr := by
            rw [Nat.mul_one, Nat.mul_one, List.take_set_of_le (Nat.le_refl _), List.drop_set_of_lt (by omega), hs.eq, ← hi]
            exact map_del pre post e0
          rw [hrow] at hR9
          rw [← hlen] at hR9 hO9
          refine Lib.hid ⟨fun e => ⟨none, _, rfl, .inl ⟨rfl, List.eq_nil_of_length_eq_zero (by rw [hl]; exact e)⟩, hdo, hdd, hO9.bel⟩, fun e => ⟨_, _, rfl, .inr ⟨_, rfl, node_new (S := S) (S' := fun x => S x ∨ w.heap.size ≤ x) (d := d) (n' := n4) hu5 hks hs hyl hat hm2 (fun e2 => ?_) hl hO9 hR9 (fun x hx => hx) HB.out.2.2.2 (fun e he => by cases he)⟩, hdo, hdd, hO9.bel⟩⟩
          rw [e2] at hl
          exact e hl.symm
        clear hO7 hO8 hO9 hR8 hR9 ho7 hg7 HD HO6 hm' g0 g1 g3 f0 f1 hu0c hfz HDl hL3
        by_cases hn4z : n4 = 0
        · have hz : (n4 : Int) = 0 := by omega
          go_wp2_with fail
          go_ret
          have hF := HF.out.1 hn4z
          rw [hW9, hnk1] at hF
          exact hF
        · have hz : ¬ ((n4 : Int) = 0) := by omega
          go_wp2_with fail
          go_ret
          have hF := HF.out.2 hn4z
          rw [hW9, hnk1] at hF
          exact hF

theorem drop_any (k : Int) : ∀ (d u : Nat) (S : Nat → Prop) (b : Nat) (L : PL) (w : World), u + 5 * d = 35 → HN S w d b L → L.length ≤ 8796093022000 →
    Calls Try.prog 40 #[.pointer (some ⟨b, 0, none⟩), .int .i64 k, .int .i64 (u : Nat)] w (RetDrop S d L k w)
  | 0, u, S, b, L, w, hu, h, hn => by
    obtain rfl : u = 35 := by omega
    exact drop_bot S b L k w h hn
  | d + 1, u, S, b, L, w, hu, h, hn => drop_node S d u b L k w hu h hn fun T b L W h hn => by
      have h := drop_any k d (u + 5) T b L W (by omega) h hn
      exact h
end Go.Proofs.Ytenaddjnaeebbaa.hamt
