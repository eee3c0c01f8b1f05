/- slices.breakPatternsOrdered over bytes. (Printed by sk.py.) -/
import Derived.Test.YteglhcpochcopaaSrtX
namespace Go.Proofs.Yteglhcpochcopaa.srt
open Go.RowKit
open Go.Sort (PermIn)

theorem wi {x : Int} {y : Nat} (h : x = (y : Int)) (hy : y ≤ 1125899906842624) : IntKind.i64.wrap x = (y : Int) := by subst h; exact IntWalk.i64_in _ (by omega)
theorem wi64 {x : Int} {y : Nat} (h : x = (y : Int)) (hy : y ≤ 1125899906842624) : wrap64 x = (y : Int) := by subst h; unfold wrap64; omega
theorem wu {x : Int} {y : Nat} (h : x = (y : Int)) (hy : y ≤ 1125899906842624) : IntKind.u64.wrap x = (y : Int) := by subst h; rw [IntKind.wrap_u64]; omega
theorem Rw.on {R b : Nat} {w w' : World} {d : Array Nat} (h : Rw w b d) (hb : b ≠ R) (ho : On R w w') : Rw w' b d := by
  have e := ho.block b h.lt hb
  refine ⟨Nat.lt_of_lt_of_le h.lt ho.size, fun i hi => ?_, fun i => ?_⟩
  · have := h.c i hi
    unfold World.cell? at this ⊢
    rw [e]
    exact this
  · have := h.f i
    unfold World.frozen? at this ⊢
    rw [e]
    exact this
theorem On.own {b R : Nat} {w w1 w2 : World} (h : On b w w1) (hR : w.heap.size ≤ R) (h' : On R w1 w2) : On b w w2 :=
  ⟨h'.os.trans h.os, h'.tape.trans h.tape, h'.output.trans h.output, Nat.le_trans h.size h'.size, fun k hk hp => (h'.block k (Nat.lt_of_lt_of_le hk h.size) (by omega)).trans (h.block k hk hp)⟩
theorem Box.on {b R : Nat} {w w' : World} {x : Int} (h : Box w R x) (hb : R ≠ b) (ho : On b w w') : Box w' R x := (ho.block R (Array.getElem?_eq_some_iff.1 h).1 hb).trans h
/-- while patterns are broken -/
structure Brk (w : World) (b n a e R : Nat) (d d' : Array Nat) (wr : World) : Prop where
  box : ∃ x, Box wr R x
  rw' : Rw wr b d'
  n : d'.size = n
  p : PermIn a e d d'
  on : On b w wr

set_option maxRecDepth 100000 in
set_option maxHeartbeats 8000000 in
theorem break_any (w : World) (b n c a e : Nat) (d : Array Nat) (h : Rw w b d) (hn : d.size = n) (hb : n ≤ 1099511627776) (hae : a + 8 ≤ e) (he : e ≤ n) :
    Calls Try.prog 40 #[.slice (some ⟨b, 0, none⟩) n c, .int .i64 (a : Nat), .int .i64 (e : Nat)] w (Per w b a e d) := by
  obtain ⟨l, hl⟩ : ∃ l, l = e - a := ⟨_, rfl⟩
  obtain ⟨q, hq⟩ : ∃ q, q = l / 4 := ⟨_, rfl⟩
  obtain ⟨q2, hq2⟩ : ∃ q2, q2 = q * 2 := ⟨_, rfl⟩
  obtain ⟨Z, hZ⟩ : ∃ Z, Z = a + q2 := ⟨_, rfl⟩
  obtain ⟨Z0, hZ0⟩ : ∃ Z0, Z0 = Z - 1 := ⟨_, rfl⟩
  obtain ⟨Z1, hZ1⟩ : ∃ Z1, Z1 = Z + 1 := ⟨_, rfl⟩
  have Hw1 : Hid (IntKind.i64.wrap ((e : Int) - (a : Int)) = (l : Int)) := Lib.hid (wi (by omega) (by omega))
  have Hw2 : Hid (IntKind.u64.wrap (l : Int) = (l : Int)) := Lib.hid (wu rfl (by omega))
  have Hw3 : Hid (wrap64 ((l : Int) / 4) = (q : Int)) := Lib.hid (wi64 (by omega) (by omega))
  have Hw4 : Hid (IntKind.i64.wrap ((q : Int) * 2) = (q2 : Int)) := Lib.hid (wi (by omega) (by omega))
  have Hw5 : Hid (IntKind.i64.wrap ((a : Int) + (q2 : Int)) = (Z : Int)) := Lib.hid (wi (by omega) (by omega))
  have Hw6 : Hid (IntKind.i64.wrap ((Z : Int) - 1) = (Z0 : Int)) := Lib.hid (wi (by omega) (by omega))
  have Hw7 : Hid (IntKind.i64.wrap ((Z : Int) + 1) = (Z1 : Int)) := Lib.hid (wi (by omega) (by omega))
  obtain ⟨M, hM⟩ : ∃ M, M = 2 ^ Lib.bitLen l := ⟨_, rfl⟩
  have hM2 := pow_len l (by omega) (by omega)
  rw [← hM] at hM2
  obtain ⟨m, hm⟩ : ∃ m, m = M - 1 := ⟨_, rfl⟩
  have Hw8 : Hid (IntKind.u64.wrap ((M : Int) - 1) = (m : Int)) := Lib.hid (wu (by omega) (by omega))
  have HPw := Lib.hid (fun W => power_any l W (by omega) (by omega))
  rw [← hM] at HPw
  have l8 : (8 : Int) ≤ (l : Int) := by omega
  have hbR : b < w.heap.size := h.lt
  have hBk := heap_alloc_new w (.cells #[.int .u64 (l : Int)] 80)
  have hbel := belowAlloc w (.cells #[.int .u64 (l : Int)] 80)
  have HI : Hid (Brk w b n a e w.heap.size d d (w.alloc (.cells #[.int .u64 (l : Int)] 80))) := Lib.hid ⟨⟨_, hBk⟩, h.up hbel, hn, Go.Sort.permIn_refl d a e, .below hbel⟩
  have HX := Lib.hid (And.intro hl (And.intro hq (And.intro hq2 (And.intro hZ (And.intro hZ0 (And.intro hZ1 (And.intro hM2 hm)))))))
  clear h hn hl hq hq2 hZ hZ0 hZ1 hM hM2 hm hBk hbel
  have w1 := Hw1.out
  have w2 := Hw2.out
  have w3 := Hw3.out
  have w4 := Hw4.out
  have w5 := Hw5.out
  have w6 := Hw6.out
  have w7 := Hw7.out
  have w8 := Hw8.out
  clear Hw1 Hw2 Hw3 Hw4 Hw5 Hw6 Hw7 Hw8
  go_enter Try.func40, Try.ntmps40
  go_wp2_with fail
  refine (HPw.out _).mono ?_
  rintro e2 w2 ⟨rfl, rfl⟩
  clear HPw
  go_wp2_with fail
  obtain ⟨R, hR⟩ : ∃ R, R = w.heap.size := ⟨_, rfl⟩
  rw [← hR] at HI ⊢
  have HR := Lib.hid hR
  clear hR
  have HWs := Lib.hid (And.intro w3 (And.intro w4 (And.intro w5 (And.intro w6 (And.intro w7 w8)))))
  clear w1 w2 w3 w4 w5 w6 w7 w8
  go_loopw [9] (fun iv wr => ∃ (i : Nat) (d' : Array Nat), iv = .int .i64 (i : Nat) ∧ Z0 ≤ i ∧ i ≤ Z1 + 1 ∧ Hid (Brk w b n a e R d d' wr)) (fun iv _ => Z1 + 2 - (intOf iv).toNat)
  case atStart => exact ⟨Z0, d, rfl, Nat.le_refl _, by have := HX.out; omega, HI⟩
  case round =>
    obtain ⟨i, d', rfl, hi0, hi1, HS⟩ := hrel
    clear HI
    by_cases hi : i ≤ Z1
    · have hle : (i : Int) ≤ (Z1 : Int) := by omega
      obtain ⟨x, hbx⟩ := HS.out.box
      have HNx := Lib.hid (next_any wr R x hbx)
      clear hbx
      obtain ⟨w3, w4, w5, w6, w7, w8⟩ := HWs.out
      go_wp2_with fail
      refine HNx.out.mono ?_
      rintro e2 w2 ⟨y, rfl, on2, bx2⟩
      clear w3 w4 w5 w6 w7 w8
      have hbR' : b ≠ R := by have := HR.out; omega
      have hrw2 := HS.out.rw'.on hbR' on2
      have HS2 : Hid (Brk w b n a e R d d' w2) := Lib.hid ⟨⟨_, bx2⟩, hrw2, HS.out.n, HS.out.p, HS.out.on.own (by have := HR.out; omega) on2⟩
      clear on2 bx2 hrw2 HS HNx
      obtain ⟨p, hp, hpm⟩ := u64_and_any y m (by have := HX.out; omega)
      have wp : IntKind.i64.wrap (p : Int) = (p : Int) := IntWalk.i64_in _ (by have := HX.out; omega)
      obtain ⟨o, ho⟩ : ∃ o, o = if l ≤ p then p - l else p := ⟨_, rfl⟩
      have hol : o < l := by have := HX.out; rw [ho]; split <;> omega
      by_cases hpl : l ≤ p
      · have hge : (l : Int) ≤ (p : Int) := by omega
        have wo : IntKind.i64.wrap ((p : Int) - (l : Int)) = (o : Int) := by have e := ho; rw [if_pos hpl] at e; have := HX.out; exact wi (by omega) (by omega)
        obtain ⟨f1, hf1⟩ : ∃ c, c = a + o := ⟨_, rfl⟩
        have wf1 : IntKind.i64.wrap ((a : Int) + (o : Int)) = (f1 : Int) := by have := HX.out; exact wi (by omega) (by omega)
        have i0 : (0 : Int) ≤ (i : Int) := by omega
        have i1 : (i : Int) < (n : Int) := by have := HX.out; omega
        have g0 : (0 : Int) ≤ (f1 : Int) := by omega
        have g1 : (f1 : Int) < (n : Int) := by have := HX.out; omega
        obtain ⟨x1, hx1⟩ : ∃ x, x = d'[i]! := ⟨_, rfl⟩
        obtain ⟨y1, hy1⟩ : ∃ x, x = d'[f1]! := ⟨_, rfl⟩
        have k1 := HS2.out.rw'.c i (by rw [HS2.out.n]; omega)
        have k2 := HS2.out.rw'.c f1 (by rw [HS2.out.n]; omega)
        rw [← hx1] at k1
        rw [← hy1] at k2
        have fj := HS2.out.rw'.f i
        have fk := HS2.out.rw'.f f1
        have fk' := (frozenSet w2 b i f1 (nv y1)).trans fk
        obtain ⟨zz, kz⟩ := HS2.out.rw'.mid (i := i) (j := f1) (by rw [HS2.out.n]; omega) (nv y1)
        have HN : Hid (Brk w b n a e R d (Go.Sort.swp d' i f1) ((w2.setCell ⟨b, i, none⟩ (nv y1)).setCell ⟨b, f1, none⟩ (nv x1)).drew) := Lib.hid (by
          obtain ⟨x5, b5⟩ := HS2.out.box
          rw [hx1, hy1]
          exact ⟨⟨x5, b5.on (Ne.symm hbR') (On.swp b w2 i f1 _ _)⟩, HS2.out.rw'.swp (by rw [HS2.out.n]; omega) (by rw [HS2.out.n]; omega), by rw [Go.Sort.swp_size]; exact HS2.out.n, Go.Sort.permIn_trans _ _ _ a e HS2.out.p (Go.Sort.swp_permIn _ a e i f1 (by have := HX.out; omega) (by have := HX.out; omega) (by have := HX.out; omega) (by have := HX.out; omega) (by rw [HS2.out.n]; exact he)), HS2.out.on.trans (On.swp ..)⟩)
        have HO := Lib.hid ho
        clear HS2 hx1 hy1 hf1 ho
        have w8 := HWs.out.2.2.2.2.2
        go_wp2_with fail
        clear w8
        go_region
        have w9 : IntKind.i64.wrap ((i : Int) + 1) = (i : Int) + 1 := IntWalk.i64_in _ (by have := HX.out; omega)
        go_wp2_with fail
        go_roundw
        case rel => exact ⟨i + 1, _, by go_num, by omega, by omega, HN⟩
        case measure => simp [intOf]; omega
      · have hge : ¬ ((l : Int) ≤ (p : Int)) := by omega
        obtain rfl : o = p := by rw [ho, if_neg hpl]
        obtain ⟨f1, hf1⟩ : ∃ c, c = a + o := ⟨_, rfl⟩
        have wf1 : IntKind.i64.wrap ((a : Int) + (o : Int)) = (f1 : Int) := by have := HX.out; exact wi (by omega) (by omega)
        have i0 : (0 : Int) ≤ (i : Int) := by omega
        have i1 : (i : Int) < (n : Int) := by have := HX.out; omega
        have g0 : (0 : Int) ≤ (f1 : Int) := by omega
        have g1 : (f1 : Int) < (n : Int) := by have := HX.out; omega
        obtain ⟨x1, hx1⟩ : ∃ x, x = d'[i]! := ⟨_, rfl⟩
        obtain ⟨y1, hy1⟩ : ∃ x, x = d'[f1]! := ⟨_, rfl⟩
        have k1 := HS2.out.rw'.c i (by rw [HS2.out.n]; omega)
        have k2 := HS2.out.rw'.c f1 (by rw [HS2.out.n]; omega)
        rw [← hx1] at k1
        rw [← hy1] at k2
        have fj := HS2.out.rw'.f i
        have fk := HS2.out.rw'.f f1
        have fk' := (frozenSet w2 b i f1 (nv y1)).trans fk
        obtain ⟨zz, kz⟩ := HS2.out.rw'.mid (i := i) (j := f1) (by rw [HS2.out.n]; omega) (nv y1)
        have HN : Hid (Brk w b n a e R d (Go.Sort.swp d' i f1) ((w2.setCell ⟨b, i, none⟩ (nv y1)).setCell ⟨b, f1, none⟩ (nv x1)).drew) := Lib.hid (by
          obtain ⟨x5, b5⟩ := HS2.out.box
          rw [hx1, hy1]
          exact ⟨⟨x5, b5.on (Ne.symm hbR') (On.swp b w2 i f1 _ _)⟩, HS2.out.rw'.swp (by rw [HS2.out.n]; omega) (by rw [HS2.out.n]; omega), by rw [Go.Sort.swp_size]; exact HS2.out.n, Go.Sort.permIn_trans _ _ _ a e HS2.out.p (Go.Sort.swp_permIn _ a e i f1 (by have := HX.out; omega) (by have := HX.out; omega) (by have := HX.out; omega) (by have := HX.out; omega) (by rw [HS2.out.n]; exact he)), HS2.out.on.trans (On.swp ..)⟩)
        have HO := Lib.hid ho
        clear HS2 hx1 hy1 hf1 ho
        have w8 := HWs.out.2.2.2.2.2
        go_wp2_with fail
        clear w8
        go_region
        have w9 : IntKind.i64.wrap ((i : Int) + 1) = (i : Int) + 1 := IntWalk.i64_in _ (by have := HX.out; omega)
        go_wp2_with fail
        go_roundw
        case rel => exact ⟨i + 1, _, by go_num, by omega, by omega, HN⟩
        case measure => simp [intOf]; omega
    · have hle : ¬ ((i : Int) ≤ (Z1 : Int)) := by omega
      obtain ⟨w3, w4, w5, w6, w7, w8⟩ := HWs.out
      go_wp2_with fail
      go_end0
      exact ⟨d', rfl, HS.out.p, HS.out.on, HS.out.rw'⟩
end Go.Proofs.Yteglhcpochcopaa.srt
