/- slices.partitionEqualOrdered over bytes. (Printed by st2.py.) -/
import Derived.Test.YteglhcpochcopaaSrtT
namespace Go.Proofs.Yteglhcpochcopaa.srt
open Go.RowKit

abbrev EUp (d : Array Nat) (a : Nat) (x : Nat) : Bool := !lt d[a]! x
abbrev EDn (d : Array Nat) (a : Nat) (x : Nat) : Bool := lt d[a]! x
/-- while it is parted: what is left to be made -/
structure Pe (w : World) (b n a e i j : Nat) (d : Array Nat) (PL : Nat × Array Nat) (wr : World) : Prop where
  on : On b w wr
  rw' : Rw wr b d
  n : d.size = n
  eq : Go.Sort.partEqLoop lt a i j d = PL
  ai : a < i
  ij : i ≤ j + 1
  je : j < e
theorem Pe.up {w : World} {b n a e i j : Nat} {d : Array Nat} {PL : Nat × Array Nat} {wr wq : World} (h : Pe w b n a e i j d PL wr) (hb : Below wr.heap.size wr wq) : Pe w b n a e i j d PL wq := ⟨h.on.trans (.below hb), h.rw'.up hb, h.n, h.eq, h.ai, h.ij, h.je⟩
theorem Pe.brk {w : World} {b n a e i j u v : Nat} {d : Array Nat} {PL : Nat × Array Nat} {wr : World} (h : Pe w b n a e i j d PL wr) (hu : Go.Sort.scanUp (EUp d a) d j i = u) (hv : Go.Sort.scanDown (EDn d a) d u j = v) (huv : v < u) : PL = (u, d) := by
  have e := h.eq
  rw [Go.Sort.partEqLoop_eq] at e
  replace hu : Go.Sort.scanUp (fun x => !lt d[a]! x) d j i = u := hu
  replace hv : Go.Sort.scanDown (fun x => lt d[a]! x) d u j = v := hv
  rw [hu, hv, if_pos huv] at e
  exact e.symm
theorem Pe.go {w : World} {b n a e i j u v : Nat} {d : Array Nat} {PL : Nat × Array Nat} {wr : World} (h : Pe w b n a e i j d PL wr) (he : e ≤ n) (hiu : i ≤ u) (hvj : v ≤ j) (hu : Go.Sort.scanUp (EUp d a) d j i = u) (hv : Go.Sort.scanDown (EDn d a) d u j = v) (huv : u < v) :
    Pe w b n a e (u + 1) (v - 1) (Go.Sort.swp d u v) PL (((wr.setCell ⟨b, u, none⟩ (nv d[v]!)).setCell ⟨b, v, none⟩ (nv d[u]!)).drew) := by
  have e := h.eq
  rw [Go.Sort.partEqLoop_eq] at e
  replace hu : Go.Sort.scanUp (fun x => !lt d[a]! x) d j i = u := hu
  replace hv : Go.Sort.scanDown (fun x => lt d[a]! x) d u j = v := hv
  rw [hu, hv, if_neg (by omega)] at e
  have := h.ai
  have := h.je
  have := h.n
  exact ⟨h.on.trans (On.swp b wr u v _ _), h.rw'.swp (by omega) (by omega), by rw [Go.Sort.swp_size]; exact h.n, e, by omega, by omega, by omega⟩

set_option maxRecDepth 100000 in
set_option maxHeartbeats 16000000 in
theorem equal_any (w : World) (b n c a e p : Nat) (d : Array Nat) (h : Rw w b d) (hn : d.size = n) (hb : n ≤ 1099511627776) (_hap : a ≤ p) (hpe : p < e) (hae : a + 1 < e) (he : e ≤ n) (PL : Nat × Array Nat) (hPL : Go.Sort.partEqLoop lt a (a + 1) (e - 1) (Go.Sort.swp d a p) = PL) :
    Calls Try.prog 45 #[.slice (some ⟨b, 0, none⟩) n c, .int .i64 (a : Nat), .int .i64 (e : Nat), .int .i64 (p : Nat)] w fun en w' =>
      en = .returned (.int .i64 (PL.1 : Nat)) ∧ On b w w' ∧ Rw w' b PL.2 := by
  obtain ⟨i, hi⟩ : ∃ i, i = a + 1 := ⟨_, rfl⟩
  obtain ⟨j, hj⟩ : ∃ j, j = e - 1 := ⟨_, rfl⟩
  rw [← hi, ← hj] at hPL
  have w1 : IntKind.i64.wrap ((a : Int) + 1) = (i : Int) := wi (by omega) (by omega)
  have w2 : IntKind.i64.wrap ((e : Int) - 1) = (j : Int) := wi (by omega) (by omega)
  obtain ⟨xa, hxa⟩ : ∃ x, x = d[a]! := ⟨_, rfl⟩
  obtain ⟨ya, hya⟩ : ∃ x, x = d[p]! := ⟨_, rfl⟩
  have ka := h.c a (by omega)
  have kb := h.c p (by omega)
  rw [← hxa] at ka
  rw [← hya] at kb
  have fa := h.f a
  have fb := h.f p
  have fb' := (frozenSet w b a p (nv ya)).trans fb
  obtain ⟨zz, kz⟩ := h.mid (i := a) (j := p) (by omega) (nv ya)
  have s0 : (0 : Int) ≤ (a : Int) := by omega
  have s1 : (a : Int) < (n : Int) := by omega
  have s2 : (0 : Int) ≤ (p : Int) := by omega
  have s3 : (p : Int) < (n : Int) := by omega
  obtain ⟨W1, hW1⟩ : ∃ V, V = ((w.setCell ⟨b, a, none⟩ (nv ya)).setCell ⟨b, p, none⟩ (nv xa)).drew := ⟨_, rfl⟩
  obtain ⟨d1, hd1⟩ : ∃ d1, d1 = Go.Sort.swp d a p := ⟨_, rfl⟩
  rw [← hd1] at hPL
  have HS : Hid (Pe w b n a e i j d1 PL W1) := Lib.hid (by
    rw [hW1, hxa, hya, hd1]
    exact ⟨On.swp b w a p _ _, h.swp (by omega) (by omega), by rw [Go.Sort.swp_size]; exact hn, hd1 ▸ hPL, by omega, by omega, by omega⟩)
  have HW1 := Lib.hid hW1
  have bai : a < i := by omega
  have bij : i ≤ j + 1 := by omega
  have bje : j < e := by omega
  clear h hn hxa hya hW1 hd1 hi hj hPL
  go_enter Try.func45, Try.ntmps45
  go_wp2_with fail
  go_region
  go_wp2_with fail
  rw [← HW1.out]
  clear HW1 ka kb fa fb fb' kz s0 s1 s2 s3 w1 w2
  have HS0 := HS
  clear HS
  go_loopw [9, 10] (fun iv jv wq => ∃ (i j : Nat) (d1 : Array Nat), iv = .int .i64 (i : Nat) ∧ jv = .int .i64 (j : Nat) ∧ a < i ∧ i ≤ j + 1 ∧ j < e ∧ Hid (Pe w b n a e i j d1 PL wq)) (fun iv jv _ => (intOf jv).toNat + 1 - (intOf iv).toNat)
  case atStart => exact ⟨i, j, d1, rfl, rfl, bai, bij, bje, HS0⟩
  case round =>
    obtain ⟨i, j, d1, rfl, rfl, bai, bij, bje, HS⟩ := hrel
    clear HS0
    go_wp2_with fail
    go_loopw [9] (fun iv wq => ∃ u : Nat, iv = .int .i64 (u : Nat) ∧ i ≤ u ∧ u ≤ j + 1 ∧ Hid (Pe w b n a e i j d1 PL wq) ∧ Hid (Go.Sort.scanUp (EUp d1 a) d1 j u = Go.Sort.scanUp (EUp d1 a) d1 j i)) (fun iv _ => j + 2 - (intOf iv).toNat)
    case atStart => exact ⟨i, rfl, Nat.le_refl _, bij, HS, Lib.hid rfl⟩
    case round =>
      obtain ⟨u, rfl, hiu, huj, HQ, HU⟩ := hrel
      clear HS
      by_cases hle : u ≤ j
      · have hlei : (u : Int) ≤ (j : Int) := by omega
        have kk1 := HQ.out.rw'.c u (by rw [HQ.out.n]; omega)
        have kk2 := HQ.out.rw'.c a (by rw [HQ.out.n]; omega)
        have i0 : (0 : Int) ≤ (u : Int) := by omega
        have i1 : (u : Int) < (n : Int) := by omega
        have a0 : (0 : Int) ≤ (a : Int) := by omega
        have a1 : (a : Int) < (n : Int) := by omega
        obtain ⟨x, hx⟩ : ∃ x, x = d1[u]! := ⟨_, rfl⟩
        obtain ⟨y, hy⟩ : ∃ x, x = d1[a]! := ⟨_, rfl⟩
        rw [← hx] at kk1
        rw [← hy] at kk2
        have HL := Lib.hid (fun W => Less_any y x W)
        cases hc : lt y x with
        | false =>
          rw [hc] at HL
          have HN : Hid (Go.Sort.scanUp (EUp d1 a) d1 j (u + 1) = Go.Sort.scanUp (EUp d1 a) d1 j i) := Lib.hid (by rw [← scanUp_go hle (by show EUp d1 a _ = true; simp only [EUp]; rw [← hx, ← hy, hc]; rfl)]; exact HU.out)
          have hw1 : IntKind.i64.wrap ((u : Int) + 1) = (u : Int) + 1 := IntWalk.i64_in _ (by omega)
          clear hx hy hc
          go_wp2_with fail
          go_quiet ((go_at_call 44; exact quietOf (HL.out _)))
          have HV : Hid (Pe w b n a e i j d1 PL (wr.drewN nq)) := Lib.hid (HQ.out.up (belowDrewN _ _))
          go_wp2_with fail
          go_roundw
          case rel => exact ⟨u + 1, by go_num, by omega, by omega, HV, HN⟩
          case measure => simp [intOf]; omega
        | true =>
          rw [hc] at HL
          have HU2 : Hid (Go.Sort.scanUp (EUp d1 a) d1 j i = u) := Lib.hid (by rw [← HU.out]; exact scanUp_stop (.inr (by show EUp d1 a _ = false; simp only [EUp]; rw [← hx, ← hy, hc]; rfl)))
          clear hx hy hc HU
          go_wp2_with fail
          go_quiet ((go_at_call 44; exact quietOf (HL.out _)))
          obtain ⟨U1, hU1⟩ : ∃ V, V = wr.drewN nq := ⟨_, rfl⟩
          have HU1 : Hid (Pe w b n a e i j d1 PL U1) := Lib.hid (by rw [hU1]; exact (HQ.out).up (belowDrewN _ _))
          rw [← hU1]
          clear hU1
          clear HQ HL kk1 kk2
          go_wp2_with fail
          go_loopw [10] (fun jv wq => ∃ v : Nat, jv = .int .i64 (v : Nat) ∧ v ≤ j ∧ u ≤ v + 1 ∧ Hid (Pe w b n a e i j d1 PL wq) ∧ Hid (Go.Sort.scanDown (EDn d1 a) d1 u v = Go.Sort.scanDown (EDn d1 a) d1 u j)) (fun jv _ => (intOf jv).toNat)
          case atStart => exact ⟨j, rfl, Nat.le_refl _, by omega, HU1, Lib.hid rfl⟩
          case round =>
            obtain ⟨v, rfl, hvj, huv1, HQ, HV⟩ := hrel
            clear HU1 hlei
            by_cases hlv : u ≤ v
            · have hlvi : (u : Int) ≤ (v : Int) := by omega
              have kk1 := HQ.out.rw'.c v (by rw [HQ.out.n]; omega)
              have kk2 := HQ.out.rw'.c a (by rw [HQ.out.n]; omega)
              have i0 : (0 : Int) ≤ (v : Int) := by omega
              have i1 : (v : Int) < (n : Int) := by omega
              have a0 : (0 : Int) ≤ (a : Int) := by omega
              have a1 : (a : Int) < (n : Int) := by omega
              obtain ⟨x, hx⟩ : ∃ x, x = d1[v]! := ⟨_, rfl⟩
              obtain ⟨y, hy⟩ : ∃ x, x = d1[a]! := ⟨_, rfl⟩
              rw [← hx] at kk1
              rw [← hy] at kk2
              have HL := Lib.hid (fun W => Less_any y x W)
              cases hc : lt y x with
              | false =>
                rw [hc] at HL
                have HV2 : Hid (Go.Sort.scanDown (EDn d1 a) d1 u j = v) := Lib.hid (by rw [← HV.out]; exact scanDown_stop (.inr (by show EDn d1 a _ = false; simp only [EDn]; rw [← hx, ← hy, hc])))
                have hne : u ≠ v := by
                  rintro rfl
                  have h5 := HU2.out
                  have h6 := Go.Sort.scanUp_spec (EUp d1 a) d1 j _ i rfl
                  rw [h5] at h6
                  have h7 := h6.2.2.2 (by omega)
                  simp only [EUp] at h7
                  rw [← hx, ← hy, hc] at h7
                  cases h7
                have huv : u < v := by omega
                have hgt : ¬ ((v : Int) < (u : Int)) := by omega
                have hgtn : ¬ (v < u) := by omega
                clear hx hy hc HV hne
                go_wp2_with fail
                go_quiet ((go_at_call 44; exact quietOf (HL.out _)))
                obtain ⟨B0, hB0⟩ : ∃ V, V = wr.drewN nq := ⟨_, rfl⟩
                have HB0 : Hid (Pe w b n a e i j d1 PL B0) := Lib.hid (by rw [hB0]; exact (HQ.out).up (belowDrewN _ _))
                rw [← hB0]
                clear hB0 HQ HL kk1 kk2
                obtain ⟨xa, hxa⟩ : ∃ x, x = d1[u]! := ⟨_, rfl⟩
                obtain ⟨ya, hya⟩ : ∃ x, x = d1[v]! := ⟨_, rfl⟩
                have ka := HB0.out.rw'.c u (by rw [HB0.out.n]; omega)
                have kb := HB0.out.rw'.c v (by rw [HB0.out.n]; omega)
                rw [← hxa] at ka
                rw [← hya] at kb
                have fa := HB0.out.rw'.f u
                have fb := HB0.out.rw'.f v
                have fb' := (frozenSet B0 b u v (nv ya)).trans fb
                obtain ⟨zz, kz⟩ := HB0.out.rw'.mid (i := u) (j := v) (by rw [HB0.out.n]; omega) (nv ya)
                have s0 : (0 : Int) ≤ (u : Int) := by omega
                have s1 : (u : Int) < (n : Int) := by omega
                have s2 : (0 : Int) ≤ (v : Int) := by omega
                have s3 : (v : Int) < (n : Int) := by omega
                obtain ⟨q1, hq1⟩ : ∃ q, q = v - 1 := ⟨_, rfl⟩
                have HF : Hid (Pe w b n a e (u + 1) q1 (Go.Sort.swp d1 u v) PL (((B0.setCell ⟨b, u, none⟩ (nv ya)).setCell ⟨b, v, none⟩ (nv xa)).drew)) := Lib.hid (by
                  rw [hxa, hya, hq1]
                  exact HB0.out.go he hiu hvj HU2.out HV2.out huv)
                have w1 : IntKind.i64.wrap ((u : Int) + 1) = (u : Int) + 1 := IntWalk.i64_in _ (by omega)
                have w2 : IntKind.i64.wrap ((v : Int) - 1) = (q1 : Int) := wi (by omega) (by omega)
                have Hq := Lib.hid hq1
                clear hxa hya HB0 hq1
                go_wp2_with fail
                go_region
                go_wp2_with fail
                go_roundw
                case rel => exact ⟨u + 1, q1, _, by go_num, rfl, by omega, by have := Hq.out; omega, by have := Hq.out; omega, HF⟩
                case measure => simp [intOf]; have := Hq.out; omega
              | true =>
                rw [hc] at HL
                obtain ⟨q, hq⟩ : ∃ q, v = q + 1 := ⟨v - 1, by omega⟩
                have HN : Hid (Go.Sort.scanDown (EDn d1 a) d1 u q = Go.Sort.scanDown (EDn d1 a) d1 u j) := Lib.hid (by rw [← scanDown_go hq hlv (by show EDn d1 a _ = true; simp only [EDn]; rw [← hx, ← hy, hc])]; exact HV.out)
                have hw1 : IntKind.i64.wrap ((v : Int) - 1) = (q : Int) := wi (by omega) (by omega)
                have Hq := Lib.hid hq
                clear hx hy hc hq
                go_wp2_with fail
                go_quiet ((go_at_call 44; exact quietOf (HL.out _)))
                have HV9 : Hid (Pe w b n a e i j d1 PL (wr.drewN nq)) := Lib.hid (HQ.out.up (belowDrewN _ _))
                go_wp2_with fail
                go_roundw
                case rel => exact ⟨q, rfl, by have := Hq.out; omega, by have := Hq.out; omega, HV9, HN⟩
                case measure => simp [intOf]; have := Hq.out; omega
            · have hlvi : ¬ ((u : Int) ≤ (v : Int)) := by omega
              have HV2 : Hid (Go.Sort.scanDown (EDn d1 a) d1 u j = v) := Lib.hid (by rw [← HV.out]; exact scanDown_stop (.inl hlv))
              have huv : v < u := by omega
              have hgt : (v : Int) < (u : Int) := by omega
              clear HV
              go_wp2_with fail
              go_quiet (fail)
              obtain ⟨B0, hB0⟩ : ∃ V, V = wr.drewN nq := ⟨_, rfl⟩
              have HB0 : Hid (Pe w b n a e i j d1 PL B0) := Lib.hid (by rw [hB0]; exact (HQ.out).up (belowDrewN _ _))
              rw [← hB0]
              clear hB0 HQ
              have HE : Hid (PL = (u, d1)) := Lib.hid (HB0.out.brk HU2.out HV2.out huv)
              have hvn : v < n := by omega
              have hun : u ≤ n := by omega
              go_wp2_with fail
              go_ret
              rw [HE.out]
              exact ⟨rfl, HB0.out.on, HB0.out.rw'⟩
      · have hlei : ¬ ((u : Int) ≤ (j : Int)) := by omega
        have HU2 : Hid (Go.Sort.scanUp (EUp d1 a) d1 j i = u) := Lib.hid (by rw [← HU.out]; exact scanUp_stop (.inl hle))
        have HV2 : Hid (Go.Sort.scanDown (EDn d1 a) d1 u j = j) := Lib.hid (scanDown_stop (.inl hle))
        clear HU
        go_wp2_with fail
        go_quiet (fail)
        obtain ⟨U1, hU1⟩ : ∃ V, V = wr.drewN nq := ⟨_, rfl⟩
        have HU1 : Hid (Pe w b n a e i j d1 PL U1) := Lib.hid (by rw [hU1]; exact (HQ.out).up (belowDrewN _ _))
        rw [← hU1]
        clear hU1
        clear HQ
        go_wp2_with fail
        refine wp_loop_rounds 1 ?_
        rw [rounds_succ]
        go_wp2_with fail
        go_quiet (fail)
        obtain ⟨B0, hB0⟩ : ∃ V, V = U1.drewN nq := ⟨_, rfl⟩
        have HB0 : Hid (Pe w b n a e i j d1 PL B0) := Lib.hid (by rw [hB0]; exact (HU1.out).up (belowDrewN _ _))
        rw [← hB0]
        clear hB0 HU1
        have huv : j < u := by omega
        have hgt : (j : Int) < (u : Int) := by omega
        have HE : Hid (PL = (u, d1)) := Lib.hid (HB0.out.brk HU2.out HV2.out huv)
        have hvn : j < n := by omega
        have hun : u ≤ n := by omega
        go_wp2_with fail
        go_ret
        rw [HE.out]
        exact ⟨rfl, HB0.out.on, HB0.out.rw'⟩
end Go.Proofs.Yteglhcpochcopaa.srt
