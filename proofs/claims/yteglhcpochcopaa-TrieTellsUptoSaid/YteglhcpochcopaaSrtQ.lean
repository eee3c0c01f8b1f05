/- slices.partialInsertionSortOrdered over bytes. (Printed by si2.py.) -/
import Derived.Test.YteglhcpochcopaaSrtE
namespace Go.Proofs.Yteglhcpochcopaa.srt
open Go.RowKit
open Go.Sort (partialIns scanSorted shiftDown shiftUp partialInsertionSort)

/-- while it is sorted: what stands in the row, what is left to be made of it -/
structure Gn {β : Type} (w : World) (b n : Nat) (d : Array Nat) (D : β) (f : Array Nat → β) (wr : World) : Prop where
  on : On b w wr
  rw' : Rw wr b d
  n : d.size = n
  eq : f d = D
theorem Gn.up {β : Type} {w : World} {b n : Nat} {d : Array Nat} {D : β} {f : Array Nat → β} {wr wq : World} (h : Gn w b n d D f wr) (hb : Below wr.heap.size wr wq) : Gn w b n d D f wq := ⟨h.on.trans (.below hb), h.rw'.up hb, h.n, h.eq⟩
theorem Gn.to {β : Type} {w : World} {b n : Nat} {d : Array Nat} {D : β} {f g : Array Nat → β} {wr : World} (h : Gn w b n d D f wr) (e : f d = g d) : Gn w b n d D g wr := ⟨h.on, h.rw', h.n, e ▸ h.eq⟩
theorem Gn.swp {β : Type} {w : World} {b n : Nat} {d : Array Nat} {D : β} {f g : Array Nat → β} {wr : World} (h : Gn w b n d D f wr) {i j : Nat} (hi : i < n) (hj : j < n) (e : f d = g (Go.Sort.swp d i j)) :
    Gn w b n (Go.Sort.swp d i j) D g (((wr.setCell ⟨b, i, none⟩ (nv d[j]!)).setCell ⟨b, j, none⟩ (nv d[i]!)).drew) :=
  ⟨h.on.trans (On.swp b wr i j _ _), h.rw'.swp (by rw [h.n]; exact hi) (by rw [h.n]; exact hj), by rw [Go.Sort.swp_size]; exact h.n, e ▸ h.eq⟩
theorem scanSorted_go {d : Array Nat} {e u k : Nat} (hk : u = k + 1) (h : u < e) (hp : lt d[u]! d[k]! = false) : scanSorted lt d e u = scanSorted lt d e (u + 1) := by
  subst hk
  rw [scanSorted, if_pos (by simp [h, hp])]
theorem scanSorted_stop {d : Array Nat} {e u k : Nat} (hk : u = k + 1) (h : ¬ u < e ∨ lt d[u]! d[k]! = true) : scanSorted lt d e u = u := by
  subst hk
  rw [scanSorted, if_neg (by rcases h with h | h <;> simp [h])]
theorem shiftDown_go {d : Array Nat} {v q : Nat} (hq : v = q + 1) (h : lt d[v]! d[q]! = true) : shiftDown lt v d = shiftDown lt q (Go.Sort.swp d v q) := by
  subst hq
  rw [shiftDown, if_neg (by simp [h])]
theorem shiftDown_stop {d : Array Nat} {v q : Nat} (hq : v = q + 1) (h : lt d[v]! d[q]! = false) : shiftDown lt v d = d := by
  subst hq
  rw [shiftDown, if_pos (by simp [h])]
theorem shiftUp_go {d : Array Nat} {e v q : Nat} (hq : v = q + 1) (hv : v < e) (h : lt d[v]! d[q]! = true) : shiftUp lt e v d = shiftUp lt e (v + 1) (Go.Sort.swp d v q) := by
  subst hq
  rw [shiftUp, if_pos hv, if_neg (by simp [h]), Nat.add_sub_cancel]
theorem shiftUp_stop {d : Array Nat} {e v q : Nat} (hq : v = q + 1) (h : ¬ v < e ∨ lt d[v]! d[q]! = false) : shiftUp lt e v d = d := by
  subst hq
  rw [shiftUp]
  split
  · rcases h with h | h
    · contradiction
    · rw [if_pos (by simp [h])]
  · rfl
abbrev UpF (e u : Nat) (d : Array Nat) : Array Nat := if 2 ≤ e - u then shiftUp lt e (u + 1) d else d
abbrev DnF (a u k : Nat) (d : Array Nat) : Array Nat := if 2 ≤ u - a then shiftDown lt k d else d
theorem partialIns_go {a e r i u k : Nat} {d : Array Nat} (hu : scanSorted lt d e i = u) (hk : u = k + 1) (h1 : u ≠ e) (h2 : ¬ e - a < 50) : partialIns lt a e (r + 1) i d = partialIns lt a e r u (UpF e u (DnF a u k (Go.Sort.swp d u k))) := by
  rw [partialIns]
  simp only [hu, if_neg h1, if_neg h2]
  rw [show u - 1 = k by omega]
theorem partialIns_end {a e r i : Nat} {d : Array Nat} (hu : scanSorted lt d e i = e) : partialIns lt a e (r + 1) i d = (d, true) := by
  rw [partialIns]
  simp only [hu, if_true]
theorem partialIns_few {a e r i u : Nat} {d : Array Nat} (hu : scanSorted lt d e i = u) (h1 : u ≠ e) (h2 : e - a < 50) : partialIns lt a e (r + 1) i d = (d, false) := by
  rw [partialIns]
  simp only [hu, if_neg h1, if_pos h2]

set_option maxRecDepth 100000 in
set_option maxHeartbeats 16000000 in
theorem partial_any (w : World) (b n c a e : Nat) (d : Array Nat) (h : Rw w b d) (hn : d.size = n) (hb : n ≤ 1099511627776) (hae : a < e) (he : e ≤ n) (PR : Array Nat × Bool) (hPR : partialIns lt a e 5 (a + 1) d = PR) :
    Calls Try.prog 43 #[.slice (some ⟨b, 0, none⟩) n c, .int .i64 (a : Nat), .int .i64 (e : Nat)] w fun en w' =>
      en = .returned (.bool PR.2) ∧ On b w w' ∧ Rw w' b PR.1 := by
  have H0 : Hid (Gn w b n d PR (partialIns lt a e 5 (a + 1)) w) := Lib.hid ⟨.refl _ _, h, hn, hPR⟩
  obtain ⟨i0, hi0⟩ : ∃ i, i = a + 1 := ⟨_, rfl⟩
  have w1 : IntKind.i64.wrap ((a : Int) + 1) = (i0 : Int) := wi (by omega) (by omega)
  rw [← hi0] at H0
  obtain ⟨l, hl⟩ : ∃ l, l = e - a := ⟨_, rfl⟩
  have HX := Lib.hid (And.intro hi0 hl)
  have Hwl : Hid (IntKind.i64.wrap ((e : Int) - (a : Int)) = (l : Int)) := Lib.hid (wi (by omega) (by omega))
  clear h hn hPR hi0 hl
  go_enter Try.func43, Try.ntmps43
  go_wp2_with fail
  clear w1
  go_loopw [7, 8] (fun iv sv wr => ∃ (i s : Nat) (d1 : Array Nat), iv = .int .i64 (i : Nat) ∧ sv = .int .i64 (s : Nat) ∧ a < i ∧ i ≤ e ∧ s ≤ 5 ∧ Hid (Gn w b n d1 PR (partialIns lt a e (5 - s) i) wr)) (fun _ sv _ => 6 - (intOf sv).toNat)
  case atStart => exact ⟨i0, 0, d, rfl, rfl, by have := HX.out; omega, by have := HX.out; omega, by omega, H0⟩
  case round =>
    obtain ⟨i, s, d1, rfl, rfl, hai, hie, hs5, HS⟩ := hrel
    clear H0
    by_cases hs : s = 5
    · subst hs
      have HE : Hid (PR = (d1, false)) := Lib.hid (by rw [← HS.out.eq]; rfl)
      go_wp2_with fail
      go_ret
      rw [HE.out]
      exact ⟨rfl, HS.out.on, HS.out.rw'⟩
    have hs4 : (s : Int) < 5 := by omega
    obtain ⟨r, hr⟩ : ∃ r, 5 - s = r + 1 := ⟨4 - s, by omega⟩
    rw [hr] at HS
    have HR := Lib.hid hr
    have hsn : s < 5 := by omega
    clear hr hs
    go_wp2_with fail
    go_loopw [7] (fun iv wq => ∃ u : Nat, iv = .int .i64 (u : Nat) ∧ i ≤ u ∧ u ≤ e ∧ Hid (Gn w b n d1 PR (partialIns lt a e (r + 1) i) wq) ∧ Hid (scanSorted lt d1 e u = scanSorted lt d1 e i)) (fun iv _ => e + 1 - (intOf iv).toNat)
    case atStart => exact ⟨i, rfl, Nat.le_refl _, hie, HS, Lib.hid rfl⟩
    case round =>
      obtain ⟨u, rfl, hiu, hue, HQ, HU⟩ := hrel
      clear HS
      obtain ⟨k, hk⟩ : ∃ k, u = k + 1 := ⟨u - 1, by omega⟩
      have HK := Lib.hid hk
      have wk : IntKind.i64.wrap ((u : Int) - 1) = (k : Int) := wi (by omega) (by omega)
      by_cases hul : u < e
      · have hui : (u : Int) < (e : Int) := by omega
        have kk1 := HQ.out.rw'.c u (by rw [HQ.out.n]; omega)
        have kk2 := HQ.out.rw'.c k (by rw [HQ.out.n]; have := HK.out; omega)
        have i0 : (0 : Int) ≤ (u : Int) := by omega
        have i1 : (u : Int) < (n : Int) := by omega
        have a0 : (0 : Int) ≤ (k : Int) := by omega
        have a1 : (k : Int) < (n : Int) := by have := HK.out; omega
        obtain ⟨x, hx⟩ : ∃ x, x = d1[u]! := ⟨_, rfl⟩
        obtain ⟨y, hy⟩ : ∃ x, x = d1[k]! := ⟨_, rfl⟩
        rw [← hx] at kk1
        rw [← hy] at kk2
        have HL := Lib.hid (fun W => Less_any x y W)
        cases hc : lt x y with
        | false =>
          rw [hc] at HL
          have HN : Hid (scanSorted lt d1 e (u + 1) = scanSorted lt d1 e i) := Lib.hid (by rw [← scanSorted_go hk hul (by rw [← hx, ← hy]; exact hc)]; exact HU.out)
          clear hx hy hc hk
          go_wp2_with fail
          go_quiet ((go_at_call 44; exact quietOf (HL.out _)))
          have HV : Hid (Gn w b n d1 PR (partialIns lt a e (r + 1) i) (wr.drewN nq)) := Lib.hid (HQ.out.up (belowDrewN _ _))
          have w5 : IntKind.i64.wrap ((u : Int) + 1) = (u : Int) + 1 := IntWalk.i64_in _ (by omega)
          go_wp2_with fail
          go_roundw
          case rel => exact ⟨u + 1, by go_num, by omega, by omega, HV, HN⟩
          case measure => simp [intOf]; omega
        | true =>
          rw [hc] at HL
          have HU2 : Hid (scanSorted lt d1 e i = u) := Lib.hid (by rw [← HU.out]; exact scanSorted_stop hk (.inr (by rw [← hx, ← hy]; exact hc)))
          clear hx hy hc hk HU
          have hneq : ((u : Int) == (e : Int)) = false := by rw [beq_eq_false_iff_ne]; omega
          have wl := Hwl.out
          go_wp2_with fail
          go_quiet ((go_at_call 44; exact quietOf (HL.out _)))
          obtain ⟨B0, hB0⟩ : ∃ V, V = wr.drewN nq := ⟨_, rfl⟩
          have HB0 : Hid (Gn w b n d1 PR (partialIns lt a e (r + 1) i) B0) := Lib.hid (by rw [hB0]; exact HQ.out.up (belowDrewN _ _))
          rw [← hB0]
          clear hB0 HQ HL kk1 kk2 i0 i1 a0 a1
          by_cases h50 : l < 50
          · have h50i : (l : Int) < 50 := by omega
            have HE : Hid (PR = (d1, false)) := Lib.hid (by rw [← HB0.out.eq]; exact partialIns_few HU2.out (by omega) (by have := HX.out; omega))
            go_wp2_with fail
            go_ret
            rw [HE.out]
            exact ⟨rfl, HB0.out.on, HB0.out.rw'⟩
          · have h50i : ¬ ((l : Int) < 50) := by omega
            obtain ⟨xa, hxa⟩ : ∃ x, x = d1[u]! := ⟨_, rfl⟩
            obtain ⟨ya, hya⟩ : ∃ x, x = d1[k]! := ⟨_, rfl⟩
            have ka := HB0.out.rw'.c u (by rw [HB0.out.n]; omega)
            have kb := HB0.out.rw'.c k (by rw [HB0.out.n]; have := HK.out; omega)
            rw [← hxa] at ka
            rw [← hya] at kb
            have fa := HB0.out.rw'.f u
            have fb := HB0.out.rw'.f k
            have fb' := (frozenSet B0 b u k (nv ya)).trans fb
            obtain ⟨zz, kz⟩ := HB0.out.rw'.mid (i := u) (j := k) (by rw [HB0.out.n]; have := HK.out; omega) (nv ya)
            have s0 : (0 : Int) ≤ (u : Int) := by omega
            have s1 : (u : Int) < (n : Int) := by omega
            have s2 : (0 : Int) ≤ (k : Int) := by omega
            have s3 : (k : Int) < (n : Int) := by have := HK.out; omega
            obtain ⟨V9, hV9⟩ : ∃ V, V = ((B0.setCell ⟨b, u, none⟩ (nv ya)).setCell ⟨b, k, none⟩ (nv xa)).drew := ⟨_, rfl⟩
            have HF : Hid (Gn w b n (Go.Sort.swp d1 u k) PR (fun d => partialIns lt a e r u (UpF e u (DnF a u k d))) V9) := Lib.hid (by
              rw [hV9, hxa, hya]
              exact HB0.out.swp (by omega) (by have := HK.out; omega) (by exact partialIns_go HU2.out HK.out (by omega) (by have := HX.out; omega)))
            have HV9 := Lib.hid hV9
            clear hxa hya hV9 HB0
            go_wp2_with fail
            go_region
            rw [← HV9.out]
            clear HV9 ka kb fa fb fb' kz s0 s1 s2 s3
            clear wl h50i hneq hui
            obtain ⟨t, ht⟩ : ∃ t, t = u - a := ⟨_, rfl⟩
            have wt : IntKind.i64.wrap ((u : Int) - (a : Int)) = (t : Int) := wi (by omega) (by omega)
            have T1 := Lib.hid ht
            obtain ⟨dz, hdz⟩ : ∃ dz, dz = Go.Sort.swp d1 u k := ⟨_, rfl⟩
            rw [← hdz] at HF
            clear hdz
            by_cases h2 : 2 ≤ t
            · have h2i : (2 : Int) ≤ (t : Int) := by omega
              have HG : Hid (Gn w b n dz PR (fun d => partialIns lt a e r u (UpF e u (shiftDown lt k d))) V9) := Lib.hid (HF.out.to (by show partialIns lt a e r u (UpF e u (DnF a u k _)) = _; unfold DnF; rw [if_pos (by have := T1.out; omega)]))
              clear HF ht
              go_wp2_with fail
              go_loopw [9] (fun jv wq => ∃ (v : Nat) (d2 : Array Nat), jv = .int .i64 (v : Nat) ∧ v < u ∧ Hid (Gn w b n d2 PR (fun d => partialIns lt a e r u (UpF e u (shiftDown lt v d))) wq)) (fun jv _ => (intOf jv).toNat)
              case atStart => exact ⟨k, dz, rfl, by have := HK.out; omega, HG⟩
              case round =>
                obtain ⟨v, d2, rfl, hvu, HJ⟩ := hrel
                clear HG wt wk
                by_cases hv1 : 1 ≤ v
                · have hvi : (1 : Int) ≤ (v : Int) := by omega
                  obtain ⟨q, hq⟩ : ∃ q, v = q + 1 := ⟨v - 1, by omega⟩
                  have HQ2 := Lib.hid hq
                  have wq : IntKind.i64.wrap ((v : Int) - 1) = (q : Int) := wi (by omega) (by omega)
                  have kk1 := HJ.out.rw'.c v (by rw [HJ.out.n]; omega)
                  have kk2 := HJ.out.rw'.c q (by rw [HJ.out.n]; have := HQ2.out; omega)
                  have i0 : (0 : Int) ≤ (v : Int) := by omega
                  have i1 : (v : Int) < (n : Int) := by omega
                  have a0 : (0 : Int) ≤ (q : Int) := by omega
                  have a1 : (q : Int) < (n : Int) := by have := HQ2.out; omega
                  obtain ⟨x, hx⟩ : ∃ x, x = d2[v]! := ⟨_, rfl⟩
                  obtain ⟨y, hy⟩ : ∃ x, x = d2[q]! := ⟨_, rfl⟩
                  rw [← hx] at kk1
                  rw [← hy] at kk2
                  have HL := Lib.hid (fun W => Less_any x y W)
                  cases hc : lt x y with
                  | false =>
                    rw [hc] at HL
                    have HJ2 : Hid (Gn w b n d2 PR (fun d => partialIns lt a e r u (UpF e u d)) wr) := Lib.hid (HJ.out.to (by show partialIns lt a e r u (UpF e u (shiftDown lt v d2)) = _; rw [shiftDown_stop hq (by rw [← hx, ← hy]; exact hc)]))
                    clear hx hy hc hq HJ
                    go_wp2_with fail
                    go_quiet ((go_at_call 44; exact quietOf (HL.out _)))
                    obtain ⟨W7, hW7⟩ : ∃ V, V = wr.drewN nq := ⟨_, rfl⟩
                    have HG7 : Hid (Gn w b n d2 PR (fun d => partialIns lt a e r u (UpF e u d)) W7) := Lib.hid (by rw [hW7]; exact HJ2.out.up (belowDrewN _ _))
                    rw [← hW7]
                    clear hW7 HJ2 HL kk1 kk2 i0 i1 a0 a1 wq
                    obtain ⟨t2, ht2⟩ : ∃ t, t = e - u := ⟨_, rfl⟩
                    have wt2 : IntKind.i64.wrap ((e : Int) - (u : Int)) = (t2 : Int) := wi (by omega) (by omega)
                    have T2 := Lib.hid ht2
                    by_cases h2u : 2 ≤ t2
                    · have h2ui : (2 : Int) ≤ (t2 : Int) := by omega
                      have w5 : IntKind.i64.wrap ((u : Int) + 1) = (u : Int) + 1 := IntWalk.i64_in _ (by omega)
                      have HG : Hid (Gn w b n (d2) PR (fun d => partialIns lt a e r u (shiftUp lt e (u + 1) d)) W7) := Lib.hid (HG7.out.to (by show partialIns lt a e r u (UpF e u _) = _; unfold UpF; rw [if_pos (by have := T2.out; omega)]))
                      clear HG7 ht2
                      go_wp2_with fail
                      go_loopw [10] (fun jv wq => ∃ (v : Nat) (d2 : Array Nat), jv = .int .i64 (v : Nat) ∧ u < v ∧ v ≤ e ∧ Hid (Gn w b n d2 PR (fun d => partialIns lt a e r u (shiftUp lt e v d)) wq)) (fun jv _ => e + 1 - (intOf jv).toNat)
                      case atStart => exact ⟨u + 1, d2, by go_num, by omega, by omega, HG⟩
                      case round =>
                        obtain ⟨v, d2, rfl, huv, hve, HJ⟩ := hrel
                        clear HG w5 wt2
                        obtain ⟨q, hq⟩ : ∃ q, v = q + 1 := ⟨v - 1, by omega⟩
                        have HQ2 := Lib.hid hq
                        by_cases hvl : v < e
                        · have hvi : (v : Int) < (e : Int) := by omega
                          have wq : IntKind.i64.wrap ((v : Int) - 1) = (q : Int) := wi (by omega) (by omega)
                          have kk1 := HJ.out.rw'.c v (by rw [HJ.out.n]; omega)
                          have kk2 := HJ.out.rw'.c q (by rw [HJ.out.n]; have := HQ2.out; omega)
                          have i0 : (0 : Int) ≤ (v : Int) := by omega
                          have i1 : (v : Int) < (n : Int) := by omega
                          have a0 : (0 : Int) ≤ (q : Int) := by omega
                          have a1 : (q : Int) < (n : Int) := by have := HQ2.out; omega
                          obtain ⟨x, hx⟩ : ∃ x, x = d2[v]! := ⟨_, rfl⟩
                          obtain ⟨y, hy⟩ : ∃ x, x = d2[q]! := ⟨_, rfl⟩
                          rw [← hx] at kk1
                          rw [← hy] at kk2
                          have HL := Lib.hid (fun W => Less_any x y W)
                          cases hc : lt x y with
                          | false =>
                            rw [hc] at HL
                            have HJ2 : Hid (Gn w b n d2 PR (partialIns lt a e r u) wr) := Lib.hid (HJ.out.to (by show partialIns lt a e r u (shiftUp lt e v d2) = _; rw [shiftUp_stop hq (.inr (by rw [← hx, ← hy]; exact hc))]))
                            clear hx hy hc hq HJ
                            go_wp2_with fail
                            go_quiet ((go_at_call 44; exact quietOf (HL.out _)))
                            have HN : Hid (Gn w b n d2 PR (partialIns lt a e r u) (wr.drewN nq)) := Lib.hid (HJ2.out.up (belowDrewN _ _))
                            have w6 : IntKind.i64.wrap ((s : Int) + 1) = (s : Int) + 1 := IntWalk.i64_in _ (by omega)
                            go_wp2_with fail
                            go_roundw
                            case rel => exact ⟨u, s + 1, d2, rfl, by go_num, by omega, by omega, by omega, by rw [show 5 - (s + 1) = r by have := HR.out; omega]; exact HN⟩
                            case measure => simp [intOf]; omega
                          | true =>
                            rw [hc] at HL
                            have Hc : Hid (lt d2[v]! d2[q]! = true) := Lib.hid (by rw [← hx, ← hy]; exact hc)
                            clear hx hy hc hq
                            go_wp2_with fail
                            go_quiet ((go_at_call 44; exact quietOf (HL.out _)))
                            obtain ⟨B0, hB0⟩ : ∃ V, V = wr.drewN nq := ⟨_, rfl⟩
                            have HB0 : Hid (Gn w b n d2 PR (fun d => partialIns lt a e r u (shiftUp lt e v d)) B0) := Lib.hid (by rw [hB0]; exact HJ.out.up (belowDrewN _ _))
                            rw [← hB0]
                            clear hB0 HJ HL kk1 kk2 i0 i1 a0 a1
                            obtain ⟨xa, hxa⟩ : ∃ x, x = d2[v]! := ⟨_, rfl⟩
                            obtain ⟨ya, hya⟩ : ∃ x, x = d2[q]! := ⟨_, rfl⟩
                            have ka := HB0.out.rw'.c v (by rw [HB0.out.n]; omega)
                            have kb := HB0.out.rw'.c q (by rw [HB0.out.n]; have := HQ2.out; omega)
                            rw [← hxa] at ka
                            rw [← hya] at kb
                            have fa := HB0.out.rw'.f v
                            have fb := HB0.out.rw'.f q
                            have fb' := (frozenSet B0 b v q (nv ya)).trans fb
                            obtain ⟨zz, kz⟩ := HB0.out.rw'.mid (i := v) (j := q) (by rw [HB0.out.n]; have := HQ2.out; omega) (nv ya)
                            have s0 : (0 : Int) ≤ (v : Int) := by omega
                            have s1 : (v : Int) < (n : Int) := by omega
                            have s2 : (0 : Int) ≤ (q : Int) := by omega
                            have s3 : (q : Int) < (n : Int) := by have := HQ2.out; omega
                            obtain ⟨V9, hV9⟩ : ∃ V, V = ((B0.setCell ⟨b, v, none⟩ (nv ya)).setCell ⟨b, q, none⟩ (nv xa)).drew := ⟨_, rfl⟩
                            have HF : Hid (Gn w b n (Go.Sort.swp d2 v q) PR (fun d => partialIns lt a e r u (shiftUp lt e (v + 1) d)) V9) := Lib.hid (by
                              rw [hV9, hxa, hya]
                              exact HB0.out.swp (by omega) (by have := HQ2.out; omega) (by show partialIns lt a e r u (shiftUp lt e v d2) = _; rw [shiftUp_go HQ2.out hvl Hc.out]))
                            have HV9 := Lib.hid hV9
                            clear hxa hya hV9 HB0
                            go_wp2_with fail
                            go_region
                            rw [← HV9.out]
                            clear HV9 ka kb fa fb fb' kz s0 s1 s2 s3
                            have w7 : IntKind.i64.wrap ((v : Int) + 1) = (v : Int) + 1 := IntWalk.i64_in _ (by omega)
                            go_wp2_with fail
                            go_roundw
                            case rel => exact ⟨v + 1, _, by go_num, by omega, by omega, HF⟩
                            case measure => simp [intOf]; omega
                        · have hvi : ¬ ((v : Int) < (e : Int)) := by omega
                          have HJ2 : Hid (Gn w b n d2 PR (partialIns lt a e r u) wr) := Lib.hid (HJ.out.to (by show partialIns lt a e r u (shiftUp lt e v d2) = _; rw [shiftUp_stop hq (.inl hvl)]))
                          clear HJ hq
                          have w6 : IntKind.i64.wrap ((s : Int) + 1) = (s : Int) + 1 := IntWalk.i64_in _ (by omega)
                          go_wp2_with fail
                          go_roundw
                          case rel => exact ⟨u, s + 1, d2, rfl, by go_num, by omega, by omega, by omega, by rw [show 5 - (s + 1) = r by have := HR.out; omega]; exact HJ2⟩
                          case measure => simp [intOf]; omega
                    · have h2ui : ¬ ((2 : Int) ≤ (t2 : Int)) := by omega
                      have HG : Hid (Gn w b n (d2) PR (partialIns lt a e r u) W7) := Lib.hid (HG7.out.to (by show partialIns lt a e r u (UpF e u _) = _; unfold UpF; rw [if_neg (by have := T2.out; omega)]))
                      clear HG7 ht2
                      have w6 : IntKind.i64.wrap ((s : Int) + 1) = (s : Int) + 1 := IntWalk.i64_in _ (by omega)
                      go_wp2_with fail
                      go_roundw
                      case rel => exact ⟨u, s + 1, d2, rfl, by go_num, by omega, by omega, by omega, by rw [show 5 - (s + 1) = r by have := HR.out; omega]; exact HG⟩
                      case measure => simp [intOf]; omega
                  | true =>
                    rw [hc] at HL
                    have Hc : Hid (lt d2[v]! d2[q]! = true) := Lib.hid (by rw [← hx, ← hy]; exact hc)
                    clear hx hy hc hq
                    go_wp2_with fail
                    go_quiet ((go_at_call 44; exact quietOf (HL.out _)))
                    obtain ⟨B0, hB0⟩ : ∃ V, V = wr.drewN nq := ⟨_, rfl⟩
                    have HB0 : Hid (Gn w b n d2 PR (fun d => partialIns lt a e r u (UpF e u (shiftDown lt v d))) B0) := Lib.hid (by rw [hB0]; exact HJ.out.up (belowDrewN _ _))
                    rw [← hB0]
                    clear hB0 HJ HL kk1 kk2 i0 i1 a0 a1
                    obtain ⟨xa, hxa⟩ : ∃ x, x = d2[v]! := ⟨_, rfl⟩
                    obtain ⟨ya, hya⟩ : ∃ x, x = d2[q]! := ⟨_, rfl⟩
                    have ka := HB0.out.rw'.c v (by rw [HB0.out.n]; omega)
                    have kb := HB0.out.rw'.c q (by rw [HB0.out.n]; have := HQ2.out; omega)
                    rw [← hxa] at ka
                    rw [← hya] at kb
                    have fa := HB0.out.rw'.f v
                    have fb := HB0.out.rw'.f q
                    have fb' := (frozenSet B0 b v q (nv ya)).trans fb
                    obtain ⟨zz, kz⟩ := HB0.out.rw'.mid (i := v) (j := q) (by rw [HB0.out.n]; have := HQ2.out; omega) (nv ya)
                    have s0 : (0 : Int) ≤ (v : Int) := by omega
                    have s1 : (v : Int) < (n : Int) := by omega
                    have s2 : (0 : Int) ≤ (q : Int) := by omega
                    have s3 : (q : Int) < (n : Int) := by have := HQ2.out; omega
                    obtain ⟨V9, hV9⟩ : ∃ V, V = ((B0.setCell ⟨b, v, none⟩ (nv ya)).setCell ⟨b, q, none⟩ (nv xa)).drew := ⟨_, rfl⟩
                    have HF : Hid (Gn w b n (Go.Sort.swp d2 v q) PR (fun d => partialIns lt a e r u (UpF e u (shiftDown lt q d))) V9) := Lib.hid (by
                      rw [hV9, hxa, hya]
                      exact HB0.out.swp (by omega) (by have := HQ2.out; omega) (by show partialIns lt a e r u (UpF e u (shiftDown lt v d2)) = _; rw [shiftDown_go HQ2.out Hc.out]))
                    have HV9 := Lib.hid hV9
                    clear hxa hya hV9 HB0
                    go_wp2_with fail
                    go_region
                    rw [← HV9.out]
                    clear HV9 ka kb fa fb fb' kz s0 s1 s2 s3
                    go_wp2_with fail
                    go_roundw
                    case rel => exact ⟨q, _, rfl, by have := HQ2.out; omega, HF⟩
                    case measure => simp [intOf]; have := HQ2.out; omega
                · have hvi : ¬ ((1 : Int) ≤ (v : Int)) := by omega
                  obtain rfl : v = 0 := by omega
                  have HG7 : Hid (Gn w b n d2 PR (fun d => partialIns lt a e r u (UpF e u d)) wr) := Lib.hid (HJ.out.to rfl)
                  clear HJ
                  obtain ⟨t2, ht2⟩ : ∃ t, t = e - u := ⟨_, rfl⟩
                  have wt2 : IntKind.i64.wrap ((e : Int) - (u : Int)) = (t2 : Int) := wi (by omega) (by omega)
                  have T2 := Lib.hid ht2
                  by_cases h2u : 2 ≤ t2
                  · have h2ui : (2 : Int) ≤ (t2 : Int) := by omega
                    have w5 : IntKind.i64.wrap ((u : Int) + 1) = (u : Int) + 1 := IntWalk.i64_in _ (by omega)
                    have HG : Hid (Gn w b n (d2) PR (fun d => partialIns lt a e r u (shiftUp lt e (u + 1) d)) wr) := Lib.hid (HG7.out.to (by show partialIns lt a e r u (UpF e u _) = _; unfold UpF; rw [if_pos (by have := T2.out; omega)]))
                    clear HG7 ht2
                    go_wp2_with fail
                    go_loopw [10] (fun jv wq => ∃ (v : Nat) (d2 : Array Nat), jv = .int .i64 (v : Nat) ∧ u < v ∧ v ≤ e ∧ Hid (Gn w b n d2 PR (fun d => partialIns lt a e r u (shiftUp lt e v d)) wq)) (fun jv _ => e + 1 - (intOf jv).toNat)
                    case atStart => exact ⟨u + 1, d2, by go_num, by omega, by omega, HG⟩
                    case round =>
                      obtain ⟨v, d2, rfl, huv, hve, HJ⟩ := hrel
                      clear HG w5 wt2
                      obtain ⟨q, hq⟩ : ∃ q, v = q + 1 := ⟨v - 1, by omega⟩
                      have HQ2 := Lib.hid hq
                      by_cases hvl : v < e
                      · have hvi : (v : Int) < (e : Int) := by omega
                        have wq : IntKind.i64.wrap ((v : Int) - 1) = (q : Int) := wi (by omega) (by omega)
                        have kk1 := HJ.out.rw'.c v (by rw [HJ.out.n]; omega)
                        have kk2 := HJ.out.rw'.c q (by rw [HJ.out.n]; have := HQ2.out; omega)
                        have i0 : (0 : Int) ≤ (v : Int) := by omega
                        have i1 : (v : Int) < (n : Int) := by omega
                        have a0 : (0 : Int) ≤ (q : Int) := by omega
                        have a1 : (q : Int) < (n : Int) := by have := HQ2.out; omega
                        obtain ⟨x, hx⟩ : ∃ x, x = d2[v]! := ⟨_, rfl⟩
                        obtain ⟨y, hy⟩ : ∃ x, x = d2[q]! := ⟨_, rfl⟩
                        rw [← hx] at kk1
                        rw [← hy] at kk2
                        have HL := Lib.hid (fun W => Less_any x y W)
                        cases hc : lt x y with
                        | false =>
                          rw [hc] at HL
                          have HJ2 : Hid (Gn w b n d2 PR (partialIns lt a e r u) wr) := Lib.hid (HJ.out.to (by show partialIns lt a e r u (shiftUp lt e v d2) = _; rw [shiftUp_stop hq (.inr (by rw [← hx, ← hy]; exact hc))]))
                          clear hx hy hc hq HJ
                          go_wp2_with fail
                          go_quiet ((go_at_call 44; exact quietOf (HL.out _)))
                          have HN : Hid (Gn w b n d2 PR (partialIns lt a e r u) (wr.drewN nq)) := Lib.hid (HJ2.out.up (belowDrewN _ _))
                          have w6 : IntKind.i64.wrap ((s : Int) + 1) = (s : Int) + 1 := IntWalk.i64_in _ (by omega)
                          go_wp2_with fail
                          go_roundw
                          case rel => exact ⟨u, s + 1, d2, rfl, by go_num, by omega, by omega, by omega, by rw [show 5 - (s + 1) = r by have := HR.out; omega]; exact HN⟩
                          case measure => simp [intOf]; omega
                        | true =>
                          rw [hc] at HL
                          have Hc : Hid (lt d2[v]! d2[q]! = true) := Lib.hid (by rw [← hx, ← hy]; exact hc)
                          clear hx hy hc hq
                          go_wp2_with fail
                          go_quiet ((go_at_call 44; exact quietOf (HL.out _)))
                          obtain ⟨B0, hB0⟩ : ∃ V, V = wr.drewN nq := ⟨_, rfl⟩
                          have HB0 : Hid (Gn w b n d2 PR (fun d => partialIns lt a e r u (shiftUp lt e v d)) B0) := Lib.hid (by rw [hB0]; exact HJ.out.up (belowDrewN _ _))
                          rw [← hB0]
                          clear hB0 HJ HL kk1 kk2 i0 i1 a0 a1
                          obtain ⟨xa, hxa⟩ : ∃ x, x = d2[v]! := ⟨_, rfl⟩
                          obtain ⟨ya, hya⟩ : ∃ x, x = d2[q]! := ⟨_, rfl⟩
                          have ka := HB0.out.rw'.c v (by rw [HB0.out.n]; omega)
                          have kb := HB0.out.rw'.c q (by rw [HB0.out.n]; have := HQ2.out; omega)
                          rw [← hxa] at ka
                          rw [← hya] at kb
                          have fa := HB0.out.rw'.f v
                          have fb := HB0.out.rw'.f q
                          have fb' := (frozenSet B0 b v q (nv ya)).trans fb
                          obtain ⟨zz, kz⟩ := HB0.out.rw'.mid (i := v) (j := q) (by rw [HB0.out.n]; have := HQ2.out; omega) (nv ya)
                          have s0 : (0 : Int) ≤ (v : Int) := by omega
                          have s1 : (v : Int) < (n : Int) := by omega
                          have s2 : (0 : Int) ≤ (q : Int) := by omega
                          have s3 : (q : Int) < (n : Int) := by have := HQ2.out; omega
                          obtain ⟨V9, hV9⟩ : ∃ V, V = ((B0.setCell ⟨b, v, none⟩ (nv ya)).setCell ⟨b, q, none⟩ (nv xa)).drew := ⟨_, rfl⟩
                          have HF : Hid (Gn w b n (Go.Sort.swp d2 v q) PR (fun d => partialIns lt a e r u (shiftUp lt e (v + 1) d)) V9) := Lib.hid (by
                            rw [hV9, hxa, hya]
                            exact HB0.out.swp (by omega) (by have := HQ2.out; omega) (by show partialIns lt a e r u (shiftUp lt e v d2) = _; rw [shiftUp_go HQ2.out hvl Hc.out]))
                          have HV9 := Lib.hid hV9
                          clear hxa hya hV9 HB0
                          go_wp2_with fail
                          go_region
                          rw [← HV9.out]
                          clear HV9 ka kb fa fb fb' kz s0 s1 s2 s3
                          have w7 : IntKind.i64.wrap ((v : Int) + 1) = (v : Int) + 1 := IntWalk.i64_in _ (by omega)
                          go_wp2_with fail
                          go_roundw
                          case rel => exact ⟨v + 1, _, by go_num, by omega, by omega, HF⟩
                          case measure => simp [intOf]; omega
                      · have hvi : ¬ ((v : Int) < (e : Int)) := by omega
                        have HJ2 : Hid (Gn w b n d2 PR (partialIns lt a e r u) wr) := Lib.hid (HJ.out.to (by show partialIns lt a e r u (shiftUp lt e v d2) = _; rw [shiftUp_stop hq (.inl hvl)]))
                        clear HJ hq
                        have w6 : IntKind.i64.wrap ((s : Int) + 1) = (s : Int) + 1 := IntWalk.i64_in _ (by omega)
                        go_wp2_with fail
                        go_roundw
                        case rel => exact ⟨u, s + 1, d2, rfl, by go_num, by omega, by omega, by omega, by rw [show 5 - (s + 1) = r by have := HR.out; omega]; exact HJ2⟩
                        case measure => simp [intOf]; omega
                  · have h2ui : ¬ ((2 : Int) ≤ (t2 : Int)) := by omega
                    have HG : Hid (Gn w b n (d2) PR (partialIns lt a e r u) wr) := Lib.hid (HG7.out.to (by show partialIns lt a e r u (UpF e u _) = _; unfold UpF; rw [if_neg (by have := T2.out; omega)]))
                    clear HG7 ht2
                    have w6 : IntKind.i64.wrap ((s : Int) + 1) = (s : Int) + 1 := IntWalk.i64_in _ (by omega)
                    go_wp2_with fail
                    go_roundw
                    case rel => exact ⟨u, s + 1, d2, rfl, by go_num, by omega, by omega, by omega, by rw [show 5 - (s + 1) = r by have := HR.out; omega]; exact HG⟩
                    case measure => simp [intOf]; omega
            · have h2i : ¬ ((2 : Int) ≤ (t : Int)) := by omega
              have HG7 : Hid (Gn w b n dz PR (fun d => partialIns lt a e r u (UpF e u d)) V9) := Lib.hid (HF.out.to (by show partialIns lt a e r u (UpF e u (DnF a u k _)) = _; unfold DnF; rw [if_neg (by have := T1.out; omega)]))
              clear HF ht
              obtain ⟨t2, ht2⟩ : ∃ t, t = e - u := ⟨_, rfl⟩
              have wt2 : IntKind.i64.wrap ((e : Int) - (u : Int)) = (t2 : Int) := wi (by omega) (by omega)
              have T2 := Lib.hid ht2
              by_cases h2u : 2 ≤ t2
              · have h2ui : (2 : Int) ≤ (t2 : Int) := by omega
                have w5 : IntKind.i64.wrap ((u : Int) + 1) = (u : Int) + 1 := IntWalk.i64_in _ (by omega)
                have HG : Hid (Gn w b n (dz) PR (fun d => partialIns lt a e r u (shiftUp lt e (u + 1) d)) V9) := Lib.hid (HG7.out.to (by show partialIns lt a e r u (UpF e u _) = _; unfold UpF; rw [if_pos (by have := T2.out; omega)]))
                clear HG7 ht2
                go_wp2_with fail
                go_loopw [10] (fun jv wq => ∃ (v : Nat) (d2 : Array Nat), jv = .int .i64 (v : Nat) ∧ u < v ∧ v ≤ e ∧ Hid (Gn w b n d2 PR (fun d => partialIns lt a e r u (shiftUp lt e v d)) wq)) (fun jv _ => e + 1 - (intOf jv).toNat)
                case atStart => exact ⟨u + 1, dz, by go_num, by omega, by omega, HG⟩
                case round =>
                  obtain ⟨v, d2, rfl, huv, hve, HJ⟩ := hrel
                  clear HG w5 wt2
                  obtain ⟨q, hq⟩ : ∃ q, v = q + 1 := ⟨v - 1, by omega⟩
                  have HQ2 := Lib.hid hq
                  by_cases hvl : v < e
                  · have hvi : (v : Int) < (e : Int) := by omega
                    have wq : IntKind.i64.wrap ((v : Int) - 1) = (q : Int) := wi (by omega) (by omega)
                    have kk1 := HJ.out.rw'.c v (by rw [HJ.out.n]; omega)
                    have kk2 := HJ.out.rw'.c q (by rw [HJ.out.n]; have := HQ2.out; omega)
                    have i0 : (0 : Int) ≤ (v : Int) := by omega
                    have i1 : (v : Int) < (n : Int) := by omega
                    have a0 : (0 : Int) ≤ (q : Int) := by omega
                    have a1 : (q : Int) < (n : Int) := by have := HQ2.out; omega
                    obtain ⟨x, hx⟩ : ∃ x, x = d2[v]! := ⟨_, rfl⟩
                    obtain ⟨y, hy⟩ : ∃ x, x = d2[q]! := ⟨_, rfl⟩
                    rw [← hx] at kk1
                    rw [← hy] at kk2
                    have HL := Lib.hid (fun W => Less_any x y W)
                    cases hc : lt x y with
                    | false =>
                      rw [hc] at HL
                      have HJ2 : Hid (Gn w b n d2 PR (partialIns lt a e r u) wr) := Lib.hid (HJ.out.to (by show partialIns lt a e r u (shiftUp lt e v d2) = _; rw [shiftUp_stop hq (.inr (by rw [← hx, ← hy]; exact hc))]))
                      clear hx hy hc hq HJ
                      go_wp2_with fail
                      go_quiet ((go_at_call 44; exact quietOf (HL.out _)))
                      have HN : Hid (Gn w b n d2 PR (partialIns lt a e r u) (wr.drewN nq)) := Lib.hid (HJ2.out.up (belowDrewN _ _))
                      have w6 : IntKind.i64.wrap ((s : Int) + 1) = (s : Int) + 1 := IntWalk.i64_in _ (by omega)
                      go_wp2_with fail
                      go_roundw
                      case rel => exact ⟨u, s + 1, d2, rfl, by go_num, by omega, by omega, by omega, by rw [show 5 - (s + 1) = r by have := HR.out; omega]; exact HN⟩
                      case measure => simp [intOf]; omega
                    | true =>
                      rw [hc] at HL
                      have Hc : Hid (lt d2[v]! d2[q]! = true) := Lib.hid (by rw [← hx, ← hy]; exact hc)
                      clear hx hy hc hq
                      go_wp2_with fail
                      go_quiet ((go_at_call 44; exact quietOf (HL.out _)))
                      obtain ⟨B0, hB0⟩ : ∃ V, V = wr.drewN nq := ⟨_, rfl⟩
                      have HB0 : Hid (Gn w b n d2 PR (fun d => partialIns lt a e r u (shiftUp lt e v d)) B0) := Lib.hid (by rw [hB0]; exact HJ.out.up (belowDrewN _ _))
                      rw [← hB0]
                      clear hB0 HJ HL kk1 kk2 i0 i1 a0 a1
                      obtain ⟨xa, hxa⟩ : ∃ x, x = d2[v]! := ⟨_, rfl⟩
                      obtain ⟨ya, hya⟩ : ∃ x, x = d2[q]! := ⟨_, rfl⟩
                      have ka := HB0.out.rw'.c v (by rw [HB0.out.n]; omega)
                      have kb := HB0.out.rw'.c q (by rw [HB0.out.n]; have := HQ2.out; omega)
                      rw [← hxa] at ka
                      rw [← hya] at kb
                      have fa := HB0.out.rw'.f v
                      have fb := HB0.out.rw'.f q
                      have fb' := (frozenSet B0 b v q (nv ya)).trans fb
                      obtain ⟨zz, kz⟩ := HB0.out.rw'.mid (i := v) (j := q) (by rw [HB0.out.n]; have := HQ2.out; omega) (nv ya)
                      have s0 : (0 : Int) ≤ (v : Int) := by omega
                      have s1 : (v : Int) < (n : Int) := by omega
                      have s2 : (0 : Int) ≤ (q : Int) := by omega
                      have s3 : (q : Int) < (n : Int) := by have := HQ2.out; omega
                      obtain ⟨V9, hV9⟩ : ∃ V, V = ((B0.setCell ⟨b, v, none⟩ (nv ya)).setCell ⟨b, q, none⟩ (nv xa)).drew := ⟨_, rfl⟩
                      have HF : Hid (Gn w b n (Go.Sort.swp d2 v q) PR (fun d => partialIns lt a e r u (shiftUp lt e (v + 1) d)) V9) := Lib.hid (by
                        rw [hV9, hxa, hya]
                        exact HB0.out.swp (by omega) (by have := HQ2.out; omega) (by show partialIns lt a e r u (shiftUp lt e v d2) = _; rw [shiftUp_go HQ2.out hvl Hc.out]))
                      have HV9 := Lib.hid hV9
                      clear hxa hya hV9 HB0
                      go_wp2_with fail
                      go_region
                      rw [← HV9.out]
                      clear HV9 ka kb fa fb fb' kz s0 s1 s2 s3
                      have w7 : IntKind.i64.wrap ((v : Int) + 1) = (v : Int) + 1 := IntWalk.i64_in _ (by omega)
                      go_wp2_with fail
                      go_roundw
                      case rel => exact ⟨v + 1, _, by go_num, by omega, by omega, HF⟩
                      case measure => simp [intOf]; omega
                  · have hvi : ¬ ((v : Int) < (e : Int)) := by omega
                    have HJ2 : Hid (Gn w b n d2 PR (partialIns lt a e r u) wr) := Lib.hid (HJ.out.to (by show partialIns lt a e r u (shiftUp lt e v d2) = _; rw [shiftUp_stop hq (.inl hvl)]))
                    clear HJ hq
                    have w6 : IntKind.i64.wrap ((s : Int) + 1) = (s : Int) + 1 := IntWalk.i64_in _ (by omega)
                    go_wp2_with fail
                    go_roundw
                    case rel => exact ⟨u, s + 1, d2, rfl, by go_num, by omega, by omega, by omega, by rw [show 5 - (s + 1) = r by have := HR.out; omega]; exact HJ2⟩
                    case measure => simp [intOf]; omega
              · have h2ui : ¬ ((2 : Int) ≤ (t2 : Int)) := by omega
                have HG : Hid (Gn w b n (dz) PR (partialIns lt a e r u) V9) := Lib.hid (HG7.out.to (by show partialIns lt a e r u (UpF e u _) = _; unfold UpF; rw [if_neg (by have := T2.out; omega)]))
                clear HG7 ht2
                have w6 : IntKind.i64.wrap ((s : Int) + 1) = (s : Int) + 1 := IntWalk.i64_in _ (by omega)
                go_wp2_with fail
                go_roundw
                case rel => exact ⟨u, s + 1, dz, rfl, by go_num, by omega, by omega, by omega, by rw [show 5 - (s + 1) = r by have := HR.out; omega]; exact HG⟩
                case measure => simp [intOf]; omega
      · obtain rfl : e = u := by omega
        have HU2 : Hid (scanSorted lt d1 e i = e) := Lib.hid (by rw [← HU.out]; exact scanSorted_stop hk (.inl hul))
        have HE : Hid (PR = (d1, true)) := Lib.hid (by rw [← HQ.out.eq]; exact partialIns_end HU2.out)
        clear hk HU
        have hui : ¬ ((e : Int) < (e : Int)) := by omega
        go_wp2_with fail
        go_quiet (fail)
        have HB0 : Hid (Gn w b n d1 PR (partialIns lt a e (r + 1) i) (wr.drewN nq)) := Lib.hid (HQ.out.up (belowDrewN _ _))
        go_wp2_with fail
        go_ret
        rw [HE.out]
        exact ⟨rfl, HB0.out.on, HB0.out.rw'⟩
end Go.Proofs.Yteglhcpochcopaa.srt
