/- slices.insertionSortOrdered over bytes. -/
import Derived.Test.YteglhcpochcopaaSrtB
namespace Go.Proofs.Yteglhcpochcopaa.srt
open Go.RowKit
open Go.Sort (insInner insOuter insertionSort)

theorem insOuter_go {a e i : Nat} {d : Array Nat} (h : i < e) : insOuter lt a e i d = insOuter lt a e (i + 1) (insInner lt a i d) := by rw [insOuter, if_pos h]
theorem insOuter_end {a e i : Nat} {d : Array Nat} (h : ¬ i < e) : insOuter lt a e i d = d := by rw [insOuter, if_neg h]
theorem insInner_end {a j : Nat} {d : Array Nat} (h : ¬ a < j) : insInner lt a j d = d := by
  cases j with
  | zero => rfl
  | succ j => rw [insInner, if_neg (by simp; omega)]
theorem insInner_stop {a j k : Nat} {d : Array Nat} (hk : j = k + 1) (h : lt d[j]! d[k]! = false) : insInner lt a j d = d := by
  subst hk
  rw [insInner, if_neg (by simp [h])]
theorem insInner_go {a j k : Nat} {d : Array Nat} (hk : j = k + 1) (hj : a < j) (h : lt d[j]! d[k]! = true) : insInner lt a j d = insInner lt a k (Go.Sort.swp d j k) := by
  subst hk
  rw [insInner, if_pos (by simp [h]; omega)]
/-- while it is sorted: what stands in the row, what is left to be made of it -/
structure Ing (w : World) (b n : Nat) (d D : Array Nat) (f : Array Nat → Array Nat) (wr : World) : Prop where
  on : On b w wr
  rw' : Rw wr b d
  n : d.size = n
  eq : f d = D
theorem Ing.up {w : World} {b n : Nat} {d D : Array Nat} {f : Array Nat → Array Nat} {wr wq : World} (h : Ing w b n d D f wr) (hb : Below wr.heap.size wr wq) : Ing w b n d D f wq := ⟨h.on.trans (.below hb), h.rw'.up hb, h.n, h.eq⟩
theorem Ing.to {w : World} {b n : Nat} {d D : Array Nat} {f g : Array Nat → Array Nat} {wr : World} (h : Ing w b n d D f wr) (e : f d = g d) : Ing w b n d D g wr := ⟨h.on, h.rw', h.n, e ▸ h.eq⟩
theorem Ing.swp {w : World} {b n : Nat} {d D : Array Nat} {f g : Array Nat → Array Nat} {wr : World} (h : Ing w b n d D f wr) {i j : Nat} (hi : i < n) (hj : j < n) (e : f d = g (Go.Sort.swp d i j)) :
    Ing w b n (Go.Sort.swp d i j) D g (((wr.setCell ⟨b, i, none⟩ (nv d[j]!)).setCell ⟨b, j, none⟩ (nv d[i]!)).drew) :=
  ⟨h.on.trans (On.swp b wr i j _ _), h.rw'.swp (by rw [h.n]; exact hi) (by rw [h.n]; exact hj), by rw [Go.Sort.swp_size]; exact h.n, e ▸ h.eq⟩

set_option maxRecDepth 100000 in
set_option maxHeartbeats 8000000 in
theorem insertion_any (w : World) (b n c a e : Nat) (d : Array Nat) (h : Rw w b d) (hn : d.size = n) (hb : n ≤ 1099511627776) (he : e ≤ n) (ha : a ≤ n) :
    Calls Try.prog 38 #[.slice (some ⟨b, 0, none⟩) n c, .int .i64 (a : Nat), .int .i64 (e : Nat)] w (Srt w b (insertionSort lt d a e)) := by
  obtain ⟨D, hD⟩ : ∃ D, D = insertionSort lt d a e := ⟨_, rfl⟩
  rw [← hD]
  have H0 : Hid (Ing w b n d D (insOuter lt a e (a + 1)) w) := Lib.hid ⟨.refl _ _, h, hn, hD.symm⟩
  have hw1 : IntKind.i64.wrap ((a : Int) + 1) = (a : Int) + 1 := IntWalk.i64_in _ (by omega)
  clear h hn hD
  go_enter Try.func38, Try.ntmps38
  go_wp2_with fail
  go_loopw [6] (fun iv wr => ∃ (i : Nat) (d' : Array Nat), iv = .int .i64 (i : Nat) ∧ 1 ≤ i ∧ i ≤ n + 1 ∧ Hid (Ing w b n d' D (insOuter lt a e i) wr)) (fun iv _ => n + 2 - (intOf iv).toNat)
  case atStart => exact ⟨a + 1, d, by go_num, by omega, by omega, H0⟩
  case round =>
    obtain ⟨i, d', rfl, hi1, hi2, HS⟩ := hrel
    clear H0 hw1
    by_cases hie : i < e
    · have hlt : (i : Int) < (e : Int) := by omega
      have hw1 : IntKind.i64.wrap ((i : Int) + 1) = (i : Int) + 1 := IntWalk.i64_in _ (by omega)
      have H1 : Hid (Ing w b n d' D (fun d => insOuter lt a e (i + 1) (insInner lt a i d)) wr) := Lib.hid (HS.out.to (insOuter_go hie))
      clear HS
      go_wp2_with fail
      go_loopw [7] (fun jv wq => ∃ (j : Nat) (d2 : Array Nat), jv = .int .i64 (j : Nat) ∧ j ≤ i ∧ Hid (Ing w b n d2 D (fun d => insOuter lt a e (i + 1) (insInner lt a j d)) wq)) (fun jv _ => (intOf jv).toNat)
      case atStart => exact ⟨i, d', rfl, Nat.le_refl _, H1⟩
      case round =>
        obtain ⟨j, d2, rfl, hji, HS⟩ := hrel
        clear H1
        by_cases haj : a < j
        · have hgt : (a : Int) < (j : Int) := by omega
          obtain ⟨k, hk⟩ : ∃ k, j = k + 1 := ⟨j - 1, by omega⟩
          have hw2 : IntKind.i64.wrap ((j : Int) - 1) = (k : Int) := by rw [IntWalk.i64_in _ (by omega)]; omega
          have k1 := HS.out.rw'.c j (by rw [HS.out.n]; omega)
          have k2 := HS.out.rw'.c k (by rw [HS.out.n]; omega)
          have j0 : (0 : Int) ≤ (j : Int) := by omega
          have j1 : (j : Int) < (n : Int) := by omega
          have q0 : (0 : Int) ≤ (k : Int) := by omega
          have q1 : (k : Int) < (n : Int) := by omega
          have HL := Lib.hid (fun W => Less_any d2[j]! d2[k]! W)
          cases hc : lt d2[j]! d2[k]! with
          | false =>
            rw [hc] at HL
            obtain ⟨x, hx⟩ : ∃ x, x = d2[j]! := ⟨_, rfl⟩
            obtain ⟨y, hy⟩ : ∃ x, x = d2[k]! := ⟨_, rfl⟩
            rw [← hx] at k1 HL
            rw [← hy] at k2 HL
            have HC := Lib.hid hc
            have HK := Lib.hid hk
            clear hc hx hy hk
            go_wp2_with fail
            go_quiet ((go_at_call 44; exact quietOf (HL.out _)))
            have HN : Hid (Ing w b n d2 D (insOuter lt a e (i + 1)) (wr.drewN nq)) := Lib.hid ((HS.out.up (belowDrewN _ _)).to (by show insOuter lt a e (i + 1) (insInner lt a j d2) = _; rw [insInner_stop HK.out HC.out]))
            go_wp2_with fail
            go_roundw
            case rel => exact ⟨i + 1, d2, by go_num, by omega, by omega, HN⟩
            case measure => simp [intOf]; omega
          | true =>
            rw [hc] at HL
            obtain ⟨x, hx⟩ : ∃ x, x = d2[j]! := ⟨_, rfl⟩
            obtain ⟨y, hy⟩ : ∃ x, x = d2[k]! := ⟨_, rfl⟩
            rw [← hx] at k1 HL
            rw [← hy] at k2 HL
            have HC := Lib.hid hc
            have HK := Lib.hid (And.intro hk (And.intro hx hy))
            clear hc hx hy hk
            go_wp2_with fail
            go_quiet ((go_at_call 44; exact quietOf (HL.out _)))
            have HN : Hid (Ing w b n d2 D (fun d => insOuter lt a e (i + 1) (insInner lt a j d)) (wr.drewN nq)) := Lib.hid (HS.out.up (belowDrewN _ _))
            obtain ⟨V, hV⟩ : ∃ V, V = wr.drewN nq := ⟨_, rfl⟩
            rw [← hV] at HN ⊢
            have k1 := HN.out.rw'.c j (by rw [HN.out.n]; omega)
            have k2 := HN.out.rw'.c k (by rw [HN.out.n]; omega)
            rw [← HK.out.2.1] at k1
            rw [← HK.out.2.2] at k2
            have fj := HN.out.rw'.f j
            have fk := HN.out.rw'.f k
            have fk' := (frozenSet V b j k (nv y)).trans fk
            obtain ⟨z, kz⟩ := HN.out.rw'.mid (i := j) (j := k) (by rw [HN.out.n]; omega) (nv y)
            have HF : Hid (Ing w b n (Go.Sort.swp d2 j k) D (fun d => insOuter lt a e (i + 1) (insInner lt a k d)) (((V.setCell ⟨b, j, none⟩ (nv y)).setCell ⟨b, k, none⟩ (nv x)).drew)) := Lib.hid (by
              rw [HK.out.2.1, HK.out.2.2]
              exact HN.out.swp (by omega) (by omega) (by rw [insInner_go HK.out.1 haj HC.out]))
            clear hV HN
            go_wp2_with fail
            go_region
            go_wp2_with fail
            go_roundw
            case rel => exact ⟨k, Go.Sort.swp d2 j k, rfl, by have := HK.out.1; omega, HF⟩
            case measure => simp [intOf]; have := HK.out.1; omega
        · have hgt : ¬ ((a : Int) < (j : Int)) := by omega
          have H2 : Hid (Ing w b n d2 D (insOuter lt a e (i + 1)) wr) := Lib.hid (HS.out.to (by show insOuter lt a e (i + 1) (insInner lt a j d2) = _; rw [insInner_end haj]))
          clear HS
          go_wp2_with fail
          go_quiet (fail)
          have HN : Hid (Ing w b n d2 D (insOuter lt a e (i + 1)) (wr.drewN nq)) := Lib.hid (H2.out.up (belowDrewN _ _))
          go_wp2_with fail
          go_roundw
          case rel => exact ⟨i + 1, d2, by go_num, by omega, by omega, HN⟩
          case measure => simp [intOf]; omega
    · have hlt : ¬ ((i : Int) < (e : Int)) := by omega
      have HE : Hid (Srt w b D (.returned (.tuple #[])) wr) := Lib.hid ⟨rfl, HS.out.on, by have h := HS.out.eq; rw [insOuter_end hie] at h; rw [← h]; exact HS.out.rw'⟩
      clear HS
      go_wp2_with fail
      go_end0
      exact HE.out
end Go.Proofs.Yteglhcpochcopaa.srt
