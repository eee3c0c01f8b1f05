/- slices.siftDownOrdered over bytes. (Printed by sd.py.) -/
import Derived.Test.YteglhcpochcopaaSrtI
import Derived.Sort.LotB
namespace Go.Proofs.Yteglhcpochcopaa.srt
open Go.RowKit
open Go.Sort (siftDown)

theorem sift_end {hi F root : Nat} {d : Array Nat} (h : hi ≤ 2 * root + 1) : siftDown lt hi F root d = d := by rw [siftDown, dif_pos h]
/-- the greater child -/
theorem sift_one {hi F root : Nat} {d : Array Nat} (h : 2 * root + 1 < hi) (hg : 2 * root + 2 < hi → lt d[F + (2 * root + 1)]! d[F + (2 * root + 1) + 1]! = false) :
    siftDown lt hi F root d = if lt d[F + root]! d[F + (2 * root + 1)]! = true then siftDown lt hi F (2 * root + 1) (Go.Sort.swp d (F + root) (F + (2 * root + 1))) else d := by
  rw [siftDown, dif_neg (by omega)]
  by_cases h2 : 2 * root + 2 < hi
  · simp only [show 2 * root + 1 + 1 = 2 * root + 2 by omega, h2, hg h2, decide_true, Bool.and_false, Bool.false_eq_true, if_false]
    cases lt d[F + root]! d[F + (2 * root + 1)]! <;> rfl
  · have e : decide (2 * root + 1 + 1 < hi) = false := decide_eq_false (by omega)
    simp only [e, Bool.false_and, Bool.false_eq_true, if_false]
    cases lt d[F + root]! d[F + (2 * root + 1)]! <;> rfl
theorem sift_two {hi F root : Nat} {d : Array Nat} (h2 : 2 * root + 2 < hi) (hg : lt d[F + (2 * root + 1)]! d[F + (2 * root + 1) + 1]! = true) :
    siftDown lt hi F root d = if lt d[F + root]! d[F + (2 * root + 2)]! = true then siftDown lt hi F (2 * root + 2) (Go.Sort.swp d (F + root) (F + (2 * root + 2))) else d := by
  rw [siftDown, dif_neg (by omega)]
  simp only [show 2 * root + 1 + 1 = 2 * root + 2 by omega, h2, hg, decide_true, Bool.and_true, if_true, dite_true]
  cases lt d[F + root]! d[F + (2 * root + 2)]! <;> rfl

set_option maxRecDepth 100000 in
set_option maxHeartbeats 8000000 in
theorem sift_any (w : World) (b n c lo hi F : Nat) (d : Array Nat) (h : Rw w b d) (hn : d.size = n) (hb : n ≤ 1099511627776) (hF : F + hi ≤ n) (hlo : lo ≤ hi) :
    Calls Try.prog 49 #[.slice (some ⟨b, 0, none⟩) n c, .int .i64 (lo : Nat), .int .i64 (hi : Nat), .int .i64 (F : Nat)] w (Srt w b (siftDown lt hi F lo d)) := by
  obtain ⟨D, hD⟩ : ∃ D, D = siftDown lt hi F lo d := ⟨_, rfl⟩
  rw [← hD]
  have H0 : Hid (Ing w b n d D (siftDown lt hi F lo) w) := Lib.hid ⟨.refl _ _, h, hn, hD.symm⟩
  clear h hn hD
  go_enter Try.func49, Try.ntmps49
  go_wp2_with fail
  go_loopw [8] (fun iv wr => ∃ (r : Nat) (d' : Array Nat), iv = .int .i64 (r : Nat) ∧ r ≤ hi ∧ Hid (Ing w b n d' D (siftDown lt hi F r) wr)) (fun iv _ => hi - (intOf iv).toNat)
  case atStart => exact ⟨lo, d, rfl, hlo, H0⟩
  case round =>
    obtain ⟨r, d', rfl, hr, HS⟩ := hrel
    clear H0
    obtain ⟨c1, hc1⟩ : ∃ c, c = 2 * r + 1 := ⟨_, rfl⟩
    have w1 : IntKind.i64.wrap (2 * (r : Int)) = 2 * (r : Int) := IntWalk.i64_in _ (by omega)
    have w2 : IntKind.i64.wrap (2 * (r : Int) + 1) = (c1 : Int) := by rw [IntWalk.i64_in _ (by omega)]; omega
    by_cases hend : hi ≤ c1
    · have hge : (hi : Int) ≤ (c1 : Int) := by omega
      have HE : Hid (Srt w b D (.returned (.tuple #[])) wr) := Lib.hid ⟨rfl, HS.out.on, by have h := HS.out.eq; rw [sift_end (by omega)] at h; rw [← h]; exact HS.out.rw'⟩
      clear HS
      go_wp2_with fail
      go_end0
      exact HE.out
    have hge : ¬ ((hi : Int) ≤ (c1 : Int)) := by omega
    obtain ⟨c2, hc2⟩ : ∃ c, c = c1 + 1 := ⟨_, rfl⟩
    have w3 : IntKind.i64.wrap ((c1 : Int) + 1) = (c2 : Int) := by rw [IntWalk.i64_in _ (by omega)]; omega
    obtain ⟨fr, hfr⟩ : ∃ c, c = F + r := ⟨_, rfl⟩
    obtain ⟨f1, hf1⟩ : ∃ c, c = F + c1 := ⟨_, rfl⟩
    have wr1 : IntKind.i64.wrap ((F : Int) + (r : Int)) = (fr : Int) := by rw [IntWalk.i64_in _ (by omega)]; omega
    have wf1 : IntKind.i64.wrap ((F : Int) + (c1 : Int)) = (f1 : Int) := by rw [IntWalk.i64_in _ (by omega)]; omega
    have r0 : (0 : Int) ≤ (fr : Int) := by omega
    have r1 : (fr : Int) < (n : Int) := by omega
    have g0 : (0 : Int) ≤ (f1 : Int) := by omega
    have g1 : (f1 : Int) < (n : Int) := by omega
    obtain ⟨x, hx⟩ : ∃ x, x = d'[fr]! := ⟨_, rfl⟩
    obtain ⟨y1, hy1⟩ : ∃ x, x = d'[f1]! := ⟨_, rfl⟩
    have k0 := HS.out.rw'.c fr (by rw [HS.out.n]; omega)
    have k1 := HS.out.rw'.c f1 (by rw [HS.out.n]; omega)
    rw [← hx] at k0
    rw [← hy1] at k1
    have HX := Lib.hid (And.intro hc1 (And.intro hc2 (And.intro hfr (And.intro hf1 (And.intro hx hy1)))))
    by_cases h2 : c2 < hi
    · obtain ⟨f2, hf2⟩ : ∃ c, c = f1 + 1 := ⟨_, rfl⟩
      have wf2 : IntKind.i64.wrap ((f1 : Int) + 1) = (f2 : Int) := by rw [IntWalk.i64_in _ (by omega)]; omega
      have wg2 : IntKind.i64.wrap ((F : Int) + (c2 : Int)) = (f2 : Int) := by rw [IntWalk.i64_in _ (by omega)]; omega
      have hi2 : (c2 : Int) < (hi : Int) := by omega
      have t0 : (0 : Int) ≤ (f2 : Int) := by omega
      have t1 : (f2 : Int) < (n : Int) := by omega
      obtain ⟨y2, hy2⟩ : ∃ x, x = d'[f2]! := ⟨_, rfl⟩
      have k2 := HS.out.rw'.c f2 (by rw [HS.out.n]; omega)
      rw [← hy2] at k2
      have HL3 := Lib.hid (fun W => Less_any y1 y2 W)
      have HF2 := Lib.hid (And.intro hf2 hy2)
      cases hc3 : lt y1 y2 with
      | false =>
        rw [hc3] at HL3
        have HEQ := Lib.hid (sift_one (d := d') (hi := hi) (F := F) (root := r) (by omega) (fun h => by rw [← hc1, ← hf1, ← hf2, ← hy1, ← hy2]; exact hc3))
        rw [← hc1] at HEQ
        have HFC := Lib.hid hf1
        have HYC := Lib.hid hy1
        clear hx hy1 hc1 hc2 hfr hf1 hend hf2 hy2 hc3
        go_wp2_with fail
        go_quiet ((go_at_call 44; exact quietOf (HL3.out _)))
        have HQ : Hid (Ing w b n d' D (siftDown lt hi F r) (wr.drewN nq)) := Lib.hid (HS.out.up (belowDrewN _ _))
        obtain ⟨U, hU⟩ : ∃ U, U = wr.drewN nq := ⟨_, rfl⟩
        rw [← hU] at HQ ⊢
        have k0 := HQ.out.rw'.c fr (by rw [HQ.out.n]; obtain ⟨hc1, hc2, hfr, hf1, _⟩ := HX.out; omega)
        have k1 := HQ.out.rw'.c f1 (by rw [HQ.out.n]; obtain ⟨hc1, hc2, hfr, hf1, _⟩ := HX.out; omega)
        rw [← HX.out.2.2.2.2.1] at k0
        rw [← HYC.out] at k1
        clear hU HS
        have HL5 := Lib.hid (fun W => Less_any x y1 W)
        cases hc5 : lt x y1 with
        | false =>
          rw [hc5] at HL5
          have e5 : lt d'[F + r]! d'[F + c1]! = false := by rw [← HX.out.2.2.1, ← HFC.out, ← HX.out.2.2.2.2.1, ← HYC.out]; exact hc5
          have HE : Hid (∀ V, Below (U).heap.size (U) V → Srt w b D (.returned (.tuple #[])) V) := Lib.hid fun V hV => by
            have h := HQ.out.eq
            rw [HEQ.out, if_neg (by rw [e5]; simp)] at h
            exact ⟨rfl, HQ.out.on.trans (.below hV), by rw [← h]; exact HQ.out.rw'.up hV⟩
          clear e5 hc5
          go_wp2_with fail
          go_quiet ((go_at_call 44; exact quietOf (HL5.out _)))
          go_wp2_with fail
          go_end0
          exact HE.out _ (by exact belowDrewN _ _)
        | true =>
          rw [hc5] at HL5
          have e5 : lt d'[F + r]! d'[F + c1]! = true := by rw [← HX.out.2.2.1, ← HFC.out, ← HX.out.2.2.2.2.1, ← HYC.out]; exact hc5
          have HN0 : Hid (∀ V, Below (U).heap.size (U) V → Ing w b n d' D (fun d => siftDown lt hi F c1 (Go.Sort.swp d fr f1)) V) := Lib.hid fun V hV => (HQ.out.up hV).to (by
            show siftDown lt hi F r d' = siftDown lt hi F c1 (Go.Sort.swp d' fr f1)
            rw [HEQ.out, if_pos e5, HX.out.2.2.1, HFC.out])
          clear e5 hc5
          go_wp2_with fail
          go_quiet ((go_at_call 44; exact quietOf (HL5.out _)))
          obtain ⟨V, hV⟩ : ∃ V, V = U.drewN nq := ⟨_, rfl⟩
          have HN := HN0.out V (by rw [hV]; exact belowDrewN _ _)
          rw [← hV]
          have k1 := HN.rw'.c fr (by rw [HN.n]; clear HN; have hfc := HFC.out; obtain ⟨hc1, hc2, hfr, hf1, _⟩ := HX.out; omega)
          have k2 := HN.rw'.c f1 (by rw [HN.n]; clear HN; have hfc := HFC.out; obtain ⟨hc1, hc2, hfr, hf1, _⟩ := HX.out; omega)
          rw [← HX.out.2.2.2.2.1] at k1
          rw [← HYC.out] at k2
          have fj := HN.rw'.f fr
          have fk := HN.rw'.f f1
          have fk' := (frozenSet V b fr f1 (nv y1)).trans fk
          obtain ⟨z, kz⟩ := HN.rw'.mid (i := fr) (j := f1) (by rw [HN.n]; clear HN; have hfc := HFC.out; obtain ⟨hc1, hc2, hfr, hf1, _⟩ := HX.out; omega) (nv y1)
          have HF : Hid (Ing w b n (Go.Sort.swp d' fr f1) D (siftDown lt hi F c1) (((V.setCell ⟨b, fr, none⟩ (nv y1)).setCell ⟨b, f1, none⟩ (nv x)).drew)) := Lib.hid (by
            rw [HX.out.2.2.2.2.1, HYC.out]
            exact HN.swp (by have hfc := HFC.out; obtain ⟨hc1, hc2, hfr, hf1, _⟩ := HX.out; omega) (by have hfc := HFC.out; obtain ⟨hc1, hc2, hfr, hf1, _⟩ := HX.out; omega) rfl)
          clear hV HN HN0
          go_wp2_with fail
          go_region
          go_wp2_with fail
          go_roundw
          case rel => exact ⟨c1, Go.Sort.swp d' fr f1, rfl, by obtain ⟨hc1, hc2, hfr, hf1, _⟩ := HX.out; omega, HF⟩
          case measure => simp [intOf]; obtain ⟨hc1, hc2, hfr, hf1, _⟩ := HX.out; omega
      | true =>
        rw [hc3] at HL3
        have HEQ := Lib.hid (sift_two (d := d') (hi := hi) (F := F) (root := r) (by omega) (by rw [← hc1, ← hf1, ← hf2, ← hy1, ← hy2]; exact hc3))
        rw [show 2 * r + 2 = c2 by omega] at HEQ
        have HFC : Hid (f2 = F + c2) := Lib.hid (by omega)
        have HYC := Lib.hid hy2
        clear hx hy1 hc1 hc2 hfr hf1 hend hf2 hy2 hc3
        go_wp2_with fail
        go_quiet ((go_at_call 44; exact quietOf (HL3.out _)))
        have HQ : Hid (Ing w b n d' D (siftDown lt hi F r) (wr.drewN nq)) := Lib.hid (HS.out.up (belowDrewN _ _))
        obtain ⟨U, hU⟩ : ∃ U, U = wr.drewN nq := ⟨_, rfl⟩
        rw [← hU] at HQ ⊢
        have k0 := HQ.out.rw'.c fr (by rw [HQ.out.n]; obtain ⟨hc1, hc2, hfr, hf1, _⟩ := HX.out; omega)
        have k1 := HQ.out.rw'.c f2 (by rw [HQ.out.n]; have := HF2.out.1; obtain ⟨hc1, hc2, hfr, hf1, _⟩ := HX.out; omega)
        rw [← HX.out.2.2.2.2.1] at k0
        rw [← HYC.out] at k1
        clear hU HS
        have HL5 := Lib.hid (fun W => Less_any x y2 W)
        cases hc5 : lt x y2 with
        | false =>
          rw [hc5] at HL5
          have e5 : lt d'[F + r]! d'[F + c2]! = false := by rw [← HX.out.2.2.1, ← HFC.out, ← HX.out.2.2.2.2.1, ← HYC.out]; exact hc5
          have HE : Hid (∀ V, Below (U).heap.size (U) V → Srt w b D (.returned (.tuple #[])) V) := Lib.hid fun V hV => by
            have h := HQ.out.eq
            rw [HEQ.out, if_neg (by rw [e5]; simp)] at h
            exact ⟨rfl, HQ.out.on.trans (.below hV), by rw [← h]; exact HQ.out.rw'.up hV⟩
          clear e5 hc5
          go_wp2_with fail
          go_quiet ((go_at_call 44; exact quietOf (HL5.out _)))
          go_wp2_with fail
          go_end0
          exact HE.out _ (by exact belowDrewN _ _)
        | true =>
          rw [hc5] at HL5
          have e5 : lt d'[F + r]! d'[F + c2]! = true := by rw [← HX.out.2.2.1, ← HFC.out, ← HX.out.2.2.2.2.1, ← HYC.out]; exact hc5
          have HN0 : Hid (∀ V, Below (U).heap.size (U) V → Ing w b n d' D (fun d => siftDown lt hi F c2 (Go.Sort.swp d fr f2)) V) := Lib.hid fun V hV => (HQ.out.up hV).to (by
            show siftDown lt hi F r d' = siftDown lt hi F c2 (Go.Sort.swp d' fr f2)
            rw [HEQ.out, if_pos e5, HX.out.2.2.1, HFC.out])
          clear e5 hc5
          go_wp2_with fail
          go_quiet ((go_at_call 44; exact quietOf (HL5.out _)))
          obtain ⟨V, hV⟩ : ∃ V, V = U.drewN nq := ⟨_, rfl⟩
          have HN := HN0.out V (by rw [hV]; exact belowDrewN _ _)
          rw [← hV]
          have k1 := HN.rw'.c fr (by rw [HN.n]; clear HN; have hfc := HFC.out; obtain ⟨hc1, hc2, hfr, hf1, _⟩ := HX.out; omega)
          have k2 := HN.rw'.c f2 (by rw [HN.n]; clear HN; have hfc := HFC.out; obtain ⟨hc1, hc2, hfr, hf1, _⟩ := HX.out; omega)
          rw [← HX.out.2.2.2.2.1] at k1
          rw [← HYC.out] at k2
          have fj := HN.rw'.f fr
          have fk := HN.rw'.f f2
          have fk' := (frozenSet V b fr f2 (nv y2)).trans fk
          obtain ⟨z, kz⟩ := HN.rw'.mid (i := fr) (j := f2) (by rw [HN.n]; clear HN; have hfc := HFC.out; obtain ⟨hc1, hc2, hfr, hf1, _⟩ := HX.out; omega) (nv y2)
          have HF : Hid (Ing w b n (Go.Sort.swp d' fr f2) D (siftDown lt hi F c2) (((V.setCell ⟨b, fr, none⟩ (nv y2)).setCell ⟨b, f2, none⟩ (nv x)).drew)) := Lib.hid (by
            rw [HX.out.2.2.2.2.1, HYC.out]
            exact HN.swp (by have hfc := HFC.out; obtain ⟨hc1, hc2, hfr, hf1, _⟩ := HX.out; omega) (by have hfc := HFC.out; obtain ⟨hc1, hc2, hfr, hf1, _⟩ := HX.out; omega) rfl)
          clear hV HN HN0
          go_wp2_with fail
          go_region
          go_wp2_with fail
          go_roundw
          case rel => exact ⟨c2, Go.Sort.swp d' fr f2, rfl, by obtain ⟨hc1, hc2, hfr, hf1, _⟩ := HX.out; omega, HF⟩
          case measure => simp [intOf]; obtain ⟨hc1, hc2, hfr, hf1, _⟩ := HX.out; omega
    · have hg2 : ¬ ((c2 : Int) < (hi : Int)) := by omega
      have HEQ := Lib.hid (sift_one (d := d') (hi := hi) (F := F) (root := r) (by omega) (fun h => by omega))
      rw [← hc1] at HEQ
      have HFC := Lib.hid hf1
      have HYC := Lib.hid hy1
      clear hx hy1 hc1 hc2 hfr hf1 hend
      go_wp2_with fail
      go_quiet (fail)
      have HQ : Hid (Ing w b n d' D (siftDown lt hi F r) (wr.drewN nq)) := Lib.hid (HS.out.up (belowDrewN _ _))
      obtain ⟨U, hU⟩ : ∃ U, U = wr.drewN nq := ⟨_, rfl⟩
      rw [← hU] at HQ ⊢
      have k0 := HQ.out.rw'.c fr (by rw [HQ.out.n]; obtain ⟨hc1, hc2, hfr, hf1, _⟩ := HX.out; omega)
      have k1 := HQ.out.rw'.c f1 (by rw [HQ.out.n]; obtain ⟨hc1, hc2, hfr, hf1, _⟩ := HX.out; omega)
      rw [← HX.out.2.2.2.2.1] at k0
      rw [← HYC.out] at k1
      clear hU HS
      have HL5 := Lib.hid (fun W => Less_any x y1 W)
      cases hc5 : lt x y1 with
      | false =>
        rw [hc5] at HL5
        have e5 : lt d'[F + r]! d'[F + c1]! = false := by rw [← HX.out.2.2.1, ← HFC.out, ← HX.out.2.2.2.2.1, ← HYC.out]; exact hc5
        have HE : Hid (∀ V, Below (U).heap.size (U) V → Srt w b D (.returned (.tuple #[])) V) := Lib.hid fun V hV => by
          have h := HQ.out.eq
          rw [HEQ.out, if_neg (by rw [e5]; simp)] at h
          exact ⟨rfl, HQ.out.on.trans (.below hV), by rw [← h]; exact HQ.out.rw'.up hV⟩
        clear e5 hc5
        go_wp2_with fail
        go_quiet ((go_at_call 44; exact quietOf (HL5.out _)))
        go_wp2_with fail
        go_end0
        exact HE.out _ (by exact belowDrewN _ _)
      | true =>
        rw [hc5] at HL5
        have e5 : lt d'[F + r]! d'[F + c1]! = true := by rw [← HX.out.2.2.1, ← HFC.out, ← HX.out.2.2.2.2.1, ← HYC.out]; exact hc5
        have HN0 : Hid (∀ V, Below (U).heap.size (U) V → Ing w b n d' D (fun d => siftDown lt hi F c1 (Go.Sort.swp d fr f1)) V) := Lib.hid fun V hV => (HQ.out.up hV).to (by
          show siftDown lt hi F r d' = siftDown lt hi F c1 (Go.Sort.swp d' fr f1)
          rw [HEQ.out, if_pos e5, HX.out.2.2.1, HFC.out])
        clear e5 hc5
        go_wp2_with fail
        go_quiet ((go_at_call 44; exact quietOf (HL5.out _)))
        obtain ⟨V, hV⟩ : ∃ V, V = U.drewN nq := ⟨_, rfl⟩
        have HN := HN0.out V (by rw [hV]; exact belowDrewN _ _)
        rw [← hV]
        have k1 := HN.rw'.c fr (by rw [HN.n]; clear HN; have hfc := HFC.out; obtain ⟨hc1, hc2, hfr, hf1, _⟩ := HX.out; omega)
        have k2 := HN.rw'.c f1 (by rw [HN.n]; clear HN; have hfc := HFC.out; obtain ⟨hc1, hc2, hfr, hf1, _⟩ := HX.out; omega)
        rw [← HX.out.2.2.2.2.1] at k1
        rw [← HYC.out] at k2
        have fj := HN.rw'.f fr
        have fk := HN.rw'.f f1
        have fk' := (frozenSet V b fr f1 (nv y1)).trans fk
        obtain ⟨z, kz⟩ := HN.rw'.mid (i := fr) (j := f1) (by rw [HN.n]; clear HN; have hfc := HFC.out; obtain ⟨hc1, hc2, hfr, hf1, _⟩ := HX.out; omega) (nv y1)
        have HF : Hid (Ing w b n (Go.Sort.swp d' fr f1) D (siftDown lt hi F c1) (((V.setCell ⟨b, fr, none⟩ (nv y1)).setCell ⟨b, f1, none⟩ (nv x)).drew)) := Lib.hid (by
          rw [HX.out.2.2.2.2.1, HYC.out]
          exact HN.swp (by have hfc := HFC.out; obtain ⟨hc1, hc2, hfr, hf1, _⟩ := HX.out; omega) (by have hfc := HFC.out; obtain ⟨hc1, hc2, hfr, hf1, _⟩ := HX.out; omega) rfl)
        clear hV HN HN0
        go_wp2_with fail
        go_region
        go_wp2_with fail
        go_roundw
        case rel => exact ⟨c1, Go.Sort.swp d' fr f1, rfl, by obtain ⟨hc1, hc2, hfr, hf1, _⟩ := HX.out; omega, HF⟩
        case measure => simp [intOf]; obtain ⟨hc1, hc2, hfr, hf1, _⟩ := HX.out; omega
end Go.Proofs.Yteglhcpochcopaa.srt
