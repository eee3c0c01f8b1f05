/- slices.pdqsortOrdered over bytes. (Printed by sq.py.) -/
import Derived.Test.YteglhcpochcopaaSrtQ
import Derived.Sort.LotD3
import Derived.Deep.Cut
namespace Go.Proofs.Yteglhcpochcopaa.srt
open Go.RowKit
open Go.Sort (PermIn SortedIn permIn_refl permIn_trans permIn_mono)

/-- what a call that sorts [a, e) leaves -/
def Fin (w : World) (b a e : Nat) (d : Array Nat) (en : Ending) (w' : World) : Prop := ∃ d', en = .returned (.tuple #[]) ∧ PermIn a e d d' ∧ SortedIn lt a e d' ∧ On b w w' ∧ Rw w' b d'
/-- while it is sorted: what is sorted of [a', e') is all -/
structure Jn (w : World) (b n a e : Nat) (d : Array Nat) (a' e' : Nat) (d' : Array Nat) (wr : World) : Prop where
  on : On b w wr
  rw' : Rw wr b d'
  n : d'.size = n
  bel : Go.Sort.Below lt a' e' d'
  all : ∀ R, PermIn a' e' d' R → SortedIn lt a' e' R → PermIn a e d R ∧ SortedIn lt a e R
theorem Jn.up {w : World} {b n a e : Nat} {d : Array Nat} {a' e' : Nat} {d' : Array Nat} {wr wq : World} (h : Jn w b n a e d a' e' d' wr) (hb : Below wr.heap.size wr wq) : Jn w b n a e d a' e' d' wq := ⟨h.on.trans (.below hb), h.rw'.up hb, h.n, h.bel, h.all⟩
theorem Jn.per {w : World} {b n a e : Nat} {d : Array Nat} {a' e' : Nat} {d' d2 : Array Nat} {wr wq : World} (h : Jn w b n a e d a' e' d' wr) (he : e' ≤ n) (hp : PermIn a' e' d' d2) (ho : On b wr wq) (hr : Rw wq b d2) : Jn w b n a e d a' e' d2 wq :=
  ⟨h.on.trans ho, hr, by rw [hp.1]; exact h.n, h.bel.perm (by rw [h.n]; exact he) hp, fun R h1 h2 => h.all R (permIn_trans _ _ _ _ _ hp h1) h2⟩
theorem Jn.fin {w : World} {b n a e : Nat} {d : Array Nat} {a' e' : Nat} {d' d2 : Array Nat} {wr wq : World} (h : Jn w b n a e d a' e' d' wr) (hp : PermIn a' e' d' d2) (hs : SortedIn lt a' e' d2) (ho : On b wr wq) (hr : Rw wq b d2) : Fin w b a e d (.returned (.tuple #[])) wq := by
  obtain ⟨h1, h2⟩ := h.all d2 hp hs
  exact ⟨d2, rfl, h1, h2, h.on.trans ho, hr⟩
theorem part_eq {d3 : Array Nat} {a e p : Nat} {PL : Nat × Array Nat} (h : Go.Sort.partLoop lt a (a + 1) (e - 1) (Go.Sort.swp d3 a p) = PL) : Go.Sort.partition lt d3 a e p = (PL.1, (Go.Sort.partition lt d3 a e p).2.1, Go.Sort.swp PL.2 PL.1 a) := by
  rw [← h]
  exact Prod.ext (Go.Sort.partition_fst ..) (Prod.ext rfl (Go.Sort.partition_arr ..))

set_option maxRecDepth 100000 in
set_option maxHeartbeats 32000000 in
theorem pdq_step (m : Nat) (ih : ∀ (w : World) (b n c a e lim : Nat) (d : Array Nat), e - a ≤ m → Rw w b d → d.size = n → n ≤ 1099511627776 → a ≤ e → e ≤ n → lim ≤ 100 → Go.Sort.Below lt a e d →
      Calls Try.prog 36 #[.slice (some ⟨b, 0, none⟩) n c, .int .i64 (a : Nat), .int .i64 (e : Nat), .int .i64 (lim : Nat)] w (Fin w b a e d))
    (w : World) (b n c a e lim : Nat) (d : Array Nat) (hm : e - a ≤ m + 1) (h : Rw w b d) (hn : d.size = n) (hb : n ≤ 1099511627776) (hae : a ≤ e) (he : e ≤ n) (hlim : lim ≤ 100) (hbel : Go.Sort.Below lt a e d) :
    Calls Try.prog 36 #[.slice (some ⟨b, 0, none⟩) n c, .int .i64 (a : Nat), .int .i64 (e : Nat), .int .i64 (lim : Nat)] w (Fin w b a e d) := by
  have HJ : Hid (Jn w b n a e d a e d w) := Lib.hid ⟨.refl _ _, h, hn, hbel, fun R h1 h2 => ⟨h1, h2⟩⟩
  have IH := Lib.hid ih
  clear h hn hbel ih
  go_enter Try.func36, Try.ntmps36
  go_wp2_with fail
  go_loopw [1, 2, 3, 8, 9] (fun av ev lv bv pv wr => ∃ (a' e' lim' : Nat) (wb wp : Bool) (d' : Array Nat), av = .int .i64 (a' : Nat) ∧ ev = .int .i64 (e' : Nat) ∧ lv = .int .i64 (lim' : Nat) ∧ bv = .bool wb ∧ pv = .bool wp ∧ a' ≤ e' ∧ e' ≤ n ∧ e' - a' ≤ m + 1 ∧ lim' ≤ 100 ∧ Hid (Jn w b n a e d a' e' d' wr)) (fun av ev _ _ _ _ => (intOf ev).toNat - (intOf av).toNat)
  case atStart => exact ⟨a, e, lim, true, true, d, rfl, rfl, rfl, rfl, rfl, hae, he, hm, hlim, HJ⟩
  case round =>
    obtain ⟨a', e', lim', wb, wp, d', rfl, rfl, rfl, rfl, rfl, hae', hen, hem, hl1, HS⟩ := hrel
    clear HJ hm hae he hlim
    obtain ⟨l, hl⟩ : ∃ l, l = e' - a' := ⟨_, rfl⟩
    have wl : IntKind.i64.wrap ((e' : Int) - (a' : Int)) = (l : Int) := wi (by omega) (by omega)
    have HL := Lib.hid hl
    by_cases h12 : l ≤ 12
    · have h12i : (l : Int) ≤ 12 := by omega
      have HC := Lib.hid (insertion_any wr b n c a' e' d' HS.out.rw' HS.out.n hb hen (by omega))
      have HP := Lib.hid (Go.Sort.insertionSort_holds swo d' a' e' hae' (by rw [HS.out.n]; exact hen))
      clear hl
      go_wp2_with fail
      refine HC.out.mono ?_
      rintro en w2 ⟨rfl, on2, rw2⟩
      have HF := Lib.hid (HS.out.fin HP.out.1 HP.out.2 on2 rw2)
      clear on2 rw2 HC
      go_wp2_with fail
      (try simp only [Exit.inBlock, Exit.then])
      refine bodyPost_ret (results_none rfl _ _ _) rfl ?_
      exact HF.out
    have h12i : ¬ ((l : Int) ≤ 12) := by omega
    by_cases h0 : lim' = 0
    · subst h0
      have HC := Lib.hid (heap_any wr b n c a' e' d' HS.out.rw' HS.out.n hb (by omega) hen)
      have HP := Lib.hid (Go.Sort.heapSort_holds swo d' a' e' hae' (by rw [HS.out.n]; exact hen))
      clear hl
      go_wp2_with fail
      refine HC.out.mono ?_
      rintro en w2 ⟨rfl, on2, rw2⟩
      have HF := Lib.hid (HS.out.fin HP.out.1 HP.out.2 on2 rw2)
      clear on2 rw2 HC
      go_wp2_with fail
      (try simp only [Exit.inBlock, Exit.then])
      refine bodyPost_ret (results_none rfl _ _ _) rfl ?_
      exact HF.out
    have h0i : ((lim' : Int) == 0) = false := by rw [beq_eq_false_iff_ne]; omega
    have ha13 : a' + 13 ≤ e' := by omega
    clear hl
    go_upto_if 35 with fail
    go_cut [3] from 19 (fun s3 wc => ∃ (lim2 : Nat) (d2 : Array Nat), s3 = .int .i64 (lim2 : Nat) ∧ lim2 ≤ 100 ∧ Hid (Jn w b n a e d a' e' d2 wc))
    case first =>
      cases wb with
      | true =>
        go_wp2_with fail
        go_meet
        case rel => exact ⟨lim', d', rfl, hl1, HS⟩
      | false =>
        have HC := Lib.hid (break_any wr b n c a' e' d' HS.out.rw' HS.out.n hb (by omega) hen)
        obtain ⟨l2, hl2⟩ : ∃ l2, lim' = l2 + 1 := ⟨lim' - 1, by omega⟩
        have wl2 : IntKind.i64.wrap ((lim' : Int) - 1) = (l2 : Int) := wi (by omega) (by omega)
        have HL2 := Lib.hid hl2
        clear hl2
        go_wp2_with fail
        refine HC.out.mono ?_
        rintro en w2 ⟨d2, rfl, hp2, on2, rw2⟩
        have HN := Lib.hid (HS.out.per hen hp2 on2 rw2)
        clear hp2 on2 rw2 HC HS
        go_wp2_with fail
        go_meet
        case rel => exact ⟨l2, d2, rfl, by have := HL2.out; omega, HN⟩
    case rest =>
      obtain ⟨lim2, d2, rfl, hl2, HT⟩ := hcut
      clear HS
      have HC := Lib.hid (choose_any wc b n c a' e' d2 HT.out.rw' HT.out.n hb (by omega) hen)
      go_upto_if 50 with (go_at_call 41; refine HC.out.mono ?_; rintro en w2 ⟨p, z, rfl, hap, hpe, hb2⟩)
      have HT2 := Lib.hid (HT.out.up hb2)
      clear HT hb2 HC
      go_cut [11, 12] from 19 (fun s11 s12 wc => ∃ (p2 : Nat) (z2 : Int) (d3 : Array Nat), s11 = .int .i64 (p2 : Nat) ∧ s12 = .int .i64 z2 ∧ a' ≤ p2 ∧ p2 < e' ∧ Hid (Jn w b n a e d a' e' d3 wc))
      case first =>
        by_cases hz : z = 2
        · have hzi : (z == 2) = true := by rw [hz]; rfl
          have HC := Lib.hid (reverse_any w2 b n c a' e' d2 HT2.out.rw' HT2.out.n hb (by omega) hen)
          obtain ⟨e1, he1⟩ : ∃ e1, e1 = e' - 1 := ⟨_, rfl⟩
          obtain ⟨p1, hp1⟩ : ∃ p1, p1 = p - a' := ⟨_, rfl⟩
          obtain ⟨p2, hp2⟩ : ∃ p2, p2 = e1 - p1 := ⟨_, rfl⟩
          have W1 : IntKind.i64.wrap ((e' : Int) - 1) = (e1 : Int) := wi (by omega) (by omega)
          have W2 : IntKind.i64.wrap ((p : Int) - (a' : Int)) = (p1 : Int) := wi (by omega) (by omega)
          have W3 : IntKind.i64.wrap ((e1 : Int) - (p1 : Int)) = (p2 : Int) := wi (by omega) (by omega)
          have HZ := Lib.hid (And.intro he1 (And.intro hp1 hp2))
          clear hz he1 hp1 hp2
          go_wp2_with fail
          refine HC.out.mono ?_
          rintro en w3 ⟨d3, rfl, hp3, on3, rw3⟩
          have HN := Lib.hid (HT2.out.per hen hp3 on3 rw3)
          clear hp3 on3 rw3 HC HT2
          go_wp2_with fail
          go_meet
          case rel => exact ⟨p2, 1, d3, rfl, rfl, by have := HZ.out; omega, by have := HZ.out; omega, HN⟩
        · have hzi : (z == 2) = false := by rw [beq_eq_false_iff_ne]; exact hz
          clear hz
          go_wp2_with fail
          go_meet
          case rel => exact ⟨p, z, d2, rfl, rfl, hap, hpe, HT2⟩
      case rest =>
        clear hap hpe HT2
        obtain ⟨p, z, d3, rfl, rfl, hap, hpe, HT⟩ := hcut
        cases wb with
        | false =>
          have HALL := Lib.hid HT.out.all
          by_cases ha0 : 0 < a'
          · have ha0i : (0 : Int) < (a' : Int) := by omega
            obtain ⟨q, hq⟩ : ∃ q, a' = q + 1 := ⟨a' - 1, by omega⟩
            have wq : IntKind.i64.wrap ((a' : Int) - 1) = (q : Int) := wi (by omega) (by omega)
            have kk1 := HT.out.rw'.c q (by rw [HT.out.n]; omega)
            have kk2 := HT.out.rw'.c p (by rw [HT.out.n]; omega)
            have i0 : (0 : Int) ≤ (q : Int) := by omega
            have i1 : (q : Int) < (n : Int) := by omega
            have j0 : (0 : Int) ≤ (p : Int) := by omega
            have j1 : (p : Int) < (n : Int) := by omega
            obtain ⟨x, hx⟩ : ∃ x, x = d3[q]! := ⟨_, rfl⟩
            obtain ⟨y, hy⟩ : ∃ x, x = d3[p]! := ⟨_, rfl⟩
            rw [← hx] at kk1
            rw [← hy] at kk2
            have HL5 := Lib.hid (fun W => Less_any x y W)
            have HQ := Lib.hid (And.intro hq (And.intro hx hy))
            clear hq
            cases hc : lt x y with
            | false =>
              rw [hc] at HL5
              have Hc : Hid (lt d3[a' - 1]! d3[p]! = false) := Lib.hid (by rw [show a' - 1 = q by have := HQ.out.1; omega, ← hx, ← hy]; exact hc)
              clear hx hy hc
              go_wp2_with fail
              go_quiet ((go_at_call 44; exact quietOf (HL5.out _)))
              obtain ⟨U, hU⟩ : ∃ V, V = wc.drewN nq := ⟨_, rfl⟩
              have HU : Hid (Jn w b n a e d a' e' d3 U) := Lib.hid (by rw [hU]; exact HT.out.up (belowDrewN _ _))
              rw [← hU]
              clear hU HT kk1 kk2 i0 i1 wq
              have HT := HU
              clear HU
              obtain ⟨PL, hPL⟩ : ∃ PL, Go.Sort.partEqLoop lt a' (a' + 1) (e' - 1) (Go.Sort.swp d3 a' p) = PL := ⟨_, rfl⟩
              have HC := Lib.hid (equal_any U b n c a' e' p d3 HT.out.rw' HT.out.n hb hap hpe (by omega) hen PL hPL)
              have HP := Lib.hid (Go.Sort.round_eq swo (Go.Sort.partitionEqual_holds lt) ha0 hap hpe (by rw [HT.out.n]; exact hen) HT.out.bel Hc.out (show Go.Sort.partitionEqual lt d3 a' e' p = (PL.1, PL.2) from hPL))
              clear hPL
              go_wp2_with fail
              refine HC.out.mono ?_
              rintro en w5 ⟨rfl, on5, rw5⟩
              clear HC
              obtain ⟨mid, d4⟩ := PL
              simp only at HP rw5
              obtain ⟨hm1, hm2, hsz, hb5, hall⟩ := HP.out
              have HN : Hid (Jn w b n a e d mid e' d4 w5) := Lib.hid ⟨HT.out.on.trans on5, rw5, hsz.trans HT.out.n, hb5, fun R h1 h2 => by obtain ⟨h3, h4⟩ := hall R h1 h2; exact HALL.out R h3 h4⟩
              clear on5 rw5 hsz hb5 hall HP HT
              go_wp2_with fail
              go_roundw
              case rel => exact ⟨mid, e', lim2, _, _, d4, rfl, rfl, rfl, rfl, rfl, hm2, hen, by omega, hl2, HN⟩
              case measure => simp [intOf]; omega
            | true =>
              rw [hc] at HL5
              clear hx hy hc
              go_wp2_with fail
              go_quiet ((go_at_call 44; exact quietOf (HL5.out _)))
              obtain ⟨U, hU⟩ : ∃ V, V = wc.drewN nq := ⟨_, rfl⟩
              have HU : Hid (Jn w b n a e d a' e' d3 U) := Lib.hid (by rw [hU]; exact HT.out.up (belowDrewN _ _))
              rw [← hU]
              clear hU HT kk1 kk2 i0 i1 wq
              have HT := HU
              clear HU
              go_wp2_with fail
              obtain ⟨PL, hPL⟩ : ∃ PL, Go.Sort.partLoop lt a' (a' + 1) (e' - 1) (Go.Sort.swp d3 a' p) = PL := ⟨_, rfl⟩
              have HC := Lib.hid (partition_any U b n c a' e' p d3 HT.out.rw' HT.out.n hb hap hpe (by omega) hen PL hPL)
              have HP := Lib.hid (Go.Sort.round_part swo (Go.Sort.partition_holds lt) hap hpe (by rw [HT.out.n]; exact hen) HT.out.bel (part_eq hPL))
              obtain ⟨mid, d4⟩ := PL
              simp only at HC HP
              clear hPL
              refine HC.out.mono ?_
              rintro en w5 ⟨ap, rfl, on5, rw5⟩
              clear HC
              obtain ⟨hm1, hm2, hsz, _⟩ := HP.out
              obtain ⟨d5, hd5⟩ : ∃ d5, d5 = Go.Sort.swp d4 mid a' := ⟨_, rfl⟩
              rw [← hd5] at HP rw5 hsz
              clear hd5
              have HO := Lib.hid (And.intro (HT.out.on.trans on5) (And.intro rw5 (hsz.trans HT.out.n)))
              obtain ⟨lf, hlf⟩ : ∃ x, x = mid - a' := ⟨_, rfl⟩
              obtain ⟨rt, hrt⟩ : ∃ x, x = e' - mid := ⟨_, rfl⟩
              have W1 : IntKind.i64.wrap ((mid : Int) - (a' : Int)) = (lf : Int) := wi (by omega) (by omega)
              have W2 : IntKind.i64.wrap ((e' : Int) - (mid : Int)) = (rt : Int) := wi (by omega) (by omega)
              have W3 : IntKind.i64.wrap ((mid : Int) + 1) = ((mid + 1 : Nat) : Int) := wi (by omega) (by omega)
              have HM := Lib.hid (And.intro hlf hrt)
              clear on5 rw5 hsz HT hlf hrt
              by_cases hlr : lf < rt
              · have hlri : (lf : Int) < (rt : Int) := by omega
                have HI := Lib.hid (IH.out w5 b n c a' mid lim2 d5 (by omega) HO.out.2.1 HO.out.2.2 hb hm1 (by omega) hl2 HP.out.2.2.2.1)
                go_wp2_with fail
                refine HI.out.mono ?_
                rintro en w6 ⟨d6, rfl, hp6, hs6, on6, rw6⟩
                clear HI
                obtain ⟨hb6, hall⟩ := HP.out.2.2.2.2.2.1 d6 hp6 hs6
                have HN : Hid (Jn w b n a e d (mid + 1) e' d6 w6) := Lib.hid ⟨HO.out.1.trans on6, rw6, by rw [hp6.1]; exact HO.out.2.2, hb6, fun R h1 h2 => by obtain ⟨h3, h4⟩ := hall R h1 h2; exact HALL.out R h3 h4⟩
                clear hp6 hs6 on6 rw6 hb6 hall HP HO
                go_wp2_with fail
                go_roundw
                case rel => exact ⟨mid + 1, e', lim2, _, _, d6, by go_num, rfl, rfl, rfl, rfl, by omega, hen, by omega, hl2, HN⟩
                case measure => simp [intOf]; omega
              · have hlri : ¬ ((lf : Int) < (rt : Int)) := by omega
                have HI := Lib.hid (IH.out w5 b n c (mid + 1) e' lim2 d5 (by omega) HO.out.2.1 HO.out.2.2 hb (by omega) hen hl2 HP.out.2.2.2.2.1)
                go_wp2_with fail
                refine HI.out.mono ?_
                rintro en w6 ⟨d6, rfl, hp6, hs6, on6, rw6⟩
                clear HI
                obtain ⟨hb6, hall⟩ := HP.out.2.2.2.2.2.2 d6 hp6 hs6
                have HN : Hid (Jn w b n a e d a' mid d6 w6) := Lib.hid ⟨HO.out.1.trans on6, rw6, by rw [hp6.1]; exact HO.out.2.2, hb6, fun R h1 h2 => by obtain ⟨h3, h4⟩ := hall R h1 h2; exact HALL.out R h3 h4⟩
                clear hp6 hs6 on6 rw6 hb6 hall HP HO
                go_wp2_with fail
                go_roundw
                case rel => exact ⟨a', mid, lim2, _, _, d6, rfl, rfl, rfl, rfl, rfl, hm1, by omega, by omega, hl2, HN⟩
                case measure => simp [intOf]; omega
          · have ha0i : ¬ ((0 : Int) < (a' : Int)) := by omega
            go_wp2_with fail
            go_quiet (fail)
            obtain ⟨U, hU⟩ : ∃ V, V = wc.drewN nq := ⟨_, rfl⟩
            have HU : Hid (Jn w b n a e d a' e' d3 U) := Lib.hid (by rw [hU]; exact HT.out.up (belowDrewN _ _))
            rw [← hU]
            clear hU HT
            have HT := HU
            clear HU
            go_wp2_with fail
            obtain ⟨PL, hPL⟩ : ∃ PL, Go.Sort.partLoop lt a' (a' + 1) (e' - 1) (Go.Sort.swp d3 a' p) = PL := ⟨_, rfl⟩
            have HC := Lib.hid (partition_any U b n c a' e' p d3 HT.out.rw' HT.out.n hb hap hpe (by omega) hen PL hPL)
            have HP := Lib.hid (Go.Sort.round_part swo (Go.Sort.partition_holds lt) hap hpe (by rw [HT.out.n]; exact hen) HT.out.bel (part_eq hPL))
            obtain ⟨mid, d4⟩ := PL
            simp only at HC HP
            clear hPL
            refine HC.out.mono ?_
            rintro en w5 ⟨ap, rfl, on5, rw5⟩
            clear HC
            obtain ⟨hm1, hm2, hsz, _⟩ := HP.out
            obtain ⟨d5, hd5⟩ : ∃ d5, d5 = Go.Sort.swp d4 mid a' := ⟨_, rfl⟩
            rw [← hd5] at HP rw5 hsz
            clear hd5
            have HO := Lib.hid (And.intro (HT.out.on.trans on5) (And.intro rw5 (hsz.trans HT.out.n)))
            obtain ⟨lf, hlf⟩ : ∃ x, x = mid - a' := ⟨_, rfl⟩
            obtain ⟨rt, hrt⟩ : ∃ x, x = e' - mid := ⟨_, rfl⟩
            have W1 : IntKind.i64.wrap ((mid : Int) - (a' : Int)) = (lf : Int) := wi (by omega) (by omega)
            have W2 : IntKind.i64.wrap ((e' : Int) - (mid : Int)) = (rt : Int) := wi (by omega) (by omega)
            have W3 : IntKind.i64.wrap ((mid : Int) + 1) = ((mid + 1 : Nat) : Int) := wi (by omega) (by omega)
            have HM := Lib.hid (And.intro hlf hrt)
            clear on5 rw5 hsz HT hlf hrt
            by_cases hlr : lf < rt
            · have hlri : (lf : Int) < (rt : Int) := by omega
              have HI := Lib.hid (IH.out w5 b n c a' mid lim2 d5 (by omega) HO.out.2.1 HO.out.2.2 hb hm1 (by omega) hl2 HP.out.2.2.2.1)
              go_wp2_with fail
              refine HI.out.mono ?_
              rintro en w6 ⟨d6, rfl, hp6, hs6, on6, rw6⟩
              clear HI
              obtain ⟨hb6, hall⟩ := HP.out.2.2.2.2.2.1 d6 hp6 hs6
              have HN : Hid (Jn w b n a e d (mid + 1) e' d6 w6) := Lib.hid ⟨HO.out.1.trans on6, rw6, by rw [hp6.1]; exact HO.out.2.2, hb6, fun R h1 h2 => by obtain ⟨h3, h4⟩ := hall R h1 h2; exact HALL.out R h3 h4⟩
              clear hp6 hs6 on6 rw6 hb6 hall HP HO
              go_wp2_with fail
              go_roundw
              case rel => exact ⟨mid + 1, e', lim2, _, _, d6, by go_num, rfl, rfl, rfl, rfl, by omega, hen, by omega, hl2, HN⟩
              case measure => simp [intOf]; omega
            · have hlri : ¬ ((lf : Int) < (rt : Int)) := by omega
              have HI := Lib.hid (IH.out w5 b n c (mid + 1) e' lim2 d5 (by omega) HO.out.2.1 HO.out.2.2 hb (by omega) hen hl2 HP.out.2.2.2.2.1)
              go_wp2_with fail
              refine HI.out.mono ?_
              rintro en w6 ⟨d6, rfl, hp6, hs6, on6, rw6⟩
              clear HI
              obtain ⟨hb6, hall⟩ := HP.out.2.2.2.2.2.2 d6 hp6 hs6
              have HN : Hid (Jn w b n a e d a' mid d6 w6) := Lib.hid ⟨HO.out.1.trans on6, rw6, by rw [hp6.1]; exact HO.out.2.2, hb6, fun R h1 h2 => by obtain ⟨h3, h4⟩ := hall R h1 h2; exact HALL.out R h3 h4⟩
              clear hp6 hs6 on6 rw6 hb6 hall HP HO
              go_wp2_with fail
              go_roundw
              case rel => exact ⟨a', mid, lim2, _, _, d6, rfl, rfl, rfl, rfl, rfl, hm1, by omega, by omega, hl2, HN⟩
              case measure => simp [intOf]; omega
        | true =>
          cases wp with
          | false =>
            have HALL := Lib.hid HT.out.all
            by_cases ha0 : 0 < a'
            · have ha0i : (0 : Int) < (a' : Int) := by omega
              obtain ⟨q, hq⟩ : ∃ q, a' = q + 1 := ⟨a' - 1, by omega⟩
              have wq : IntKind.i64.wrap ((a' : Int) - 1) = (q : Int) := wi (by omega) (by omega)
              have kk1 := HT.out.rw'.c q (by rw [HT.out.n]; omega)
              have kk2 := HT.out.rw'.c p (by rw [HT.out.n]; omega)
              have i0 : (0 : Int) ≤ (q : Int) := by omega
              have i1 : (q : Int) < (n : Int) := by omega
              have j0 : (0 : Int) ≤ (p : Int) := by omega
              have j1 : (p : Int) < (n : Int) := by omega
              obtain ⟨x, hx⟩ : ∃ x, x = d3[q]! := ⟨_, rfl⟩
              obtain ⟨y, hy⟩ : ∃ x, x = d3[p]! := ⟨_, rfl⟩
              rw [← hx] at kk1
              rw [← hy] at kk2
              have HL5 := Lib.hid (fun W => Less_any x y W)
              have HQ := Lib.hid (And.intro hq (And.intro hx hy))
              clear hq
              cases hc : lt x y with
              | false =>
                rw [hc] at HL5
                have Hc : Hid (lt d3[a' - 1]! d3[p]! = false) := Lib.hid (by rw [show a' - 1 = q by have := HQ.out.1; omega, ← hx, ← hy]; exact hc)
                clear hx hy hc
                go_wp2_with fail
                go_quiet ((go_at_call 44; exact quietOf (HL5.out _)))
                obtain ⟨U, hU⟩ : ∃ V, V = wc.drewN nq := ⟨_, rfl⟩
                have HU : Hid (Jn w b n a e d a' e' d3 U) := Lib.hid (by rw [hU]; exact HT.out.up (belowDrewN _ _))
                rw [← hU]
                clear hU HT kk1 kk2 i0 i1 wq
                have HT := HU
                clear HU
                obtain ⟨PL, hPL⟩ : ∃ PL, Go.Sort.partEqLoop lt a' (a' + 1) (e' - 1) (Go.Sort.swp d3 a' p) = PL := ⟨_, rfl⟩
                have HC := Lib.hid (equal_any U b n c a' e' p d3 HT.out.rw' HT.out.n hb hap hpe (by omega) hen PL hPL)
                have HP := Lib.hid (Go.Sort.round_eq swo (Go.Sort.partitionEqual_holds lt) ha0 hap hpe (by rw [HT.out.n]; exact hen) HT.out.bel Hc.out (show Go.Sort.partitionEqual lt d3 a' e' p = (PL.1, PL.2) from hPL))
                clear hPL
                go_wp2_with fail
                refine HC.out.mono ?_
                rintro en w5 ⟨rfl, on5, rw5⟩
                clear HC
                obtain ⟨mid, d4⟩ := PL
                simp only at HP rw5
                obtain ⟨hm1, hm2, hsz, hb5, hall⟩ := HP.out
                have HN : Hid (Jn w b n a e d mid e' d4 w5) := Lib.hid ⟨HT.out.on.trans on5, rw5, hsz.trans HT.out.n, hb5, fun R h1 h2 => by obtain ⟨h3, h4⟩ := hall R h1 h2; exact HALL.out R h3 h4⟩
                clear on5 rw5 hsz hb5 hall HP HT
                go_wp2_with fail
                go_roundw
                case rel => exact ⟨mid, e', lim2, _, _, d4, rfl, rfl, rfl, rfl, rfl, hm2, hen, by omega, hl2, HN⟩
                case measure => simp [intOf]; omega
              | true =>
                rw [hc] at HL5
                clear hx hy hc
                go_wp2_with fail
                go_quiet ((go_at_call 44; exact quietOf (HL5.out _)))
                obtain ⟨U, hU⟩ : ∃ V, V = wc.drewN nq := ⟨_, rfl⟩
                have HU : Hid (Jn w b n a e d a' e' d3 U) := Lib.hid (by rw [hU]; exact HT.out.up (belowDrewN _ _))
                rw [← hU]
                clear hU HT kk1 kk2 i0 i1 wq
                have HT := HU
                clear HU
                go_wp2_with fail
                obtain ⟨PL, hPL⟩ : ∃ PL, Go.Sort.partLoop lt a' (a' + 1) (e' - 1) (Go.Sort.swp d3 a' p) = PL := ⟨_, rfl⟩
                have HC := Lib.hid (partition_any U b n c a' e' p d3 HT.out.rw' HT.out.n hb hap hpe (by omega) hen PL hPL)
                have HP := Lib.hid (Go.Sort.round_part swo (Go.Sort.partition_holds lt) hap hpe (by rw [HT.out.n]; exact hen) HT.out.bel (part_eq hPL))
                obtain ⟨mid, d4⟩ := PL
                simp only at HC HP
                clear hPL
                refine HC.out.mono ?_
                rintro en w5 ⟨ap, rfl, on5, rw5⟩
                clear HC
                obtain ⟨hm1, hm2, hsz, _⟩ := HP.out
                obtain ⟨d5, hd5⟩ : ∃ d5, d5 = Go.Sort.swp d4 mid a' := ⟨_, rfl⟩
                rw [← hd5] at HP rw5 hsz
                clear hd5
                have HO := Lib.hid (And.intro (HT.out.on.trans on5) (And.intro rw5 (hsz.trans HT.out.n)))
                obtain ⟨lf, hlf⟩ : ∃ x, x = mid - a' := ⟨_, rfl⟩
                obtain ⟨rt, hrt⟩ : ∃ x, x = e' - mid := ⟨_, rfl⟩
                have W1 : IntKind.i64.wrap ((mid : Int) - (a' : Int)) = (lf : Int) := wi (by omega) (by omega)
                have W2 : IntKind.i64.wrap ((e' : Int) - (mid : Int)) = (rt : Int) := wi (by omega) (by omega)
                have W3 : IntKind.i64.wrap ((mid : Int) + 1) = ((mid + 1 : Nat) : Int) := wi (by omega) (by omega)
                have HM := Lib.hid (And.intro hlf hrt)
                clear on5 rw5 hsz HT hlf hrt
                by_cases hlr : lf < rt
                · have hlri : (lf : Int) < (rt : Int) := by omega
                  have HI := Lib.hid (IH.out w5 b n c a' mid lim2 d5 (by omega) HO.out.2.1 HO.out.2.2 hb hm1 (by omega) hl2 HP.out.2.2.2.1)
                  go_wp2_with fail
                  refine HI.out.mono ?_
                  rintro en w6 ⟨d6, rfl, hp6, hs6, on6, rw6⟩
                  clear HI
                  obtain ⟨hb6, hall⟩ := HP.out.2.2.2.2.2.1 d6 hp6 hs6
                  have HN : Hid (Jn w b n a e d (mid + 1) e' d6 w6) := Lib.hid ⟨HO.out.1.trans on6, rw6, by rw [hp6.1]; exact HO.out.2.2, hb6, fun R h1 h2 => by obtain ⟨h3, h4⟩ := hall R h1 h2; exact HALL.out R h3 h4⟩
                  clear hp6 hs6 on6 rw6 hb6 hall HP HO
                  go_wp2_with fail
                  go_roundw
                  case rel => exact ⟨mid + 1, e', lim2, _, _, d6, by go_num, rfl, rfl, rfl, rfl, by omega, hen, by omega, hl2, HN⟩
                  case measure => simp [intOf]; omega
                · have hlri : ¬ ((lf : Int) < (rt : Int)) := by omega
                  have HI := Lib.hid (IH.out w5 b n c (mid + 1) e' lim2 d5 (by omega) HO.out.2.1 HO.out.2.2 hb (by omega) hen hl2 HP.out.2.2.2.2.1)
                  go_wp2_with fail
                  refine HI.out.mono ?_
                  rintro en w6 ⟨d6, rfl, hp6, hs6, on6, rw6⟩
                  clear HI
                  obtain ⟨hb6, hall⟩ := HP.out.2.2.2.2.2.2 d6 hp6 hs6
                  have HN : Hid (Jn w b n a e d a' mid d6 w6) := Lib.hid ⟨HO.out.1.trans on6, rw6, by rw [hp6.1]; exact HO.out.2.2, hb6, fun R h1 h2 => by obtain ⟨h3, h4⟩ := hall R h1 h2; exact HALL.out R h3 h4⟩
                  clear hp6 hs6 on6 rw6 hb6 hall HP HO
                  go_wp2_with fail
                  go_roundw
                  case rel => exact ⟨a', mid, lim2, _, _, d6, rfl, rfl, rfl, rfl, rfl, hm1, by omega, by omega, hl2, HN⟩
                  case measure => simp [intOf]; omega
            · have ha0i : ¬ ((0 : Int) < (a' : Int)) := by omega
              go_wp2_with fail
              go_quiet (fail)
              obtain ⟨U, hU⟩ : ∃ V, V = wc.drewN nq := ⟨_, rfl⟩
              have HU : Hid (Jn w b n a e d a' e' d3 U) := Lib.hid (by rw [hU]; exact HT.out.up (belowDrewN _ _))
              rw [← hU]
              clear hU HT
              have HT := HU
              clear HU
              go_wp2_with fail
              obtain ⟨PL, hPL⟩ : ∃ PL, Go.Sort.partLoop lt a' (a' + 1) (e' - 1) (Go.Sort.swp d3 a' p) = PL := ⟨_, rfl⟩
              have HC := Lib.hid (partition_any U b n c a' e' p d3 HT.out.rw' HT.out.n hb hap hpe (by omega) hen PL hPL)
              have HP := Lib.hid (Go.Sort.round_part swo (Go.Sort.partition_holds lt) hap hpe (by rw [HT.out.n]; exact hen) HT.out.bel (part_eq hPL))
              obtain ⟨mid, d4⟩ := PL
              simp only at HC HP
              clear hPL
              refine HC.out.mono ?_
              rintro en w5 ⟨ap, rfl, on5, rw5⟩
              clear HC
              obtain ⟨hm1, hm2, hsz, _⟩ := HP.out
              obtain ⟨d5, hd5⟩ : ∃ d5, d5 = Go.Sort.swp d4 mid a' := ⟨_, rfl⟩
              rw [← hd5] at HP rw5 hsz
              clear hd5
              have HO := Lib.hid (And.intro (HT.out.on.trans on5) (And.intro rw5 (hsz.trans HT.out.n)))
              obtain ⟨lf, hlf⟩ : ∃ x, x = mid - a' := ⟨_, rfl⟩
              obtain ⟨rt, hrt⟩ : ∃ x, x = e' - mid := ⟨_, rfl⟩
              have W1 : IntKind.i64.wrap ((mid : Int) - (a' : Int)) = (lf : Int) := wi (by omega) (by omega)
              have W2 : IntKind.i64.wrap ((e' : Int) - (mid : Int)) = (rt : Int) := wi (by omega) (by omega)
              have W3 : IntKind.i64.wrap ((mid : Int) + 1) = ((mid + 1 : Nat) : Int) := wi (by omega) (by omega)
              have HM := Lib.hid (And.intro hlf hrt)
              clear on5 rw5 hsz HT hlf hrt
              by_cases hlr : lf < rt
              · have hlri : (lf : Int) < (rt : Int) := by omega
                have HI := Lib.hid (IH.out w5 b n c a' mid lim2 d5 (by omega) HO.out.2.1 HO.out.2.2 hb hm1 (by omega) hl2 HP.out.2.2.2.1)
                go_wp2_with fail
                refine HI.out.mono ?_
                rintro en w6 ⟨d6, rfl, hp6, hs6, on6, rw6⟩
                clear HI
                obtain ⟨hb6, hall⟩ := HP.out.2.2.2.2.2.1 d6 hp6 hs6
                have HN : Hid (Jn w b n a e d (mid + 1) e' d6 w6) := Lib.hid ⟨HO.out.1.trans on6, rw6, by rw [hp6.1]; exact HO.out.2.2, hb6, fun R h1 h2 => by obtain ⟨h3, h4⟩ := hall R h1 h2; exact HALL.out R h3 h4⟩
                clear hp6 hs6 on6 rw6 hb6 hall HP HO
                go_wp2_with fail
                go_roundw
                case rel => exact ⟨mid + 1, e', lim2, _, _, d6, by go_num, rfl, rfl, rfl, rfl, by omega, hen, by omega, hl2, HN⟩
                case measure => simp [intOf]; omega
              · have hlri : ¬ ((lf : Int) < (rt : Int)) := by omega
                have HI := Lib.hid (IH.out w5 b n c (mid + 1) e' lim2 d5 (by omega) HO.out.2.1 HO.out.2.2 hb (by omega) hen hl2 HP.out.2.2.2.2.1)
                go_wp2_with fail
                refine HI.out.mono ?_
                rintro en w6 ⟨d6, rfl, hp6, hs6, on6, rw6⟩
                clear HI
                obtain ⟨hb6, hall⟩ := HP.out.2.2.2.2.2.2 d6 hp6 hs6
                have HN : Hid (Jn w b n a e d a' mid d6 w6) := Lib.hid ⟨HO.out.1.trans on6, rw6, by rw [hp6.1]; exact HO.out.2.2, hb6, fun R h1 h2 => by obtain ⟨h3, h4⟩ := hall R h1 h2; exact HALL.out R h3 h4⟩
                clear hp6 hs6 on6 rw6 hb6 hall HP HO
                go_wp2_with fail
                go_roundw
                case rel => exact ⟨a', mid, lim2, _, _, d6, rfl, rfl, rfl, rfl, rfl, hm1, by omega, by omega, hl2, HN⟩
                case measure => simp [intOf]; omega
          | true =>
            by_cases hz : z = 1
            · have hzi : (z == 1) = true := by rw [hz]; rfl
              obtain ⟨PR, hPR⟩ : ∃ PR, Go.Sort.partialIns lt a' e' 5 (a' + 1) d3 = PR := ⟨_, rfl⟩
              have HC := Lib.hid (partial_any wc b n c a' e' d3 HT.out.rw' HT.out.n hb (by omega) hen PR hPR)
              have HP := Lib.hid (Go.Sort.partialInsertionSort_holds swo d3 a' e' (by omega) (by rw [HT.out.n]; exact hen) HT.out.bel)
              rw [show Go.Sort.partialInsertionSort lt d3 a' e' = PR from hPR] at HP
              clear hz hPR
              obtain ⟨d4, fin⟩ := PR
              simp only at HC HP
              go_wp2_with fail
              refine HC.out.mono ?_
              rintro en w4 ⟨rfl, on4, rw4⟩
              clear HC
              cases fin with
              | true =>
                have HF := Lib.hid (HT.out.fin HP.out.1 (HP.out.2 rfl) on4 rw4)
                clear on4 rw4
                go_wp2_with fail
                (try simp only [Exit.inBlock, Exit.then])
                refine bodyPost_ret (results_none rfl _ _ _) rfl ?_
                exact HF.out
              | false =>
                have HU := Lib.hid (HT.out.per hen HP.out.1 on4 rw4)
                clear on4 rw4 HT HP
                have HT := HU
                clear HU
                obtain ⟨d3, hd3⟩ : ∃ d3, d3 = d4 := ⟨_, rfl⟩
                rw [← hd3] at HT
                clear hd3
                have HALL := Lib.hid HT.out.all
                by_cases ha0 : 0 < a'
                · have ha0i : (0 : Int) < (a' : Int) := by omega
                  obtain ⟨q, hq⟩ : ∃ q, a' = q + 1 := ⟨a' - 1, by omega⟩
                  have wq : IntKind.i64.wrap ((a' : Int) - 1) = (q : Int) := wi (by omega) (by omega)
                  have kk1 := HT.out.rw'.c q (by rw [HT.out.n]; omega)
                  have kk2 := HT.out.rw'.c p (by rw [HT.out.n]; omega)
                  have i0 : (0 : Int) ≤ (q : Int) := by omega
                  have i1 : (q : Int) < (n : Int) := by omega
                  have j0 : (0 : Int) ≤ (p : Int) := by omega
                  have j1 : (p : Int) < (n : Int) := by omega
                  obtain ⟨x, hx⟩ : ∃ x, x = d3[q]! := ⟨_, rfl⟩
                  obtain ⟨y, hy⟩ : ∃ x, x = d3[p]! := ⟨_, rfl⟩
                  rw [← hx] at kk1
                  rw [← hy] at kk2
                  have HL5 := Lib.hid (fun W => Less_any x y W)
                  have HQ := Lib.hid (And.intro hq (And.intro hx hy))
                  clear hq
                  cases hc : lt x y with
                  | false =>
                    rw [hc] at HL5
                    have Hc : Hid (lt d3[a' - 1]! d3[p]! = false) := Lib.hid (by rw [show a' - 1 = q by have := HQ.out.1; omega, ← hx, ← hy]; exact hc)
                    clear hx hy hc
                    go_wp2_with fail
                    go_quiet ((go_at_call 44; exact quietOf (HL5.out _)))
                    obtain ⟨U, hU⟩ : ∃ V, V = w4.drewN nq := ⟨_, rfl⟩
                    have HU : Hid (Jn w b n a e d a' e' d3 U) := Lib.hid (by rw [hU]; exact HT.out.up (belowDrewN _ _))
                    rw [← hU]
                    clear hU HT kk1 kk2 i0 i1 wq
                    have HT := HU
                    clear HU
                    obtain ⟨PL, hPL⟩ : ∃ PL, Go.Sort.partEqLoop lt a' (a' + 1) (e' - 1) (Go.Sort.swp d3 a' p) = PL := ⟨_, rfl⟩
                    have HC := Lib.hid (equal_any U b n c a' e' p d3 HT.out.rw' HT.out.n hb hap hpe (by omega) hen PL hPL)
                    have HP := Lib.hid (Go.Sort.round_eq swo (Go.Sort.partitionEqual_holds lt) ha0 hap hpe (by rw [HT.out.n]; exact hen) HT.out.bel Hc.out (show Go.Sort.partitionEqual lt d3 a' e' p = (PL.1, PL.2) from hPL))
                    clear hPL
                    go_wp2_with fail
                    refine HC.out.mono ?_
                    rintro en w5 ⟨rfl, on5, rw5⟩
                    clear HC
                    obtain ⟨mid, d4⟩ := PL
                    simp only at HP rw5
                    obtain ⟨hm1, hm2, hsz, hb5, hall⟩ := HP.out
                    have HN : Hid (Jn w b n a e d mid e' d4 w5) := Lib.hid ⟨HT.out.on.trans on5, rw5, hsz.trans HT.out.n, hb5, fun R h1 h2 => by obtain ⟨h3, h4⟩ := hall R h1 h2; exact HALL.out R h3 h4⟩
                    clear on5 rw5 hsz hb5 hall HP HT
                    go_wp2_with fail
                    go_roundw
                    case rel => exact ⟨mid, e', lim2, _, _, d4, rfl, rfl, rfl, rfl, rfl, hm2, hen, by omega, hl2, HN⟩
                    case measure => simp [intOf]; omega
                  | true =>
                    rw [hc] at HL5
                    clear hx hy hc
                    go_wp2_with fail
                    go_quiet ((go_at_call 44; exact quietOf (HL5.out _)))
                    obtain ⟨U, hU⟩ : ∃ V, V = w4.drewN nq := ⟨_, rfl⟩
                    have HU : Hid (Jn w b n a e d a' e' d3 U) := Lib.hid (by rw [hU]; exact HT.out.up (belowDrewN _ _))
                    rw [← hU]
                    clear hU HT kk1 kk2 i0 i1 wq
                    have HT := HU
                    clear HU
                    go_wp2_with fail
                    obtain ⟨PL, hPL⟩ : ∃ PL, Go.Sort.partLoop lt a' (a' + 1) (e' - 1) (Go.Sort.swp d3 a' p) = PL := ⟨_, rfl⟩
                    have HC := Lib.hid (partition_any U b n c a' e' p d3 HT.out.rw' HT.out.n hb hap hpe (by omega) hen PL hPL)
                    have HP := Lib.hid (Go.Sort.round_part swo (Go.Sort.partition_holds lt) hap hpe (by rw [HT.out.n]; exact hen) HT.out.bel (part_eq hPL))
                    obtain ⟨mid, d4⟩ := PL
                    simp only at HC HP
                    clear hPL
                    refine HC.out.mono ?_
                    rintro en w5 ⟨ap, rfl, on5, rw5⟩
                    clear HC
                    obtain ⟨hm1, hm2, hsz, _⟩ := HP.out
                    obtain ⟨d5, hd5⟩ : ∃ d5, d5 = Go.Sort.swp d4 mid a' := ⟨_, rfl⟩
                    rw [← hd5] at HP rw5 hsz
                    clear hd5
                    have HO := Lib.hid (And.intro (HT.out.on.trans on5) (And.intro rw5 (hsz.trans HT.out.n)))
                    obtain ⟨lf, hlf⟩ : ∃ x, x = mid - a' := ⟨_, rfl⟩
                    obtain ⟨rt, hrt⟩ : ∃ x, x = e' - mid := ⟨_, rfl⟩
                    have W1 : IntKind.i64.wrap ((mid : Int) - (a' : Int)) = (lf : Int) := wi (by omega) (by omega)
                    have W2 : IntKind.i64.wrap ((e' : Int) - (mid : Int)) = (rt : Int) := wi (by omega) (by omega)
                    have W3 : IntKind.i64.wrap ((mid : Int) + 1) = ((mid + 1 : Nat) : Int) := wi (by omega) (by omega)
                    have HM := Lib.hid (And.intro hlf hrt)
                    clear on5 rw5 hsz HT hlf hrt
                    by_cases hlr : lf < rt
                    · have hlri : (lf : Int) < (rt : Int) := by omega
                      have HI := Lib.hid (IH.out w5 b n c a' mid lim2 d5 (by omega) HO.out.2.1 HO.out.2.2 hb hm1 (by omega) hl2 HP.out.2.2.2.1)
                      go_wp2_with fail
                      refine HI.out.mono ?_
                      rintro en w6 ⟨d6, rfl, hp6, hs6, on6, rw6⟩
                      clear HI
                      obtain ⟨hb6, hall⟩ := HP.out.2.2.2.2.2.1 d6 hp6 hs6
                      have HN : Hid (Jn w b n a e d (mid + 1) e' d6 w6) := Lib.hid ⟨HO.out.1.trans on6, rw6, by rw [hp6.1]; exact HO.out.2.2, hb6, fun R h1 h2 => by obtain ⟨h3, h4⟩ := hall R h1 h2; exact HALL.out R h3 h4⟩
                      clear hp6 hs6 on6 rw6 hb6 hall HP HO
                      go_wp2_with fail
                      go_roundw
                      case rel => exact ⟨mid + 1, e', lim2, _, _, d6, by go_num, rfl, rfl, rfl, rfl, by omega, hen, by omega, hl2, HN⟩
                      case measure => simp [intOf]; omega
                    · have hlri : ¬ ((lf : Int) < (rt : Int)) := by omega
                      have HI := Lib.hid (IH.out w5 b n c (mid + 1) e' lim2 d5 (by omega) HO.out.2.1 HO.out.2.2 hb (by omega) hen hl2 HP.out.2.2.2.2.1)
                      go_wp2_with fail
                      refine HI.out.mono ?_
                      rintro en w6 ⟨d6, rfl, hp6, hs6, on6, rw6⟩
                      clear HI
                      obtain ⟨hb6, hall⟩ := HP.out.2.2.2.2.2.2 d6 hp6 hs6
                      have HN : Hid (Jn w b n a e d a' mid d6 w6) := Lib.hid ⟨HO.out.1.trans on6, rw6, by rw [hp6.1]; exact HO.out.2.2, hb6, fun R h1 h2 => by obtain ⟨h3, h4⟩ := hall R h1 h2; exact HALL.out R h3 h4⟩
                      clear hp6 hs6 on6 rw6 hb6 hall HP HO
                      go_wp2_with fail
                      go_roundw
                      case rel => exact ⟨a', mid, lim2, _, _, d6, rfl, rfl, rfl, rfl, rfl, hm1, by omega, by omega, hl2, HN⟩
                      case measure => simp [intOf]; omega
                · have ha0i : ¬ ((0 : Int) < (a' : Int)) := by omega
                  go_wp2_with fail
                  go_quiet (fail)
                  obtain ⟨U, hU⟩ : ∃ V, V = w4.drewN nq := ⟨_, rfl⟩
                  have HU : Hid (Jn w b n a e d a' e' d3 U) := Lib.hid (by rw [hU]; exact HT.out.up (belowDrewN _ _))
                  rw [← hU]
                  clear hU HT
                  have HT := HU
                  clear HU
                  go_wp2_with fail
                  obtain ⟨PL, hPL⟩ : ∃ PL, Go.Sort.partLoop lt a' (a' + 1) (e' - 1) (Go.Sort.swp d3 a' p) = PL := ⟨_, rfl⟩
                  have HC := Lib.hid (partition_any U b n c a' e' p d3 HT.out.rw' HT.out.n hb hap hpe (by omega) hen PL hPL)
                  have HP := Lib.hid (Go.Sort.round_part swo (Go.Sort.partition_holds lt) hap hpe (by rw [HT.out.n]; exact hen) HT.out.bel (part_eq hPL))
                  obtain ⟨mid, d4⟩ := PL
                  simp only at HC HP
                  clear hPL
                  refine HC.out.mono ?_
                  rintro en w5 ⟨ap, rfl, on5, rw5⟩
                  clear HC
                  obtain ⟨hm1, hm2, hsz, _⟩ := HP.out
                  obtain ⟨d5, hd5⟩ : ∃ d5, d5 = Go.Sort.swp d4 mid a' := ⟨_, rfl⟩
                  rw [← hd5] at HP rw5 hsz
                  clear hd5
                  have HO := Lib.hid (And.intro (HT.out.on.trans on5) (And.intro rw5 (hsz.trans HT.out.n)))
                  obtain ⟨lf, hlf⟩ : ∃ x, x = mid - a' := ⟨_, rfl⟩
                  obtain ⟨rt, hrt⟩ : ∃ x, x = e' - mid := ⟨_, rfl⟩
                  have W1 : IntKind.i64.wrap ((mid : Int) - (a' : Int)) = (lf : Int) := wi (by omega) (by omega)
                  have W2 : IntKind.i64.wrap ((e' : Int) - (mid : Int)) = (rt : Int) := wi (by omega) (by omega)
                  have W3 : IntKind.i64.wrap ((mid : Int) + 1) = ((mid + 1 : Nat) : Int) := wi (by omega) (by omega)
                  have HM := Lib.hid (And.intro hlf hrt)
                  clear on5 rw5 hsz HT hlf hrt
                  by_cases hlr : lf < rt
                  · have hlri : (lf : Int) < (rt : Int) := by omega
                    have HI := Lib.hid (IH.out w5 b n c a' mid lim2 d5 (by omega) HO.out.2.1 HO.out.2.2 hb hm1 (by omega) hl2 HP.out.2.2.2.1)
                    go_wp2_with fail
                    refine HI.out.mono ?_
                    rintro en w6 ⟨d6, rfl, hp6, hs6, on6, rw6⟩
                    clear HI
                    obtain ⟨hb6, hall⟩ := HP.out.2.2.2.2.2.1 d6 hp6 hs6
                    have HN : Hid (Jn w b n a e d (mid + 1) e' d6 w6) := Lib.hid ⟨HO.out.1.trans on6, rw6, by rw [hp6.1]; exact HO.out.2.2, hb6, fun R h1 h2 => by obtain ⟨h3, h4⟩ := hall R h1 h2; exact HALL.out R h3 h4⟩
                    clear hp6 hs6 on6 rw6 hb6 hall HP HO
                    go_wp2_with fail
                    go_roundw
                    case rel => exact ⟨mid + 1, e', lim2, _, _, d6, by go_num, rfl, rfl, rfl, rfl, by omega, hen, by omega, hl2, HN⟩
                    case measure => simp [intOf]; omega
                  · have hlri : ¬ ((lf : Int) < (rt : Int)) := by omega
                    have HI := Lib.hid (IH.out w5 b n c (mid + 1) e' lim2 d5 (by omega) HO.out.2.1 HO.out.2.2 hb (by omega) hen hl2 HP.out.2.2.2.2.1)
                    go_wp2_with fail
                    refine HI.out.mono ?_
                    rintro en w6 ⟨d6, rfl, hp6, hs6, on6, rw6⟩
                    clear HI
                    obtain ⟨hb6, hall⟩ := HP.out.2.2.2.2.2.2 d6 hp6 hs6
                    have HN : Hid (Jn w b n a e d a' mid d6 w6) := Lib.hid ⟨HO.out.1.trans on6, rw6, by rw [hp6.1]; exact HO.out.2.2, hb6, fun R h1 h2 => by obtain ⟨h3, h4⟩ := hall R h1 h2; exact HALL.out R h3 h4⟩
                    clear hp6 hs6 on6 rw6 hb6 hall HP HO
                    go_wp2_with fail
                    go_roundw
                    case rel => exact ⟨a', mid, lim2, _, _, d6, rfl, rfl, rfl, rfl, rfl, hm1, by omega, by omega, hl2, HN⟩
                    case measure => simp [intOf]; omega
            · have hzi : (z == 1) = false := by rw [beq_eq_false_iff_ne]; exact hz
              clear hz
              have HALL := Lib.hid HT.out.all
              by_cases ha0 : 0 < a'
              · have ha0i : (0 : Int) < (a' : Int) := by omega
                obtain ⟨q, hq⟩ : ∃ q, a' = q + 1 := ⟨a' - 1, by omega⟩
                have wq : IntKind.i64.wrap ((a' : Int) - 1) = (q : Int) := wi (by omega) (by omega)
                have kk1 := HT.out.rw'.c q (by rw [HT.out.n]; omega)
                have kk2 := HT.out.rw'.c p (by rw [HT.out.n]; omega)
                have i0 : (0 : Int) ≤ (q : Int) := by omega
                have i1 : (q : Int) < (n : Int) := by omega
                have j0 : (0 : Int) ≤ (p : Int) := by omega
                have j1 : (p : Int) < (n : Int) := by omega
                obtain ⟨x, hx⟩ : ∃ x, x = d3[q]! := ⟨_, rfl⟩
                obtain ⟨y, hy⟩ : ∃ x, x = d3[p]! := ⟨_, rfl⟩
                rw [← hx] at kk1
                rw [← hy] at kk2
                have HL5 := Lib.hid (fun W => Less_any x y W)
                have HQ := Lib.hid (And.intro hq (And.intro hx hy))
                clear hq
                cases hc : lt x y with
                | false =>
                  rw [hc] at HL5
                  have Hc : Hid (lt d3[a' - 1]! d3[p]! = false) := Lib.hid (by rw [show a' - 1 = q by have := HQ.out.1; omega, ← hx, ← hy]; exact hc)
                  clear hx hy hc
                  go_wp2_with fail
                  go_quiet ((go_at_call 44; exact quietOf (HL5.out _)))
                  obtain ⟨U, hU⟩ : ∃ V, V = wc.drewN nq := ⟨_, rfl⟩
                  have HU : Hid (Jn w b n a e d a' e' d3 U) := Lib.hid (by rw [hU]; exact HT.out.up (belowDrewN _ _))
                  rw [← hU]
                  clear hU HT kk1 kk2 i0 i1 wq
                  have HT := HU
                  clear HU
                  obtain ⟨PL, hPL⟩ : ∃ PL, Go.Sort.partEqLoop lt a' (a' + 1) (e' - 1) (Go.Sort.swp d3 a' p) = PL := ⟨_, rfl⟩
                  have HC := Lib.hid (equal_any U b n c a' e' p d3 HT.out.rw' HT.out.n hb hap hpe (by omega) hen PL hPL)
                  have HP := Lib.hid (Go.Sort.round_eq swo (Go.Sort.partitionEqual_holds lt) ha0 hap hpe (by rw [HT.out.n]; exact hen) HT.out.bel Hc.out (show Go.Sort.partitionEqual lt d3 a' e' p = (PL.1, PL.2) from hPL))
                  clear hPL
                  go_wp2_with fail
                  refine HC.out.mono ?_
                  rintro en w5 ⟨rfl, on5, rw5⟩
                  clear HC
                  obtain ⟨mid, d4⟩ := PL
                  simp only at HP rw5
                  obtain ⟨hm1, hm2, hsz, hb5, hall⟩ := HP.out
                  have HN : Hid (Jn w b n a e d mid e' d4 w5) := Lib.hid ⟨HT.out.on.trans on5, rw5, hsz.trans HT.out.n, hb5, fun R h1 h2 => by obtain ⟨h3, h4⟩ := hall R h1 h2; exact HALL.out R h3 h4⟩
                  clear on5 rw5 hsz hb5 hall HP HT
                  go_wp2_with fail
                  go_roundw
                  case rel => exact ⟨mid, e', lim2, _, _, d4, rfl, rfl, rfl, rfl, rfl, hm2, hen, by omega, hl2, HN⟩
                  case measure => simp [intOf]; omega
                | true =>
                  rw [hc] at HL5
                  clear hx hy hc
                  go_wp2_with fail
                  go_quiet ((go_at_call 44; exact quietOf (HL5.out _)))
                  obtain ⟨U, hU⟩ : ∃ V, V = wc.drewN nq := ⟨_, rfl⟩
                  have HU : Hid (Jn w b n a e d a' e' d3 U) := Lib.hid (by rw [hU]; exact HT.out.up (belowDrewN _ _))
                  rw [← hU]
                  clear hU HT kk1 kk2 i0 i1 wq
                  have HT := HU
                  clear HU
                  go_wp2_with fail
                  obtain ⟨PL, hPL⟩ : ∃ PL, Go.Sort.partLoop lt a' (a' + 1) (e' - 1) (Go.Sort.swp d3 a' p) = PL := ⟨_, rfl⟩
                  have HC := Lib.hid (partition_any U b n c a' e' p d3 HT.out.rw' HT.out.n hb hap hpe (by omega) hen PL hPL)
                  have HP := Lib.hid (Go.Sort.round_part swo (Go.Sort.partition_holds lt) hap hpe (by rw [HT.out.n]; exact hen) HT.out.bel (part_eq hPL))
                  obtain ⟨mid, d4⟩ := PL
                  simp only at HC HP
                  clear hPL
                  refine HC.out.mono ?_
                  rintro en w5 ⟨ap, rfl, on5, rw5⟩
                  clear HC
                  obtain ⟨hm1, hm2, hsz, _⟩ := HP.out
                  obtain ⟨d5, hd5⟩ : ∃ d5, d5 = Go.Sort.swp d4 mid a' := ⟨_, rfl⟩
                  rw [← hd5] at HP rw5 hsz
                  clear hd5
                  have HO := Lib.hid (And.intro (HT.out.on.trans on5) (And.intro rw5 (hsz.trans HT.out.n)))
                  obtain ⟨lf, hlf⟩ : ∃ x, x = mid - a' := ⟨_, rfl⟩
                  obtain ⟨rt, hrt⟩ : ∃ x, x = e' - mid := ⟨_, rfl⟩
                  have W1 : IntKind.i64.wrap ((mid : Int) - (a' : Int)) = (lf : Int) := wi (by omega) (by omega)
                  have W2 : IntKind.i64.wrap ((e' : Int) - (mid : Int)) = (rt : Int) := wi (by omega) (by omega)
                  have W3 : IntKind.i64.wrap ((mid : Int) + 1) = ((mid + 1 : Nat) : Int) := wi (by omega) (by omega)
                  have HM := Lib.hid (And.intro hlf hrt)
                  clear on5 rw5 hsz HT hlf hrt
                  by_cases hlr : lf < rt
                  · have hlri : (lf : Int) < (rt : Int) := by omega
                    have HI := Lib.hid (IH.out w5 b n c a' mid lim2 d5 (by omega) HO.out.2.1 HO.out.2.2 hb hm1 (by omega) hl2 HP.out.2.2.2.1)
                    go_wp2_with fail
                    refine HI.out.mono ?_
                    rintro en w6 ⟨d6, rfl, hp6, hs6, on6, rw6⟩
                    clear HI
                    obtain ⟨hb6, hall⟩ := HP.out.2.2.2.2.2.1 d6 hp6 hs6
                    have HN : Hid (Jn w b n a e d (mid + 1) e' d6 w6) := Lib.hid ⟨HO.out.1.trans on6, rw6, by rw [hp6.1]; exact HO.out.2.2, hb6, fun R h1 h2 => by obtain ⟨h3, h4⟩ := hall R h1 h2; exact HALL.out R h3 h4⟩
                    clear hp6 hs6 on6 rw6 hb6 hall HP HO
                    go_wp2_with fail
                    go_roundw
                    case rel => exact ⟨mid + 1, e', lim2, _, _, d6, by go_num, rfl, rfl, rfl, rfl, by omega, hen, by omega, hl2, HN⟩
                    case measure => simp [intOf]; omega
                  · have hlri : ¬ ((lf : Int) < (rt : Int)) := by omega
                    have HI := Lib.hid (IH.out w5 b n c (mid + 1) e' lim2 d5 (by omega) HO.out.2.1 HO.out.2.2 hb (by omega) hen hl2 HP.out.2.2.2.2.1)
                    go_wp2_with fail
                    refine HI.out.mono ?_
                    rintro en w6 ⟨d6, rfl, hp6, hs6, on6, rw6⟩
                    clear HI
                    obtain ⟨hb6, hall⟩ := HP.out.2.2.2.2.2.2 d6 hp6 hs6
                    have HN : Hid (Jn w b n a e d a' mid d6 w6) := Lib.hid ⟨HO.out.1.trans on6, rw6, by rw [hp6.1]; exact HO.out.2.2, hb6, fun R h1 h2 => by obtain ⟨h3, h4⟩ := hall R h1 h2; exact HALL.out R h3 h4⟩
                    clear hp6 hs6 on6 rw6 hb6 hall HP HO
                    go_wp2_with fail
                    go_roundw
                    case rel => exact ⟨a', mid, lim2, _, _, d6, rfl, rfl, rfl, rfl, rfl, hm1, by omega, by omega, hl2, HN⟩
                    case measure => simp [intOf]; omega
              · have ha0i : ¬ ((0 : Int) < (a' : Int)) := by omega
                go_wp2_with fail
                go_quiet (fail)
                obtain ⟨U, hU⟩ : ∃ V, V = wc.drewN nq := ⟨_, rfl⟩
                have HU : Hid (Jn w b n a e d a' e' d3 U) := Lib.hid (by rw [hU]; exact HT.out.up (belowDrewN _ _))
                rw [← hU]
                clear hU HT
                have HT := HU
                clear HU
                go_wp2_with fail
                obtain ⟨PL, hPL⟩ : ∃ PL, Go.Sort.partLoop lt a' (a' + 1) (e' - 1) (Go.Sort.swp d3 a' p) = PL := ⟨_, rfl⟩
                have HC := Lib.hid (partition_any U b n c a' e' p d3 HT.out.rw' HT.out.n hb hap hpe (by omega) hen PL hPL)
                have HP := Lib.hid (Go.Sort.round_part swo (Go.Sort.partition_holds lt) hap hpe (by rw [HT.out.n]; exact hen) HT.out.bel (part_eq hPL))
                obtain ⟨mid, d4⟩ := PL
                simp only at HC HP
                clear hPL
                refine HC.out.mono ?_
                rintro en w5 ⟨ap, rfl, on5, rw5⟩
                clear HC
                obtain ⟨hm1, hm2, hsz, _⟩ := HP.out
                obtain ⟨d5, hd5⟩ : ∃ d5, d5 = Go.Sort.swp d4 mid a' := ⟨_, rfl⟩
                rw [← hd5] at HP rw5 hsz
                clear hd5
                have HO := Lib.hid (And.intro (HT.out.on.trans on5) (And.intro rw5 (hsz.trans HT.out.n)))
                obtain ⟨lf, hlf⟩ : ∃ x, x = mid - a' := ⟨_, rfl⟩
                obtain ⟨rt, hrt⟩ : ∃ x, x = e' - mid := ⟨_, rfl⟩
                have W1 : IntKind.i64.wrap ((mid : Int) - (a' : Int)) = (lf : Int) := wi (by omega) (by omega)
                have W2 : IntKind.i64.wrap ((e' : Int) - (mid : Int)) = (rt : Int) := wi (by omega) (by omega)
                have W3 : IntKind.i64.wrap ((mid : Int) + 1) = ((mid + 1 : Nat) : Int) := wi (by omega) (by omega)
                have HM := Lib.hid (And.intro hlf hrt)
                clear on5 rw5 hsz HT hlf hrt
                by_cases hlr : lf < rt
                · have hlri : (lf : Int) < (rt : Int) := by omega
                  have HI := Lib.hid (IH.out w5 b n c a' mid lim2 d5 (by omega) HO.out.2.1 HO.out.2.2 hb hm1 (by omega) hl2 HP.out.2.2.2.1)
                  go_wp2_with fail
                  refine HI.out.mono ?_
                  rintro en w6 ⟨d6, rfl, hp6, hs6, on6, rw6⟩
                  clear HI
                  obtain ⟨hb6, hall⟩ := HP.out.2.2.2.2.2.1 d6 hp6 hs6
                  have HN : Hid (Jn w b n a e d (mid + 1) e' d6 w6) := Lib.hid ⟨HO.out.1.trans on6, rw6, by rw [hp6.1]; exact HO.out.2.2, hb6, fun R h1 h2 => by obtain ⟨h3, h4⟩ := hall R h1 h2; exact HALL.out R h3 h4⟩
                  clear hp6 hs6 on6 rw6 hb6 hall HP HO
                  go_wp2_with fail
                  go_roundw
                  case rel => exact ⟨mid + 1, e', lim2, _, _, d6, by go_num, rfl, rfl, rfl, rfl, by omega, hen, by omega, hl2, HN⟩
                  case measure => simp [intOf]; omega
                · have hlri : ¬ ((lf : Int) < (rt : Int)) := by omega
                  have HI := Lib.hid (IH.out w5 b n c (mid + 1) e' lim2 d5 (by omega) HO.out.2.1 HO.out.2.2 hb (by omega) hen hl2 HP.out.2.2.2.2.1)
                  go_wp2_with fail
                  refine HI.out.mono ?_
                  rintro en w6 ⟨d6, rfl, hp6, hs6, on6, rw6⟩
                  clear HI
                  obtain ⟨hb6, hall⟩ := HP.out.2.2.2.2.2.2 d6 hp6 hs6
                  have HN : Hid (Jn w b n a e d a' mid d6 w6) := Lib.hid ⟨HO.out.1.trans on6, rw6, by rw [hp6.1]; exact HO.out.2.2, hb6, fun R h1 h2 => by obtain ⟨h3, h4⟩ := hall R h1 h2; exact HALL.out R h3 h4⟩
                  clear hp6 hs6 on6 rw6 hb6 hall HP HO
                  go_wp2_with fail
                  go_roundw
                  case rel => exact ⟨a', mid, lim2, _, _, d6, rfl, rfl, rfl, rfl, rfl, hm1, by omega, by omega, hl2, HN⟩
                  case measure => simp [intOf]; omega
theorem pdq_any (m : Nat) : ∀ (w : World) (b n c a e lim : Nat) (d : Array Nat), e - a ≤ m → Rw w b d → d.size = n → n ≤ 1099511627776 → a ≤ e → e ≤ n → lim ≤ 100 → Go.Sort.Below lt a e d →
      Calls Try.prog 36 #[.slice (some ⟨b, 0, none⟩) n c, .int .i64 (a : Nat), .int .i64 (e : Nat), .int .i64 (lim : Nat)] w (Fin w b a e d) := by
  have h0 : ∀ (w : World) (b n c a e lim : Nat) (d : Array Nat), e - a ≤ 0 → Rw w b d → d.size = n → n ≤ 1099511627776 → a ≤ e → e ≤ n → lim ≤ 100 → Go.Sort.Below lt a e d →
      Calls Try.prog 36 #[.slice (some ⟨b, 0, none⟩) n c, .int .i64 (a : Nat), .int .i64 (e : Nat), .int .i64 (lim : Nat)] w (Fin w b a e d) := by
    intro w b n c a e lim d hm h hn hb hae he hlim hbel
    obtain rfl : a = e := by omega
    have HC := Lib.hid (insertion_any w b n c a a d h hn hb he he)
    have HP := Lib.hid (Go.Sort.insertionSort_holds swo d a a (Nat.le_refl _) (by omega))
    have wl : IntKind.i64.wrap ((a : Int) - (a : Int)) = ((0 : Nat) : Int) := wi (by omega) (by omega)
    clear h hn hbel hm hae
    go_enter Try.func36, Try.ntmps36
    go_wp2_with fail
    refine wp_loop_rounds 1 ?_
    rw [rounds_succ]
    go_wp2_with fail
    refine HC.out.mono ?_
    rintro en w2 ⟨rfl, on2, rw2⟩
    have HF : Hid (Fin w b a a d (.returned (.tuple #[])) w2) := Lib.hid ⟨_, rfl, HP.out.1, HP.out.2, on2, rw2⟩
    clear on2 rw2 HC
    go_wp2_with fail
    (try simp only [Exit.inBlock, Exit.then])
    refine bodyPost_ret (results_none rfl _ _ _) rfl ?_
    exact HF.out
  induction m with
  | zero => exact h0
  | succ m ih =>
    intro w b n c a e lim d hm h hn hb hae he hlim hbel
    exact pdq_step m ih w b n c a e lim d hm h hn hb hae he hlim hbel
end Go.Proofs.Yteglhcpochcopaa.srt
