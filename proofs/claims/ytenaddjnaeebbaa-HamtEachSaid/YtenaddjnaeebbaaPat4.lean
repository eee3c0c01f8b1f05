/- Package pat: drop, get, size. -/
import Derived.Test.YtenaddjnaeebbaaPat3
import Derived.Deep.LoopGhost
namespace Go.Proofs.Ytenaddjnaeebbaa.pat
open Go.RowKit

/-- a pointer leads to a tree, or to none -/
def HO (B : Nat) (w : World) : Option Addr → Option PT → Prop
  | p, none => p = none
  | p, some t => ∃ b, p = some ⟨b, 0, none⟩ ∧ HP B w b t
theorem HO.up {B : Nat} {w w' : World} {p : Option Addr} {o : Option PT} (h : HO B w p o) (hb : Below w.heap.size w w') : HO B w' p o := by
  cases o with
  | none => exact h
  | some t => obtain ⟨b, e, h⟩ := h; exact ⟨b, e, HP.up hb h⟩
theorem HO.lower {B B' : Nat} {w : World} {p : Option Addr} {o : Option PT} (h : HO B w p o) (hb : B' ≤ B) : HO B' w p o := by
  cases o with
  | none => exact h
  | some t => obtain ⟨b, e, h⟩ := h; exact ⟨b, e, HP.lower hb h⟩
def RetO (B : Nat) (w : World) (o : Option PT) (e : Ending) (w' : World) : Prop := ∃ p, e = .returned (.pointer p) ∧ HO B w' p o ∧ Below w.heap.size w w'
theorem RetP.opt {B : Nat} {w : World} {t : PT} {e : Ending} {w' : World} (h : RetP B w t e w') : RetO B w (some t) e w' := by
  obtain ⟨c, he, hp, hb⟩ := h
  exact ⟨_, he, ⟨c, rfl, hp⟩, hb⟩

set_option maxHeartbeats 1000000 in
theorem two_none (w : World) (key M : Int) (p : Option Addr) :
    Calls Try.prog 62 #[.int .u64 key, .int .u64 M, .pointer none, .pointer p] w fun e w' => e = .returned (.pointer p) ∧ w = w' := by
  go_enter Try.func62, Try.ntmps62
  go_wp2_with fail
  go_ret
  exact ⟨rfl, rfl⟩
set_option maxHeartbeats 1000000 in
theorem two_left (w : World) (key M : Int) (b : Nat) :
    Calls Try.prog 62 #[.int .u64 key, .int .u64 M, .pointer (some ⟨b, 0, none⟩), .pointer none] w fun e w' => e = .returned (.pointer (some ⟨b, 0, none⟩)) ∧ w = w' := by
  go_enter Try.func62, Try.ntmps62
  go_wp2_with fail
  go_ret
  exact ⟨rfl, rfl⟩
theorem two_any (B : Nat) (w : World) (key n : Nat) (px py : Option Addr) (x y : Option PT) (hB : B ≤ w.heap.size) (hx : HO B w px x) (hy : HO B w py y) (hc : ocnt x + ocnt y ≤ 1152921504606844000) :
    Calls Try.prog 62 #[.int .u64 (key : Nat), .int .u64 ((2 ^ n : Nat) : Int), .pointer px, .pointer py] w (RetO B w (two key n x y)) := by
  cases x with
  | none =>
    obtain rfl : px = none := hx
    refine (two_none w _ _ py).mono ?_
    rintro e w' ⟨rfl, rfl⟩
    refine ⟨py, rfl, ?_, Below.refl _ _⟩
    cases y <;> exact hy
  | some a =>
    obtain ⟨pa, rfl, ha⟩ := hx
    cases y with
    | none =>
      obtain rfl : py = none := hy
      refine (two_left w _ _ pa).mono ?_
      rintro e w' ⟨rfl, rfl⟩
      exact ⟨_, rfl, ⟨pa, rfl, ha⟩, Below.refl _ _⟩
    | some b =>
      obtain ⟨pb, rfl, hb⟩ := hy
      exact (two_some B w key n pa pb a b hB ha hb hc).mono fun e w' h => h.opt

theorem cnt_two (key n : Nat) (x y : Option PT) : ocnt (two key n x y) = ocnt x + ocnt y := by
  cases x <;> cases y <;> simp [two, ocnt, PT.cnt]
theorem cnt_drop_le (k : Nat) (t : PT) : ocnt (drop t k) ≤ t.cnt := by
  induction t with
  | leaf k' v' =>
    unfold drop
    split
    · simp [ocnt]
    · simp [ocnt]
  | node key b l r ihl ihr =>
    unfold drop
    split
    · split
      · rw [cnt_two]; show ocnt (drop l k) + r.cnt ≤ l.cnt + r.cnt; omega
      · rw [cnt_two]; show l.cnt + ocnt (drop r k) ≤ l.cnt + r.cnt; omega
    · simp [ocnt]

set_option maxHeartbeats 1000000 in
theorem drop_nil (w : World) (k : Int) :
    Calls Try.prog 43 #[.pointer none, .int .u64 k] w fun e w' => e = .returned (.pointer none) ∧ w = w' := by
  go_enter Try.func43, Try.ntmps43
  go_wp2_with fail
  go_ret
  exact ⟨rfl, rfl⟩

set_option maxHeartbeats 4000000 in
theorem drop_leaf (B : Nat) (w : World) (b k k' : Nat) (v' : Int) (h : HP B w b (.leaf k' v')) :
    Calls Try.prog 43 #[.pointer (some ⟨b, 0, none⟩), .int .u64 (k : Nat)] w (RetO B w (drop (.leaf k' v') k)) := by
  obtain ⟨c0, c1, c2, c3, c4, c5⟩ := cells6 h.2
  by_cases e : k' = k
  · subst e
    have e2 : drop (.leaf k' v') k' = none := if_pos rfl
    rw [e2]
    clear h e2
    go_enter Try.func43, Try.ntmps43
    go_wp2_with fail
    go_ret
    exact ⟨none, rfl, rfl, Below.refl _ _⟩
  · have e2 : drop (.leaf k' v') k = some (.leaf k' v') := if_neg e
    rw [e2]
    have hne : ((k' : Int) == (k : Int)) = false := by simp; omega
    have Hh := Lib.hid h
    have He := Lib.hid e
    clear h e e2
    go_enter Try.func43, Try.ntmps43
    go_wp2_with fail
    go_ret
    exact ⟨_, rfl, ⟨b, rfl, Hh.out⟩, Below.refl _ _⟩

set_option maxRecDepth 100000 in
set_option maxHeartbeats 8000000 in
theorem drop_any (B k : Nat) (hk : k < 2 ^ 64) (t : PT) : ∀ (w : World) (b : Nat), B ≤ w.heap.size → HP B w b t → Ok t → t.cnt ≤ 1152921504606843999 →
    Calls Try.prog 43 #[.pointer (some ⟨b, 0, none⟩), .int .u64 (k : Nat)] w (RetO B w (drop t k)) := by
  induction t with
  | leaf k' v' => intro w b hB h hok _; exact drop_leaf B w b k k' v' h
  | node key n l r ihl ihr =>
    intro w b hB h hok hc
    obtain ⟨hn, hkey⟩ := node_facts hok
    have hcell := h.cells
    obtain ⟨_, bl, br, hb, hl, hr⟩ := h
    obtain ⟨c0, c1, c2, c3, c4, c5⟩ := cells6 hb
    obtain ⟨va, la, ra, ca⟩ := hcell
    have hh : HP B w b (.node key n l r) := ⟨by assumption, bl, br, hb, hl, hr⟩
    obtain ⟨_, _, okl, okr, _, _⟩ := id hok
    have hcl : l.cnt + r.cnt ≤ 1152921504606843999 := hc
    have hM0 : 0 < 2 ^ n := Nat.two_pow_pos n
    obtain ⟨f, hf⟩ : ∃ f, decide (k / 2 ^ (n + 1) * 2 ^ (n + 1) = key) = f := ⟨_, rfl⟩
    have HF : Hid (Calls Try.prog 60 #[.pointer (some ⟨b, 0, none⟩), .int .u64 (k : Nat)] w fun e w' => e = .returned (.bool f) ∧ Below w.heap.size w w') :=
      Lib.hid ((fits_any w b key n k va _ la ra ca hk hn f hf).mono fun e w' ⟨h1, m, h2⟩ => ⟨h1, by rw [h2]; exact belowDrewN _ _⟩)
    cases f
    · have hnf : ¬ (k / 2 ^ (n + 1) * 2 ^ (n + 1) = key) := by simpa using hf
      have e2 : drop (.node key n l r) k = some (.node key n l r) := if_neg hnf
      rw [e2]
      have Hh := Lib.hid hh
      obtain ⟨M, hM⟩ : ∃ M, M = 2 ^ n := ⟨_, rfl⟩
      rw [← hM] at c1 hM0
      have hMne : ((M : Int) == 0) = false := by simp; omega
      clear hok hh hb hl hr ca e2 hnf hf ihl ihr hM
      go_enter Try.func43, Try.ntmps43
      go_wp2_with ((go_at_call 60; (with_reducible refine HF.out.mono ?_); rintro e w1 ⟨rfl, hb1⟩; have Hb1 := Lib.hid hb1; clear hb1))
      go_ret
      exact ⟨_, rfl, ⟨b, rfl, HP.up Hb1.out Hh.out⟩, Hb1.out⟩
    · have hfit : k / 2 ^ (n + 1) * 2 ^ (n + 1) = key := by simpa using hf
      by_cases h0 : k / 2 ^ n % 2 = 0
      · have e2 : drop (.node key n l r) k = two key n (drop l k) (some r) := by rw [drop, if_pos hfit, if_pos h0]
        rw [e2]
        have HI := Lib.hid (fun W (hW : Below w.heap.size w W) => ihl W bl (szle hW hB) (HP.up hW hl) okl (by omega))
        have HT := Lib.hid (fun W p (hW : Below w.heap.size w W) (hp : HO B W p (drop l k)) => two_any B W key n p (some ⟨br, 0, none⟩) (drop l k) (some r) (szle hW hB) hp ⟨br, rfl, HP.up hW hr⟩ (by have := cnt_drop_le k l; have e : ocnt (some r) = r.cnt := rfl; omega))
        have hand := and0 hk hn h0
        obtain ⟨M, hM⟩ : ∃ M, M = 2 ^ n := ⟨_, rfl⟩
        rw [← hM] at c1 hM0 hand HT
        have hMne : ((M : Int) == 0) = false := by simp; omega
        clear hok hh hb hl hr ca e2 hfit hf ihl ihr hM h0
        go_enter Try.func43, Try.ntmps43
        go_wp2_with ((go_at_call 60; (with_reducible refine HF.out.mono ?_); rintro e w1 ⟨rfl, hb1⟩; have d0 := upc hb1 c0; have d1 := upc hb1 c1; have d4 := upc hb1 c4; have d5 := upc hb1 c5; have Hb1 := Lib.hid hb1; clear hb1))
        go_region_held3 (fun w' => w'.cell? ⟨b, 0, none⟩ = some (.int .u64 (key : Nat)) ∧ w'.cell? ⟨b, 1, none⟩ = some (.int .u64 (M : Nat)) ∧ w'.cell? ⟨b, 4, none⟩ = some (.pointer (some ⟨bl, 0, none⟩)) ∧ w'.cell? ⟨b, 5, none⟩ = some (.pointer (some ⟨br, 0, none⟩))) (first | exact ⟨g0, g1, g4, g5⟩ | exact ⟨e0, e1, e4, e5⟩ | go_keep)
          (first
          | (go_at_call 43; refine (HI.out _ (by exact belowTrans Hb1.out (belowDrew _))).mono ?_; rintro e w2 ⟨p2', rfl, hp2, hb2⟩; replace hb2 := belowTrans (belowDrew _) hb2; have e0 := upc hb2 d0; have e1 := upc hb2 d1; have e4 := upc hb2 d4; have e5 := upc hb2 d5)
          | (go_at_call 62; refine (HT.out _ p2' (by exact belowTrans Hb1.out hb2) (by exact hp2)).mono ?_; rintro e w3 ⟨p3', rfl, hp3, hb3⟩; have g0 := upc hb3 e0; have g1 := upc hb3 e1; have g4 := upc hb3 e4; have g5 := upc hb3 e5))
        have Hp := Lib.hid (And.intro hp3 (belowTrans (belowTrans Hb1.out hb2) hb3))
        clear d0 d1 d4 d5 e0 e1 e4 e5 g0 g1 g4 g5 hp2 hp3 hb2 hb3
        go_wp2_with fail
        go_ret
        exact ⟨p3', rfl, Hp.out.1, Hp.out.2⟩
      · have e2 : drop (.node key n l r) k = two key n (some l) (drop r k) := by rw [drop, if_pos hfit, if_neg h0]
        rw [e2]
        have HI := Lib.hid (fun W (hW : Below w.heap.size w W) => ihr W br (szle hW hB) (HP.up hW hr) okr (by omega))
        have HT := Lib.hid (fun W p (hW : Below w.heap.size w W) (hp : HO B W p (drop r k)) => two_any B W key n (some ⟨bl, 0, none⟩) p (some l) (drop r k) (szle hW hB) ⟨bl, rfl, HP.up hW hl⟩ hp (by have := cnt_drop_le k r; have e : ocnt (some l) = l.cnt := rfl; omega))
        have hand := and1 hk hn h0
        obtain ⟨M, hM⟩ : ∃ M, M = 2 ^ n := ⟨_, rfl⟩
        rw [← hM] at c1 hM0 hand HT
        have hMne : ((M : Int) == 0) = false := by simp; omega
        clear hok hh hb hl hr ca e2 hfit hf ihl ihr hM h0
        go_enter Try.func43, Try.ntmps43
        go_wp2_with ((go_at_call 60; (with_reducible refine HF.out.mono ?_); rintro e w1 ⟨rfl, hb1⟩; have d0 := upc hb1 c0; have d1 := upc hb1 c1; have d4 := upc hb1 c4; have d5 := upc hb1 c5; have Hb1 := Lib.hid hb1; clear hb1))
        go_region_held3 (fun w' => w'.cell? ⟨b, 0, none⟩ = some (.int .u64 (key : Nat)) ∧ w'.cell? ⟨b, 1, none⟩ = some (.int .u64 (M : Nat)) ∧ w'.cell? ⟨b, 4, none⟩ = some (.pointer (some ⟨bl, 0, none⟩)) ∧ w'.cell? ⟨b, 5, none⟩ = some (.pointer (some ⟨br, 0, none⟩))) (first | exact ⟨g0, g1, g4, g5⟩ | exact ⟨e0, e1, e4, e5⟩ | go_keep)
          (first
          | (go_at_call 43; refine (HI.out _ (by exact belowTrans Hb1.out (belowDrew _))).mono ?_; rintro e w2 ⟨p2', rfl, hp2, hb2⟩; replace hb2 := belowTrans (belowDrew _) hb2; have e0 := upc hb2 d0; have e1 := upc hb2 d1; have e4 := upc hb2 d4; have e5 := upc hb2 d5)
          | (go_at_call 62; refine (HT.out _ p2' (by exact belowTrans Hb1.out hb2) (by exact hp2)).mono ?_; rintro e w3 ⟨p3', rfl, hp3, hb3⟩; have g0 := upc hb3 e0; have g1 := upc hb3 e1; have g4 := upc hb3 e4; have g5 := upc hb3 e5))
        have Hp := Lib.hid (And.intro hp3 (belowTrans (belowTrans Hb1.out hb2) hb3))
        clear d0 d1 d4 d5 e0 e1 e4 e5 g0 g1 g4 g5 hp2 hp3 hb2 hb3
        go_wp2_with fail
        go_ret
        exact ⟨p3', rfl, Hp.out.1, Hp.out.2⟩

/-- what get finds: a node that has the value -/
def RetG (w : World) (o : Option Int) (e : Ending) (w' : World) : Prop := w = w' ∧ match o with
  | none => e = .returned (.pointer none)
  | some v => ∃ b, e = .returned (.pointer (some ⟨b, 0, none⟩)) ∧ w.cell? ⟨b, 2, none⟩ = some (.int .i64 v)

set_option maxHeartbeats 1000000 in
theorem get_nil (w : World) (k : Int) :
    Calls Try.prog 45 #[.pointer none, .int .u64 k] w (RetG w none) := by
  go_enter Try.func45, Try.ntmps45
  go_wp2_with fail
  go_loop [0] (fun p => p = .pointer none) (fun _ => 0)
  case atStart => rfl
  case round =>
    obtain rfl := hrel
    go_wp2_with fail
    go_ret
    exact ⟨rfl, rfl⟩

set_option maxHeartbeats 4000000 in
theorem get_any (B k : Nat) (hk : k < 2 ^ 64) (w : World) (t : PT) (b : Nat) (h : HP B w b t) (hok : Ok t) (o : Option Int) (ho : get t k = o) :
    Calls Try.prog 45 #[.pointer (some ⟨b, 0, none⟩), .int .u64 (k : Nat)] w (RetG w o) := by
  have HS := Lib.hid (And.intro h (And.intro hok ho))
  clear h hok ho
  go_enter Try.func45, Try.ntmps45
  go_wp2_with fail
  go_loopg [0] t.sz (fun g p wr => ∃ (u : PT) (c : Nat), p = .pointer (some ⟨c, 0, none⟩) ∧ wr = w ∧ Hid (HP B w c u ∧ Ok u ∧ get u k = o ∧ g = u.sz))
  case atStart => exact ⟨t, b, rfl, rfl, Lib.hid ⟨HS.out.1, HS.out.2.1, HS.out.2.2, rfl⟩⟩
  case round =>
    obtain ⟨u, c, rfl, rfl, HU⟩ := hrel
    cases u with
    | leaf k' v =>
      obtain ⟨c0, c1, c2, c3, c4, c5⟩ := cells6 HU.out.1.2
      have hg := HU.out.2.2.1
      by_cases e : k' = k
      · subst e
        obtain rfl : some v = o := by rw [← hg]; exact (if_pos rfl).symm
        clear hg HU
        go_wp2_with fail
        go_ret
        exact ⟨rfl, c, rfl, c2⟩
      · obtain rfl : none = o := by rw [← hg]; exact (if_neg e).symm
        have hne : ((k' : Int) == (k : Int)) = false := by simp; omega
        have hne2 : ((k' : Int) != (k : Int)) = true := by simp; omega
        have He := Lib.hid e
        clear hg HU e
        go_wp2_with fail
        go_ret
        exact ⟨rfl, rfl⟩
    | node key n l r =>
      obtain ⟨⟨_, bl, br, hb, hl, hr⟩, hok, hg, hsz⟩ := HU.out
      obtain ⟨c0, c1, c2, c3, c4, c5⟩ := cells6 hb
      obtain ⟨hn, hkey⟩ := node_facts hok
      obtain ⟨_, _, okl, okr, _, _⟩ := id hok
      have hM0 : 0 < 2 ^ n := Nat.two_pow_pos n
      by_cases h0 : k / 2 ^ n % 2 = 0
      · have hand := and0 hk hn h0
        have hg2 : get l k = o := by rw [← hg]; exact (if_pos h0).symm
        have HL := Lib.hid (And.intro hl (And.intro okl hg2))
        have hlt : l.sz < gk := by rw [hsz]; simp only [PT.sz]; omega
        obtain ⟨M, hM⟩ : ∃ M, M = 2 ^ n := ⟨_, rfl⟩
        rw [← hM] at c1 hM0 hand
        have hMp : (0 : Int) < (M : Int) := by omega
        clear hb hl hr hok okl okr hg hg2 hsz HU hM h0
        go_wp2_with fail
        go_roundg l.sz
        case measure => exact hlt
        case rel => exact ⟨l, bl, rfl, rfl, Lib.hid ⟨HL.out.1, HL.out.2.1, HL.out.2.2, rfl⟩⟩
      · have hand := and1 hk hn h0
        have hg2 : get r k = o := by rw [← hg]; exact (if_neg h0).symm
        have HL := Lib.hid (And.intro hr (And.intro okr hg2))
        have hlt : r.sz < gk := by rw [hsz]; simp only [PT.sz]; omega
        obtain ⟨M, hM⟩ : ∃ M, M = 2 ^ n := ⟨_, rfl⟩
        rw [← hM] at c1 hM0 hand
        have hMp : (0 : Int) < (M : Int) := by omega
        have hMne : ((M : Int) == 0) = false := by simp; omega
        clear hb hl hr hok okl okr hg hg2 hsz HU hM h0
        go_wp2_with fail
        go_roundg r.sz
        case measure => exact hlt
        case rel => exact ⟨r, br, rfl, rfl, Lib.hid ⟨HL.out.1, HL.out.2.1, HL.out.2.2, rfl⟩⟩

set_option maxHeartbeats 1000000 in
theorem size_any (B : Nat) (w : World) (p : Option Addr) (o : Option PT) (h : HO B w p o) :
    Calls Try.prog 46 #[.pointer p] w fun e w' => e = .returned (.int .i64 (ocnt o : Nat)) ∧ w = w' := by
  cases o with
  | none =>
    obtain rfl : p = none := h
    go_enter Try.func46, Try.ntmps46
    go_wp2_with fail
    go_ret
    exact ⟨rfl, rfl⟩
  | some t =>
    obtain ⟨b, rfl, h⟩ := h
    obtain ⟨v, pl, pr, hc⟩ := h.cells
    have c3 := hc.c3
    clear h hc
    go_enter Try.func46, Try.ntmps46
    go_wp2_with fail
    go_ret
    exact ⟨rfl, rfl⟩
end Go.Proofs.Ytenaddjnaeebbaa.pat
