/- The walks of package treap: each function hands back a tree of as many numbers as it must have; what was there stays. -/
import Derived.Test.YtcjhbpnmkahkeaaBase
import Derived.Test.YtcjhbpnmkahkeaaMore
import Derived.Test.YtcjhbpnmkahkeaaRows
import Derived.Deep.QuietTactic
import Derived.BigQuiet
import Derived.Test.YtcjhbpnmkahkeaaPrio
namespace Go.Proofs.Ytcjhbpnmkahkeaa.treap
open Go.RowKit

abbrev A := Int × Int
abbrev key (x : A) : Int := x.1
def cs (x : A) (l r : BT A) : List Value := [.int .i64 x.1, .int .i64 x.2, .int .i64 (BT.size (.node x l r))]
abbrev In := Holds cs 102
abbrev Ret := RetQ cs 102

section
variable {w : World} {b : Nat} {x : A} {l r : BT A} {pl pr : Option Addr}
  (h : w.heap[b]? = some (.cells (cs x l r ++ [Value.pointer pl, Value.pointer pr]).toArray 102 (0, 0)))
include h
theorem c0 : w.cell? ⟨b, 0, none⟩ = some (.int .i64 x.1) := by simp [World.cell?, h, cs]
theorem cx : w.cell? ⟨b, 0, none⟩ = some (.int .i64 (key x)) := c0 h
theorem cp : w.cell? ⟨b, 1, none⟩ = some (.int .i64 x.2) := by simp [World.cell?, h, cs]
theorem cn : w.cell? ⟨b, 2, none⟩ = some (.int .i64 (BT.size (.node x l r))) := by simp [World.cell?, h, cs]
theorem cl : w.cell? ⟨b, 3, none⟩ = some (.pointer pl) := by simp [World.cell?, h, cs]
theorem cr : w.cell? ⟨b, 4, none⟩ = some (.pointer pr) := by simp [World.cell?, h, cs]
end

set_option maxHeartbeats 400000 in
theorem size_any {B : Nat} {w : World} {p : Option Addr} {t : BT A} (h : In B w p t) :
    Calls Try.prog 66 #[.pointer p] w fun e w' => e = .returned (.int .i64 (t.size : Nat)) ∧ w = w' := by
  cases t with
  | nil =>
    obtain rfl : p = none := h
    go_enter Try.func66, Try.ntmps66
    go_wp2
    go_ret
    exact ⟨rfl, rfl⟩
  | node x l r =>
    obtain ⟨b, pl, pr, rfl, _, hb, _, _⟩ := h
    have h1 := cn hb
    clear hb
    go_enter Try.func66, Try.ntmps66
    go_wp2
    go_ret
    exact ⟨rfl, rfl⟩

theorem new_any {B : Nat} {w : World} {pl : Option Addr} {l : BT A} {x : A} {pr : Option Addr} {r : BT A} (hB : B ≤ w.heap.size) (hl : In B w pl l) (hr : In B w pr r) (n : Int) (hn : n = (BT.size (.node x l r) : Nat)) :
    Ret B w (· = .node x l r) (.returned (.pointer (some ⟨w.heap.size, 0, none⟩))) (w.alloc (.cells #[.int .i64 x.1, .int .i64 x.2, .int .i64 n, .pointer pl, .pointer pr] 102)) := by
  subst hn
  exact RetQ.mk rfl (Holds.new hB hl hr) (belowAlloc _ _)

set_option maxHeartbeats 400000 in
theorem made_any (B : Nat) (w : World) (pl : Option Addr) (l : BT A) (x y : Int) (pr : Option Addr) (r : BT A) (hB : B ≤ w.heap.size) (hl : In B w pl l) (hr : In B w pr r) (hs : l.size + r.size ≤ 1152921504606846976) :
    Calls Try.prog 112 #[.pointer pl, .int .i64 x, .int .i64 y, .pointer pr] w (Ret B w (· = .node (x, y) l r)) := by
  go_enter Try.func112, Try.ntmps112
  go_wp2_with fail
  refine (size_any hl).mono ?_; rintro e w' ⟨rfl, rfl⟩
  go_wp2_with fail
  refine (size_any hr).mono ?_; rintro e w' ⟨rfl, rfl⟩
  go_wp2_with fail
  go_ret
  exact new_any (x := (x, y)) hB hl hr _ (by simp only [BT.size]; omega)


/-- does one stand above another one? -/
def abv (tp tx p x : Int) : Bool := decide (p < tp) || (decide (tp = p) && decide (tx < x))

set_option maxHeartbeats 1000000 in
theorem above_any (b : Nat) (w : World) (pl pr : Option Addr) (a : A) (l r : BT A) (x p : Int) (hb : w.heap[b]? = some (.cells (cs a l r ++ [Value.pointer pl, Value.pointer pr]).toArray 102 (0, 0))) :
    Calls Try.prog 110 #[.pointer (some ⟨b, 0, none⟩), .int .i64 x, .int .i64 p] w fun e w' => e = .returned (.bool (abv a.2 a.1 p x)) ∧ w = w' := by
  obtain ⟨tx, tp⟩ := a
  have k0 : w.cell? ⟨b, 0, none⟩ = some (.int .i64 tx) := c0 hb
  have k1 : w.cell? ⟨b, 1, none⟩ = some (.int .i64 tp) := cp hb
  clear hb
  by_cases h1 : p < tp
  · have hE : abv tp tx p x = true := by simp [abv, h1]
    have HE := Lib.hid hE
    clear hE
    go_enter Try.func110, Try.ntmps110
    go_wp2_with fail
    go_ret
    exact ⟨by rw [HE.out]; rfl, rfl⟩
  · by_cases h2 : tp = p
    · subst h2
      by_cases h3 : tx < x
      · have hE : abv tp tx tp x = true := by simp [abv, h3]
        have HE := Lib.hid hE
        clear hE
        go_enter Try.func110, Try.ntmps110
        go_wp2_with fail
        go_ret
        exact ⟨by rw [HE.out]; rfl, rfl⟩
      · have hE : abv tp tx tp x = false := by simp [abv, h3]
        have HE := Lib.hid hE
        clear hE
        go_enter Try.func110, Try.ntmps110
        go_wp2_with fail
        go_ret
        exact ⟨by rw [HE.out]; rfl, rfl⟩
    · have hE : abv tp tx p x = false := by simp [abv, h1, h2]
      have HE := Lib.hid hE
      have hne : (tp == p) = false := by simpa using h2
      clear hE h2
      go_enter Try.func110, Try.ntmps110
      go_wp2_with fail
      go_ret
      exact ⟨by rw [HE.out]; rfl, rfl⟩

def RetSp (B : Nat) (w : World) (n : Nat) (e : Ending) (w' : World) : Prop := ∃ pl l has pr r, e = .returned (.tuple #[.pointer pl, .bool has, .pointer pr]) ∧ l.size + r.size ≤ n ∧ In B w' pl l ∧ In B w' pr r ∧ Below w.heap.size w w'

set_option maxHeartbeats 4000000 in
theorem split_any (B : Nat) (x : Int) (t : BT A) : ∀ (w : World) (p : Option Addr), B ≤ w.heap.size → In B w p t → t.size ≤ 1152921504606845000 →
    Calls Try.prog 111 #[.pointer p, .int .i64 x] w (RetSp B w t.size) := by
  induction t with
  | nil =>
    intro w p hB h _
    obtain rfl : p = none := h
    go_enter Try.func111, Try.ntmps111
    go_wp2_with fail
    go_ret3
    exact ⟨none, .nil, false, none, .nil, rfl, by simp [BT.size], rfl, rfl, Below.refl _ _⟩
  | node a l r ihl ihr =>
    intro w p hB h hn
    obtain ⟨y, q⟩ := a
    obtain ⟨b, pl, pr, rfl, hBb, hb, hl, hr⟩ := id h
    simp only [BT.size] at hn
    have k0 : w.cell? ⟨b, 0, none⟩ = some (.int .i64 y) := c0 hb
    have k1 : w.cell? ⟨b, 1, none⟩ = some (.int .i64 q) := cp hb
    have kl := cl hb
    have kr := cr hb
    clear hb hBb h
    rcases Int.lt_trichotomy x y with hlt | heq | hgt
    · have hI := ihl w pl hB hl (by omega)
      have HI := Lib.hid hI
      clear hI ihl ihr
      go_enter Try.func111, Try.ntmps111
      go_wp2_with fail
      refine HI.out.mono ?_
      rintro e w1 ⟨p1, t1, has, p2, t2, rfl, hq, hp1, hp2, hb1⟩
      have hB0 := szle hb1 hB
      have m0 := upc hb1 k0
      have m1 := upc hb1 k1
      have mr := upc hb1 kr
      have hr1 := hr.up hb1
      have hB := hB0
      clear k0 k1 kl kr hB0 hr
      go_wp2_with fail
      go_region_held3 (fun w' => w'.cell? ⟨b, 0, none⟩ = some (.int .i64 y) ∧ w'.cell? ⟨b, 1, none⟩ = some (.int .i64 q) ∧ w'.cell? ⟨b, 4, none⟩ = some (.pointer pr)) (first | exact ⟨m0_3, m1_3, mr_3⟩ | exact ⟨m0, m1, mr⟩ | go_keep)
        (first
          | (go_at_call 112; refine (made_any B _ _ t2 y q _ r (by exact szle (belowDrew w1) hB) (by exact hp2.up (belowDrew w1)) (by exact hr1.up (belowDrew w1)) (by first | omega | (simp only [BT.size]; omega))).mono ?_; rintro e w3 ⟨p3, _, rfl, rfl, hp3, hb3⟩; replace hb3 := belowTrans (belowDrew w1) hb3; have m0_3 := upc hb3 m0; have m1_3 := upc hb3 m1; have mr_3 := upc hb3 mr))
      have hbel3 := hb3
      go_wp2_with fail
      go_ret3
      exact ⟨p1, t1, has, p3, _, rfl, by simp only [BT.size]; omega, hp1.up hbel3, hp3, belowTrans hb1 hbel3⟩
    · subst heq
      clear ihl ihr
      go_enter Try.func111, Try.ntmps111
      go_wp2_with fail
      go_quiet (fail)
      go_wp2_with fail
      go_ret3
      exact ⟨pl, l, true, pr, r, rfl, by simp only [BT.size]; omega, hl.up (belowDrewN _ _), hr.up (belowDrewN _ _), belowDrewN _ _⟩
    · have hI := ihr w pr hB hr (by omega)
      have HI := Lib.hid hI
      clear hI ihl ihr
      go_enter Try.func111, Try.ntmps111
      go_wp2_with fail
      refine HI.out.mono ?_
      rintro e w1 ⟨p1, t1, has, p2, t2, rfl, hq, hp1, hp2, hb1⟩
      have hB0 := szle hb1 hB
      have m0 := upc hb1 k0
      have m1 := upc hb1 k1
      have ml := upc hb1 kl
      have hl1 := hl.up hb1
      have hB := hB0
      clear k0 k1 kl kr hB0 hl
      go_wp2_with fail
      go_region_held3 (fun w' => w'.cell? ⟨b, 0, none⟩ = some (.int .i64 y) ∧ w'.cell? ⟨b, 1, none⟩ = some (.int .i64 q) ∧ w'.cell? ⟨b, 3, none⟩ = some (.pointer pl)) (first | exact ⟨m0_3, m1_3, ml_3⟩ | exact ⟨m0, m1, ml⟩ | go_keep)
        (first
          | (go_at_call 112; refine (made_any B _ _ l y q _ t1 (by exact szle (belowDrew w1) hB) (by exact hl1.up (belowDrew w1)) (by exact hp1.up (belowDrew w1)) (by first | omega | (simp only [BT.size]; omega))).mono ?_; rintro e w3 ⟨p3, _, rfl, rfl, hp3, hb3⟩; replace hb3 := belowTrans (belowDrew w1) hb3; have m0_3 := upc hb3 m0; have m1_3 := upc hb3 m1; have ml_3 := upc hb3 ml))
      have hbel3 := hb3
      go_wp2_with fail
      go_ret3
      exact ⟨p3, _, has, p2, t2, rfl, by simp only [BT.size]; omega, hp3, hp2.up hbel3, belowTrans hb1 hbel3⟩
end Go.Proofs.Ytcjhbpnmkahkeaa.treap
