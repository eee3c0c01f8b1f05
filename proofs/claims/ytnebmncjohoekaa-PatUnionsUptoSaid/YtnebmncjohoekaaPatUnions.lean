/- The law of what is united, of what both have, of what one has alone, against the reference's lists. -/
import Derived.Test.YtnebmncjohoekaaPatUn
namespace Go.Proofs.Ytnebmncjohoekaa.pat
open Go.RowKit

/-- a map and its pairs, as they grow -/
structure Grow1 (l : List (Int × Int)) (j : Nat) (o : Option PT) (ts : List (Int × Int)) (m : Nat) : Prop where
  e : fill none (l.take j) = o
  ok : OOk o
  c : ocnt o = m
  t : told o = ts
  tl : ts.length = m
  mj : m ≤ j
theorem grow1 (l : List (Int × Int)) (hl : ∀ p ∈ l, I64 p.1) (j : Nat) : ∃ o ts m, Grow1 l j o ts m :=
  ⟨_, _, _, rfl, fill_ok _ _ trivial (fun p hp => hl p (List.mem_of_mem_take hp)), rfl, rfl, told_length _, filled_cnt l j⟩
theorem grow1_next {l : List (Int × Int)} {j : Nat} {o : Option PT} {ts : List (Int × Int)} {m : Nat} (h : Grow1 l j o ts m) (hj : j < l.length) {y1 y2 : Int} (hy : (y1, y2) = l.getD j (0, 0)) (hi : I64 y1) :
    ∃ m2, Grow1 l (j + 1) (some (oput o (tk y1) y2)) (keyed ts y1 y2) m2 := by
  have e : fill none (l.take (j + 1)) = some (oput o (tk y1) y2) := by
    rw [fillT l j hj, ← hy, h.e]
  have hok := (oput_spec h.ok (tk_lt hi) y2).1
  refine ⟨_, e, hok, rfl, by rw [told_put h.ok hi, h.t], ?_, ?_⟩
  · rw [← h.t, ← told_put h.ok hi, told_length]
  · have := filled_cnt l (j + 1)
    rw [e] at this
    exact this
/-- the head of the first loop, of the second -/
def U1 (w : World) (G : Nat) (x : Option PT) (xs : List (Int × Int)) (vx : Value) (W : World) : Prop := ∃ p, Duo w G x none W p none ∧ OwnP W w.heap.size vx xs
def U2 (w : World) (G : Nat) (x y : Option PT) (xs ys : List (Int × Int)) (vx vy : Value) (W : World) : Prop := ∃ p q, Duo w G x y W p q ∧ OwnP W w.heap.size vx xs ∧ OwnP W w.heap.size vy ys
/-- what is known of both maps -/
structure Both (x y : Option PT) (xs ys us is ds : List (Int × Int)) (mx my mu mi md : Nat) : Prop where
  ox : OOk x
  oy : OOk y
  q : ocnt x + ocnt y ≤ 1152921504606843999
  ou : OOk (ounion x y)
  oi : OOk (osifted y true x)
  od : OOk (osifted y false x)
  lx : xs.length = mx
  ly : ys.length = my
  bx : mx ≤ 1048576
  bY : my ≤ 1048576
  tu : told (ounion x y) = us
  ti : told (osifted y true x) = is
  td : told (osifted y false x) = ds
  cu : ocnt (ounion x y) = mu
  ci : ocnt (osifted y true x) = mi
  cd : ocnt (osifted y false x) = md
  lu : us.length = mu
  li : is.length = mi
  ld : ds.length = md
  bu : mu ≤ 2097152
  bi : mi ≤ 1048576
  bd : md ≤ 1048576
  eu : uni ys xs = us
  ei : xs.filter (hasK ys) = is
  ed : xs.filter (notK ys) = ds
theorem both_of {l m : List (Int × Int)} {n1 n2 : Nat} (hl : l.length = n1) (hm : m.length = n2) (h1 : n1 ≤ 1048576) (h2 : n2 ≤ 1048576) {x y : Option PT} {xs ys : List (Int × Int)} {mx my : Nat} (gx : Grow1 l n1 x xs mx) (gy : Grow1 m n2 y ys my) :
    ∃ us is ds mu mi md, Both x y xs ys us is ds mx my mu mi md := by
  have hmx := gx.mj
  have hmy := gy.mj
  have cx := gx.c
  have cy := gy.c
  have a1 := ocnt_ounion x y
  have a2 := ocnt_osifted y true x
  have a3 := ocnt_osifted y false x
  exact ⟨_, _, _, _, _, _, gx.ok, gy.ok, by omega, (ounion_spec gx.ok gy.ok).1, (osifted_spec (x := x) (y := y) true gx.ok).1, (osifted_spec (x := x) (y := y) false gx.ok).1, gx.tl, gy.tl, by omega, by omega, rfl, rfl, rfl, rfl, rfl, rfl, told_length _, told_length _, told_length _,
    by omega, by omega, by omega, by rw [told_union gx.ok gy.ok, gx.t, gy.t], by rw [told_inter gx.ok gy.ok, gx.t, gy.t], by rw [told_diff gx.ok gy.ok, gx.t, gy.t]⟩

set_option maxRecDepth 100000 in
set_option maxHeartbeats 16000000 in
theorem unions (a0 a1 : Option Addr) (c0 c1 n0 n1 : Nat) (l m : List (Int × Int)) (w : World) (h0 : Row w a0 n0 l) (h1 : Row w a1 n1 m) :
    Calls Try.prog 6 #[.slice a0 n0 c0, .slice a1 n1 c1] w (Yes w) := by
  have HR0 := Lib.hid h0
  have HR1 := Lib.hid h1
  have b0 := h0.le
  have b1 := h1.le
  clear h0 h1
  go_enter Try.func6, Try.ntmps6
  go_wp2_with fail
  refine (pated_any w).mono ?_
  rintro e w1 ⟨rfl, hb1⟩
  have hI : U1 w w1.heap.size none [] (.slice none 0 0) ((w1.alloc (.cells #[.pointer none] 25)).alloc (.cells #[.pointer none] 25)) :=
    ⟨none, ⟨belowTrans hb1 (belowTrans (belowAlloc _ _) (belowAlloc _ _)), hb1.size, heapNew1 w1 _ _, heapNew2 w1 _ _, rfl, rfl⟩, World.ownsRow_nil _ _ _ _⟩
  have HI0 := Lib.hid hI
  clear hI hb1
  go_wp2_with fail

  go_loopw [8, 10] (fun ov iv wr => ∃ (j : Nat) (ow : Value), ow = ov ∧ iv = .int .i64 j ∧ j ≤ n0 ∧ Hid (∃ o ts mo, Grow1 l j o ts mo ∧ U1 w w1.heap.size o ts ow wr)) (fun _ iv _ => n0 - (intOf iv).toNat)
  case atStart => exact ⟨0, _, rfl, rfl, Nat.zero_le _, Lib.hid ⟨none, [], 0, ⟨rfl, trivial, rfl, rfl, rfl, Nat.le_refl _⟩, HI0.out⟩⟩
  case round =>
    obtain ⟨j, ow, rfl, rfl, hj, HF⟩ := hrel
    obtain ⟨o, ts, mo, hG, hU⟩ := HF.out
    clear HF
    have HG := Lib.hid hG
    have hmj := hG.mj
    clear hG
    have j0 : (0 : Int) ≤ (j : Int) := by omega
    by_cases hlt : j < n0
    · obtain ⟨p, hD, hrow⟩ := hU
      obtain ⟨qa, oa, rfl, q01, q02⟩ := HR0.out.r.at (k := j) (by rw [HR0.out.len]; exact hlt)
      have hik : I64 (l.getD j (0, 0)).1 := HR0.out.i _ (by rw [List.getD_eq_getElem?_getD, List.getElem?_eq_getElem (by rw [HR0.out.len]; exact hlt)]; exact List.getElem_mem _)
      obtain ⟨y, hy⟩ : ∃ y, y = l.getD j (0, 0) := ⟨_, rfl⟩
      have HY := Lib.hid hy
      obtain ⟨y1, y2⟩ := y
      rw [← hy] at q01 q02 hik
      dsimp only at q01 q02 hik
      obtain ⟨m2, hG2⟩ := grow1_next HG.out (by rw [HR0.out.len]; exact hlt) HY.out hik
      have HG2 := Lib.hid hG2
      have HIK := Lib.hid hik
      have q1 := upc hD.bel q01
      have q2 := upc hD.bel q02
      have HQ := Lib.hid (And.intro q01 q02)
      obtain ⟨am, cm, hov, -⟩ := hrow.form
      rw [HG.out.tl] at hov
      subst hov
      have j1 : (j : Int) < (n0 : Int) := by omega
      have kb := cell_of_one hD.b0
      have HD := Lib.hid hD
      have HO := Lib.hid hrow
      clear q01 q02 hy hik hG2 hD hrow
      have HC := Lib.hid (fun W (hW : Below wr.heap.size wr W) => Put_any w.heap.size W p o y1 y2 (szle hW HD.out.bel.size) (HD.out.h0.up hW) HG.out.ok HIK.out (by have := HG.out.c; omega))
      go_wp2_with fail
      go_region_with (first | (go_at_call 9; refine (HC.out _ (by exact belowDrew _)).mono ?_; rintro e w3 ⟨p3, rfl, hp3, hb3⟩; replace hb3 := belowTrans (belowDrew _) hb3; have hD3 := HD.out.up hb3; have hO3 := HO.out.up hb3; have c0 := cell_of_one hD3.b0; have f0 := free_of_one hD3.b0))
      all_goals
        obtain ⟨Z, hZ⟩ : ∃ Z, Z = w3.setCell ⟨w1.heap.size, 0, none⟩ (.pointer p3) := ⟨_, rfl⟩
        have hDZ : Duo w w1.heap.size (some (oput o (tk y1) y2)) none Z p3 none := by rw [hZ]; exact hD3.set0 hp3
        have hOZ : OwnP Z w.heap.size (.slice am mo cm) ts := by rw [hZ]; exact hD3.row0 hO3
        have r1 : Z.cell? ⟨qa, oa + j * 2, none⟩ = some (.int .i64 y1) := upc hDZ.bel HQ.out.1
        have r2 : Z.cell? ⟨qa, oa + j * 2 + 1, none⟩ = some (.int .i64 y2) := upc hDZ.bel HQ.out.2
        have HDZ := Lib.hid hDZ
        have HOZ := Lib.hid hOZ
        have HC2 : Hid (∀ W, Below Z.heap.size Z W → Calls Try.prog 15 #[.slice am mo cm, .int .i64 y1, .int .i64 y2] W (RetL W m2 (keyed ts y1 y2))) := Lib.hid (fun W hW => Keyed_any am cm mo m2 ts y1 y2 W HG.out.tl (by omega) (OwnP.reads (HOZ.out.up hW)) HG2.out.tl)
        try rw [← hZ]
        clear hDZ hOZ c0 f0 q1 q2 hD3 hO3 hp3 hb3 hZ kb HC
        go_wp2_with fail
        go_region_held3 (fun w' => w'.cell? ⟨qa, oa + j * 2, none⟩ = some (.int .i64 y1) ∧ w'.cell? ⟨qa, oa + j * 2 + 1, none⟩ = some (.int .i64 y2)) (first | exact ⟨s1, s2⟩ | exact ⟨r1, r2⟩ | go_keep)
          (first | (go_at_call 15; refine (HC2.out _ (by exact belowDrew Z)).mono ?_; rintro e V ⟨a3, c3, rfl, hoZ, hbZ⟩; have hlo := OwnP.lower hoZ (szle (belowDrew Z) HDZ.out.bel.size); replace hbZ := belowTrans (belowDrew Z) hbZ; have s1 := upc hbZ r1; have s2 := upc hbZ r2))
        have HE : Hid (∃ o ts mo, Grow1 l (j + 1) o ts mo ∧ U1 w w1.heap.size o ts (.slice a3 m2 c3) V) := Lib.hid ⟨_, _, _, HG2.out, p3, HDZ.out.up hbZ, hlo⟩
        clear r1 r2 s1 s2 hoZ hlo hbZ HC2
        go_wp2_with fail
        go_roundw
        case rel => exact ⟨j + 1, _, rfl, by go_num, hlt, HE⟩
        case measure => simp [intOf]; omega
    · obtain rfl : n0 = j := by omega
      obtain ⟨x, hx⟩ : ∃ x, x = o := ⟨_, rfl⟩
      subst hx
      obtain ⟨xs, hxs⟩ : ∃ x, x = ts := ⟨_, rfl⟩
      subst hxs
      obtain ⟨mx, hmx⟩ : ∃ x, x = mo := ⟨_, rfl⟩
      subst hmx
      obtain ⟨p, hD, hrow⟩ := hU
      obtain ⟨ax, cx, hov, -⟩ := hrow.form
      rw [HG.out.tl] at hov
      subst hov
      have HGx := HG
      have HI1 : Hid (U2 w w1.heap.size x none xs [] (.slice ax mx cx) (.slice none 0 0) wr) := Lib.hid ⟨p, none, hD, hrow, World.ownsRow_nil _ _ _ _⟩
      clear hD hrow HG
      go_wp2_with fail
      go_loopw [9, 11] (fun ov iv wr => ∃ (j : Nat) (ow : Value), ow = ov ∧ iv = .int .i64 j ∧ j ≤ n1 ∧ Hid (∃ o ts mo, Grow1 m j o ts mo ∧ U2 w w1.heap.size x o xs ts (.slice ax mx cx) ow wr)) (fun _ iv _ => n1 - (intOf iv).toNat)
      case atStart => exact ⟨0, _, rfl, rfl, Nat.zero_le _, Lib.hid ⟨none, [], 0, ⟨rfl, trivial, rfl, rfl, rfl, Nat.le_refl _⟩, HI1.out⟩⟩
      case round =>
        obtain ⟨j, ow, rfl, rfl, hj, HF⟩ := hrel
        obtain ⟨o, ts, mo, hG, hU⟩ := HF.out
        clear HF
        have HG := Lib.hid hG
        have hmj := hG.mj
        clear hG
        have j0 : (0 : Int) ≤ (j : Int) := by omega
        by_cases hlt : j < n1
        · obtain ⟨p, q, hD, hrx, hrow⟩ := hU
          have HX0 := Lib.hid hrx
          clear hrx
          obtain ⟨qa, oa, rfl, q01, q02⟩ := HR1.out.r.at (k := j) (by rw [HR1.out.len]; exact hlt)
          have hik : I64 (m.getD j (0, 0)).1 := HR1.out.i _ (by rw [List.getD_eq_getElem?_getD, List.getElem?_eq_getElem (by rw [HR1.out.len]; exact hlt)]; exact List.getElem_mem _)
          obtain ⟨y, hy⟩ : ∃ y, y = m.getD j (0, 0) := ⟨_, rfl⟩
          have HY := Lib.hid hy
          obtain ⟨y1, y2⟩ := y
          rw [← hy] at q01 q02 hik
          dsimp only at q01 q02 hik
          obtain ⟨m2, hG2⟩ := grow1_next HG.out (by rw [HR1.out.len]; exact hlt) HY.out hik
          have HG2 := Lib.hid hG2
          have HIK := Lib.hid hik
          have q1 := upc hD.bel q01
          have q2 := upc hD.bel q02
          have HQ := Lib.hid (And.intro q01 q02)
          obtain ⟨am, cm, hov, -⟩ := hrow.form
          rw [HG.out.tl] at hov
          subst hov
          have j1 : (j : Int) < (n1 : Int) := by omega
          have kb := cell_of_one hD.b1
          have HD := Lib.hid hD
          have HO := Lib.hid hrow
          clear q01 q02 hy hik hG2 hD hrow
          have HC := Lib.hid (fun W (hW : Below wr.heap.size wr W) => Put_any w.heap.size W q o y1 y2 (szle hW HD.out.bel.size) (HD.out.h1.up hW) HG.out.ok HIK.out (by have := HG.out.c; omega))
          go_wp2_with fail
          go_region_with (first | (go_at_call 9; refine (HC.out _ (by exact belowDrew _)).mono ?_; rintro e w3 ⟨p3, rfl, hp3, hb3⟩; replace hb3 := belowTrans (belowDrew _) hb3; have hD3 := HD.out.up hb3; have hO3 := HO.out.up hb3; have c0 := cell_of_one hD3.b1; have f0 := free_of_one hD3.b1; have hX3 := HX0.out.up hb3))
          all_goals
            obtain ⟨Z, hZ⟩ : ∃ Z, Z = w3.setCell ⟨w1.heap.size + 1, 0, none⟩ (.pointer p3) := ⟨_, rfl⟩
            have hDZ : Duo w w1.heap.size x (some (oput o (tk y1) y2)) Z p p3 := by rw [hZ]; exact hD3.set1 hp3
            have hOZ : OwnP Z w.heap.size (.slice am mo cm) ts := by rw [hZ]; exact hD3.row1 hO3
            have hXZ : OwnP Z w.heap.size (.slice ax mx cx) xs := by rw [hZ]; exact hD3.row1 hX3
            have r1 : Z.cell? ⟨qa, oa + j * 2, none⟩ = some (.int .i64 y1) := upc hDZ.bel HQ.out.1
            have r2 : Z.cell? ⟨qa, oa + j * 2 + 1, none⟩ = some (.int .i64 y2) := upc hDZ.bel HQ.out.2
            have HDZ := Lib.hid hDZ
            have HOZ := Lib.hid hOZ
            have HXZ := Lib.hid hXZ
            have HC2 : Hid (∀ W, Below Z.heap.size Z W → Calls Try.prog 15 #[.slice am mo cm, .int .i64 y1, .int .i64 y2] W (RetL W m2 (keyed ts y1 y2))) := Lib.hid (fun W hW => Keyed_any am cm mo m2 ts y1 y2 W HG.out.tl (by omega) (OwnP.reads (HOZ.out.up hW)) HG2.out.tl)
            try rw [← hZ]
            clear hDZ hOZ c0 f0 q1 q2 hD3 hO3 hp3 hb3 hZ kb HC hX3 hXZ
            go_wp2_with fail
            go_region_held3 (fun w' => w'.cell? ⟨qa, oa + j * 2, none⟩ = some (.int .i64 y1) ∧ w'.cell? ⟨qa, oa + j * 2 + 1, none⟩ = some (.int .i64 y2)) (first | exact ⟨s1, s2⟩ | exact ⟨r1, r2⟩ | go_keep)
              (first | (go_at_call 15; refine (HC2.out _ (by exact belowDrew Z)).mono ?_; rintro e V ⟨a3, c3, rfl, hoZ, hbZ⟩; have hlo := OwnP.lower hoZ (szle (belowDrew Z) HDZ.out.bel.size); replace hbZ := belowTrans (belowDrew Z) hbZ; have s1 := upc hbZ r1; have s2 := upc hbZ r2))
            have HE : Hid (∃ o ts mo, Grow1 m (j + 1) o ts mo ∧ U2 w w1.heap.size x o xs ts (.slice ax mx cx) (.slice a3 m2 c3) V) := Lib.hid ⟨_, _, _, HG2.out, p, p3, HDZ.out.up hbZ, HXZ.out.up hbZ, hlo⟩
            clear r1 r2 s1 s2 hoZ hlo hbZ HC2
            go_wp2_with fail
            go_roundw
            case rel => exact ⟨j + 1, _, rfl, by go_num, hlt, HE⟩
            case measure => simp [intOf]; omega
        · obtain rfl : n1 = j := by omega
          obtain ⟨y, hx⟩ : ∃ x, x = o := ⟨_, rfl⟩
          subst hx
          obtain ⟨ys, hxs⟩ : ∃ x, x = ts := ⟨_, rfl⟩
          subst hxs
          obtain ⟨my, hmx⟩ : ∃ x, x = mo := ⟨_, rfl⟩
          subst hmx
          obtain ⟨p, q, hD, hrx, hry⟩ := hU
          obtain ⟨ay, cy, hov, -⟩ := hry.form
          rw [HG.out.tl] at hov
          subst hov
          obtain ⟨us, is, ds, mu, mi, md, hB⟩ := both_of HR0.out.len HR1.out.len b0 b1 HGx.out HG.out
          have HB := Lib.hid hB
          have bmx := hB.bx
          have bmy := hB.bY
          have HI2 : Hid (Third w w1.heap.size x y xs ys (.slice ax mx cx) (.slice ay my cy) 0 (.slice ay my cy) (.slice none 0 0) (.slice none 0 0) wr) := Lib.hid ⟨⟨p, q, hD⟩, hrx, hry, hry, World.ownsRow_nil _ _ _ _, World.ownsRow_nil _ _ _ _, Aside.nil _, Aside.nil _, Aside.nil _, Aside.nil _, Aside.nil _, Aside.nil _, Aside.nil _⟩
          obtain ⟨i0, hi, hz0, hz1, hz2⟩ := info_parts infoP
          have Hi := Lib.hid (And.intro hi (And.intro hz0 (And.intro hz1 hz2)))
          clear hB hD hrx hry HG HGx hi hz0 hz1 hz2
          go_wp2_with fail
          go_loopw [12, 13, 14, 15, 16, 17] (fun uv dv ev iv _ _ wr => ∃ (j : Nat) (vu vi vd : Value), vu = uv ∧ vi = dv ∧ vd = ev ∧ iv = .int .i64 j ∧ j ≤ mx ∧ Hid (Third w w1.heap.size x y xs ys (.slice ax mx cx) (.slice ay my cy) j vu vi vd wr)) (fun _ _ _ iv _ _ _ => mx - (intOf iv).toNat)
          case atStart => exact ⟨0, _, _, _, rfl, rfl, rfl, rfl, Nat.zero_le _, HI2⟩
          case round =>
            obtain ⟨j, vu, vi, vd, rfl, rfl, rfl, rfl, hj, HT⟩ := hrel
            have j0 : (0 : Int) ≤ (j : Int) := by omega
            by_cases hlt : j < mx
            · have j1 : (j : Int) < (mx : Int) := by omega
              obtain ⟨qa, oa, hax, q1, q2⟩ := (OwnP.reads HT.out.rx).at (k := j) (by rw [HB.out.lx]; exact hlt)
              subst hax
              obtain ⟨y0, hy⟩ : ∃ y, y = xs.getD j (0, 0) := ⟨_, rfl⟩
              have HY := Lib.hid hy
              obtain ⟨y1, y2⟩ := y0
              rw [← hy] at q1 q2
              dsimp only at q1 q2
              obtain ⟨au, cu, hou, -⟩ := HT.out.ru.form
              obtain ⟨mj, hmj⟩ : ∃ k, k = (uni ys (xs.take j)).length := ⟨_, rfl⟩
              have bmj : mj ≤ 2097152 := by have h := uni_length (xs.take j) ys; rw [List.length_take, HB.out.ly] at h; omega
              rw [← hmj] at hou
              subst hou
              obtain ⟨mk, hmk⟩ : ∃ k, (keyed (uni ys (xs.take j)) y1 y2).length = k := ⟨_, rfl⟩
              have HM := Lib.hid (And.intro hmj.symm hmk)
              clear hy hmj hmk
              have HC2 : Hid (∀ W, Below wr.heap.size wr W → Calls Try.prog 15 #[.slice au mj cu, .int .i64 y1, .int .i64 y2] W (RetL W mk (keyed (uni ys (xs.take j)) y1 y2))) := Lib.hid (fun W hW => Keyed_any au cu mj mk _ y1 y2 W HM.out.1 (by omega) (OwnP.reads (HT.out.ru.up hW)) HM.out.2)
              go_wp2_with fail
              go_region_held3 (fun w' => w'.cell? ⟨qa, oa + j * 2, none⟩ = some (.int .i64 y1) ∧ w'.cell? ⟨qa, oa + j * 2 + 1, none⟩ = some (.int .i64 y2)) (first | exact ⟨s1, s2⟩ | exact ⟨q1, q2⟩ | go_keep)
                (first | (go_at_call 15; refine (HC2.out _ (by exact belowDrew wr)).mono ?_; rintro e V ⟨a3, c3, rfl, hoZ, hbZ⟩; have hD0 := (belowDrew wr).size; replace hbZ := belowTrans (belowDrew wr) hbZ; have s1 := upc hbZ q1; have s2 := upc hbZ q2))
              have HU : Hid (Thirdu w w1.heap.size x y xs ys (.slice (some ⟨qa, oa, none⟩) mx cx) (.slice ay my cy) j (.slice a3 mk c3) vi vd V) := Lib.hid (HT.out.uni (by rw [HB.out.lx]; exact hlt) hbZ hD0 (by rw [← HY.out]; exact hoZ))
              obtain ⟨rv, hrv⟩ : ∃ r, valued ys y1 = r := ⟨_, rfl⟩
              have HV := Lib.hid (Valued_any ay cy my ys y1 V HB.out.ly (by omega) (OwnP.reads HU.out.ry) rv hrv)
              have HRV := Lib.hid hrv
              clear q1 q2 hoZ hbZ hD0 HC2 HT hrv
              go_wp2_with fail
              refine HV.out.mono ?_
              rintro e V2 ⟨rfl, rfl⟩
              obtain ⟨rs, hrs⟩ : ∃ x : Bool, x = rv.isSome := ⟨_, rfl⟩
              have hhas : hasK ys (y1, y2) = rs := by rw [hrs]; show (valued ys y1).isSome = _; rw [HRV.out]
              obtain ⟨rg, hrg⟩ : ∃ x : Int, x = rv.getD 0 := ⟨_, rfl⟩
              rw [← hrs, ← hrg]
              have HH := Lib.hid hhas
              have HL := Lib.hid (And.intro (kept_len (hasK ys) xs j) (kept_len (notK ys) xs j))
              obtain ⟨zi, hzi⟩ : ∃ z, z = kept (hasK ys) xs j := ⟨_, rfl⟩
              obtain ⟨zd, hzd⟩ : ∃ z, z = kept (notK ys) xs j := ⟨_, rfl⟩
              have bzi : zi.length ≤ j := by rw [hzi]; exact HL.out.1
              have bzd : zd.length ≤ j := by rw [hzd]; exact HL.out.2
              have hoi : V.ownsRow w.heap.size 31 2 vi zi.length (cellsP zi) := by rw [hzi]; exact HU.out.ri
              have hod : V.ownsRow w.heap.size 31 2 vd zd.length (cellsP zd) := by rw [hzd]; exact HU.out.rd
              have Hoi := Lib.hid hoi
              have Hod := Lib.hid hod
              have HZ := Lib.hid (And.intro hzi hzd)
              have s1' := upc (belowAlloc V (.cells #[.int .i64 y1, .int .i64 y2] 31)) s1
              obtain ⟨p, q, hD⟩ := HU.out.du
              have Hbel := Lib.hid hD.bel
              clear hrs hhas hrg hoi hod hzi hzd hD HL
              cases rs
              · go_wp2_with (at_builtin; obtain ⟨hi, hz0, hz1, hz2⟩ := Hi.out; refine wpList_append_lies _ rfl (.tmp 121) (.tmp 126) 28 rfl w.heap.size 31 i0 (.agg #[.int .i64 0, .int .i64 0]) 2 16 Try.underlying28 hi hz0 hz1 hz2 rfl (by decide) vd zd.length (cellsP zd) rfl (Hod.out.alloc _) ⟨V.heap.size, 0, none⟩ 1 1 [.int .i64 y1, .int .i64 y2] rfl rfl ?c1 ?c2 ?c3 ?c4 ?c5 ?c6 (V.heap.size + 1) ?c7 ?_)
                case c1 => exact World.news_of_block (cs := #[.int .i64 y1, .int .i64 y2]) (t := 31) (fr := (0, 0)) (heap_alloc_new _ _)
                case c2 => simp [Value.oneCell']
                case c3 => omega
                case c4 => unfold maxLen; omega
                case c5 => omega
                case c6 => have := Hbel.out.size; simp; omega
                case c7 => simp
                intro g cap w4 hown4 hgrow hat hlt4
                have HE : Hid (Third w w1.heap.size x y xs ys (.slice (some ⟨qa, oa, none⟩) mx cx) (.slice ay my cy) (j + 1) (.slice a3 mk c3) vi (.slice (some ⟨g, 0, none⟩) (zd.length + 1) cap) w4) := Lib.hid (HU.out.no (y1 := y1) (y2 := y2) (by rw [HB.out.lx]; exact hlt) HY.out HH.out (by rw [← HZ.out.2]; exact hown4) hgrow hat (Nat.le_succ _))
                clear hown4 hgrow hat hlt4 s1 s2 s1'
                go_wp2_with fail
                go_roundw
                case rel => exact ⟨j + 1, _, _, _, rfl, rfl, rfl, by go_num, hlt, HE⟩
                case measure => simp [intOf]; omega
              · go_wp2_with (at_builtin; obtain ⟨hi, hz0, hz1, hz2⟩ := Hi.out; refine wpList_append_lies _ rfl (.tmp 114) (.tmp 119) 28 rfl w.heap.size 31 i0 (.agg #[.int .i64 0, .int .i64 0]) 2 16 Try.underlying28 hi hz0 hz1 hz2 rfl (by decide) vi zi.length (cellsP zi) rfl (Hoi.out.alloc _) ⟨V.heap.size, 0, none⟩ 1 1 [.int .i64 y1, .int .i64 y2] rfl rfl ?c1 ?c2 ?c3 ?c4 ?c5 ?c6 (V.heap.size + 1) ?c7 ?_)
                case c1 => exact World.news_of_block (cs := #[.int .i64 y1, .int .i64 y2]) (t := 31) (fr := (0, 0)) (heap_alloc_new _ _)
                case c2 => simp [Value.oneCell']
                case c3 => omega
                case c4 => unfold maxLen; omega
                case c5 => omega
                case c6 => have := Hbel.out.size; simp; omega
                case c7 => simp
                intro g cap w4 hown4 hgrow hat hlt4
                have HE : Hid (Third w w1.heap.size x y xs ys (.slice (some ⟨qa, oa, none⟩) mx cx) (.slice ay my cy) (j + 1) (.slice a3 mk c3) (.slice (some ⟨g, 0, none⟩) (zi.length + 1) cap) vd w4) := Lib.hid (HU.out.yes (y1 := y1) (y2 := y2) (by rw [HB.out.lx]; exact hlt) HY.out HH.out (by rw [← HZ.out.1]; exact hown4) hgrow hat (Nat.le_succ _))
                clear hown4 hgrow hat hlt4 s1 s2 s1'
                go_wp2_with fail
                go_roundw
                case rel => exact ⟨j + 1, _, _, _, rfl, rfl, rfl, by go_num, hlt, HE⟩
                case measure => simp [intOf]; omega
            · obtain rfl : mx = j := by omega
              obtain ⟨p, q, hD⟩ := HT.out.du
              have hu := HT.out.ru
              have hi1 := HT.out.ri
              have hd1 := HT.out.rd
              rw [List.take_of_length_le (by rw [HB.out.lx]; exact Nat.le_refl _), HB.out.eu] at hu
              rw [kept_all (by rw [HB.out.lx]; exact Nat.le_refl _), HB.out.ei] at hi1
              rw [kept_all (by rw [HB.out.lx]; exact Nat.le_refl _), HB.out.ed] at hd1
              obtain ⟨au, cu, hou, -⟩ := hu.form
              rw [HB.out.lu] at hou
              subst hou
              obtain ⟨ai, ci, hoi, -⟩ := hi1.form
              rw [HB.out.li] at hoi
              subst hoi
              obtain ⟨ad, cd, hod, -⟩ := hd1.form
              rw [HB.out.ld] at hod
              subst hod
              have HD := Lib.hid (And.intro hD (And.intro hu (And.intro hi1 hd1)))
              have k0 := cell_of_one hD.b0
              have k1 := cell_of_one hD.b1
              clear hD hu hi1 hd1 HT
              go_wp2_with fail
              refine (Union_any w.heap.size wr p q x y HD.out.1.bel.size HD.out.1.h0 HD.out.1.h1 HB.out.ox HB.out.oy HB.out.q).mono ?_
              rintro e wA1 ⟨pu, rfl, hpu, hbA⟩
              have HP := Lib.hid (And.intro hpu hbA)
              clear hpu hbA k0 k1
              go_wp2_with fail
              refine (Pairs_num w.heap.size wA1 pu (ounion x y) mu HP.out.1 HB.out.ou HB.out.cu (by have := HB.out.bu; omega) us HB.out.tu).mono ?_
              rintro e wB1 ⟨aB, cB, rfl, hoB, hbB⟩
              have hbAB := belowTrans HP.out.2 hbB
              have HD2 := Lib.hid (And.intro (HD.out.1.up hbAB) (And.intro (HD.out.2.1.up hbAB) (And.intro (HD.out.2.2.1.up hbAB) (HD.out.2.2.2.up hbAB))))
              have HS := Lib.hid (samePairs_any aB au cB cu mu mu us us wB1 HB.out.lu HB.out.lu (OwnP.reads hoB) (OwnP.reads (HD2.out.2.1)) (by unfold maxLen; have := HB.out.bu; omega) true (decide_eq_true rfl))
              clear hoB hbB hbAB HP HD
              go_wp2_with fail
              refine HS.out.mono ?_
              rintro e wC1 ⟨rfl, qq, hU⟩
              have hbC : Below wB1.heap.size wB1 wC1 := by rw [hU]; exact belowDrewN _ _
              have HD := Lib.hid (And.intro (HD2.out.1.up hbC) (And.intro (HD2.out.2.1.up hbC) (And.intro (HD2.out.2.2.1.up hbC) (HD2.out.2.2.2.up hbC))))
              clear hbC hU HD2 HS
              have k0 := cell_of_one HD.out.1.b0
              have k1 := cell_of_one HD.out.1.b1
              go_wp2_with fail
              refine (Inter_any w.heap.size wC1 p q x y HD.out.1.bel.size HD.out.1.h0 HD.out.1.h1 HB.out.ox HB.out.oy HB.out.q).mono ?_
              rintro e wA2 ⟨pu, rfl, hpu, hbA⟩
              have HP := Lib.hid (And.intro hpu hbA)
              clear hpu hbA k0 k1
              go_wp2_with fail
              refine (Pairs_num w.heap.size wA2 pu (osifted y true x) mi HP.out.1 HB.out.oi HB.out.ci (by have := HB.out.bi; omega) is HB.out.ti).mono ?_
              rintro e wB2 ⟨aB, cB, rfl, hoB, hbB⟩
              have hbAB := belowTrans HP.out.2 hbB
              have HD2 := Lib.hid (And.intro (HD.out.1.up hbAB) (And.intro (HD.out.2.1.up hbAB) (And.intro (HD.out.2.2.1.up hbAB) (HD.out.2.2.2.up hbAB))))
              have HS := Lib.hid (samePairs_any aB ai cB ci mi mi is is wB2 HB.out.li HB.out.li (OwnP.reads hoB) (OwnP.reads (HD2.out.2.2.1)) (by unfold maxLen; have := HB.out.bi; omega) true (decide_eq_true rfl))
              clear hoB hbB hbAB HP HD
              go_wp2_with fail
              refine HS.out.mono ?_
              rintro e wC2 ⟨rfl, qq, hU⟩
              have hbC : Below wB2.heap.size wB2 wC2 := by rw [hU]; exact belowDrewN _ _
              have HD := Lib.hid (And.intro (HD2.out.1.up hbC) (And.intro (HD2.out.2.1.up hbC) (And.intro (HD2.out.2.2.1.up hbC) (HD2.out.2.2.2.up hbC))))
              clear hbC hU HD2 HS
              have k0 := cell_of_one HD.out.1.b0
              have k1 := cell_of_one HD.out.1.b1
              go_wp2_with fail
              refine (Diff_any w.heap.size wC2 p q x y HD.out.1.bel.size HD.out.1.h0 HD.out.1.h1 HB.out.ox HB.out.oy HB.out.q).mono ?_
              rintro e wA3 ⟨pu, rfl, hpu, hbA⟩
              have HP := Lib.hid (And.intro hpu hbA)
              clear hpu hbA k0 k1
              go_wp2_with fail
              refine (Pairs_num w.heap.size wA3 pu (osifted y false x) md HP.out.1 HB.out.od HB.out.cd (by have := HB.out.bd; omega) ds HB.out.td).mono ?_
              rintro e wB3 ⟨aB, cB, rfl, hoB, hbB⟩
              have hbAB := belowTrans HP.out.2 hbB
              have HD2 := Lib.hid (And.intro (HD.out.1.up hbAB) (And.intro (HD.out.2.1.up hbAB) (And.intro (HD.out.2.2.1.up hbAB) (HD.out.2.2.2.up hbAB))))
              have HS := Lib.hid (samePairs_any aB ad cB cd md md ds ds wB3 HB.out.ld HB.out.ld (OwnP.reads hoB) (OwnP.reads (HD2.out.2.2.2)) (by unfold maxLen; have := HB.out.bd; omega) true (decide_eq_true rfl))
              clear hoB hbB hbAB HP HD
              go_wp2_with fail
              refine HS.out.mono ?_
              rintro e wC3 ⟨rfl, qq, hU⟩
              have hbC : Below wB3.heap.size wB3 wC3 := by rw [hU]; exact belowDrewN _ _
              have HD := Lib.hid (And.intro (HD2.out.1.up hbC) (And.intro (HD2.out.2.1.up hbC) (And.intro (HD2.out.2.2.1.up hbC) (HD2.out.2.2.2.up hbC))))
              clear hbC hU HD2 HS
              have k0 := cell_of_one HD.out.1.b0
              have k1 := cell_of_one HD.out.1.b1
              go_wp2_with fail
              refine (Union_any w.heap.size wC3 p q x y HD.out.1.bel.size HD.out.1.h0 HD.out.1.h1 HB.out.ox HB.out.oy HB.out.q).mono ?_
              rintro e wA4 ⟨pu, rfl, hpu, hbA⟩
              have HL := Lib.hid (Len_num w.heap.size wA4 pu _ mu hpu HB.out.cu)
              have HD2 := Lib.hid (HD.out.1.up hbA)
              clear hpu hbA k0 k1
              go_wp2_with fail
              refine HL.out.mono ?_
              rintro e wB4 ⟨rfl, hbB⟩
              have HE := Lib.hid (HD2.out.up hbB).bel
              clear hbB
              go_wp2_with fail
              go_ret
              exact ⟨rfl, HE.out⟩

theorem unions_any (a0 : Option Addr) (c0 : Nat) (l0 : List (Int × Int)) (a1 : Option Addr) (c1 : Nat) (l1 : List (Int × Int)) (w : World)
    (b0 : l0.length ≤ 1048576) (r0 : ReadsP w a0 l0) (i0 : ∀ p ∈ l0, I64 p.1) (b1 : l1.length ≤ 1048576) (r1 : ReadsP w a1 l1) (i1 : ∀ p ∈ l1, I64 p.1) :
    Calls Try.prog 6 #[.slice a0 l0.length c0, .slice a1 l1.length c1] w (Yes w) :=
  unions a0 a1 c0 c1 l0.length l1.length l0 l1 w ⟨r0, rfl, i0, b0⟩ ⟨r1, rfl, i1, b1⟩
end Go.Proofs.Ytnebmncjohoekaa.pat
