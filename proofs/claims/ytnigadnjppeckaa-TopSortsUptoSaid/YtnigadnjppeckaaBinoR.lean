/- slices.Reverse of a row of the call's own: pointers, in place. -/
import Derived.Test.YtnigadnjppeckaaConcatP
import Derived.RegionTactic
import Derived.BigRegion
import Derived.ChangeAlike
namespace Go.Proofs.Ytnigadnjppeckaa.concatP
open Go.RowKit

/-- what stands below B is as it was; the own row v holds these -/
structure FillT (B : Nat) (v : Value) (n : Nat) (ps : PL) (w wr : World) : Prop where
  bel : Below B w wr
  own : wr.ownsRow B 168 1 v n (ps.map Value.pointer)
theorem rowUpT {w w' : World} {B E size n : Nat} {v : Value} {xs : List Value} (h : w.ownsRow B E size v n xs) (hb : Below w.heap.size w w') : w'.ownsRow B E size v n xs := by
  refine ⟨h.1, ?_⟩
  rcases h.2 with h' | ⟨g, cap, cur, rfl, hg, hc, r⟩
  · exact .inl h'
  · exact .inr ⟨g, cap, cur, rfl, hg, upb hb hc, r⟩
set_option maxRecDepth 100000 in
set_option maxHeartbeats 4000000 in
theorem rev_some (B : Nat) (w : World) (g n c : Nat) (ps : PL) (hn : ps.length = n) (hb : n ≤ 17592186044416) (hBg : B ≤ g) (hBw : B ≤ w.heap.size) (h : w.ownsRow B 168 1 (.slice (some ⟨g, 0, none⟩) n c) n (ps.map Value.pointer)) :
    Calls Try.prog 104 #[.slice (some ⟨g, 0, none⟩) n c] w fun e w' => e = .returned (.tuple #[]) ∧ FillT B (.slice (some ⟨g, 0, none⟩) n c) n ps.reverse w w' := by
  have H0 := Lib.hid h
  have Hn := Lib.hid hn
  clear h hn
  go_enter Try.func104, Try.ntmps104
  go_wp2_with fail
  go_loopw [2, 3] (fun iv jv wr => ∃ k : Nat, 2 * k ≤ n + 1 ∧ iv = .int .i64 k ∧ jv = .int .i64 ((n : Int) - 1 - k) ∧ Hid (∃ qs : PL, qs.length = n ∧ (∀ i, i < n → qs.getD i none = if i < k ∨ n - k ≤ i then ps.getD (n - 1 - i) none else ps.getD i none) ∧ FillT B (.slice (some ⟨g, 0, none⟩) n c) n qs w wr)) (fun iv _ _ => n - (intOf iv).toNat)
  case atStart => exact ⟨0, by omega, rfl, by go_num, Lib.hid ⟨ps, Hn.out, fun i hi => by rw [if_neg (by omega)], ⟨Below.refl _ _, H0.out⟩⟩⟩
  case round =>
    obtain ⟨k, hk, rfl, rfl, HR⟩ := hrel
    obtain ⟨qs, hql, hqs, hF⟩ := HR.out
    by_cases hlt : 2 * k + 1 < n
    · have hci : wr.cell? ⟨g, k, none⟩ = some (.pointer (qs.getD k none)) := by
        have h := World.ownsRow.cells hF.own (g := g) rfl k (.pointer (qs.getD k none)) (by simp [List.getD_eq_getElem?_getD, show k < qs.length by omega])
        rw [bino.addr_add] at h
        simpa using h
      obtain ⟨j, hj⟩ : ∃ j, j = n - 1 - k := ⟨_, rfl⟩
      have hcj : wr.cell? ⟨g, j, none⟩ = some (.pointer (qs.getD j none)) := by
        have h := World.ownsRow.cells hF.own (g := g) rfl j (.pointer (qs.getD j none)) (by simp [List.getD_eq_getElem?_getD, show j < qs.length by omega])
        rw [bino.addr_add] at h
        simpa using h
      have hji : (n : Int) - 1 - k = (j : Nat) := by omega
      rw [hji]
      have hd : k < j := by omega
      have h0 : (0 : Int) ≤ (k : Int) := by omega
      have h1 : (k : Int) < (n : Int) := by omega
      have h2 : (0 : Int) ≤ (j : Int) := by omega
      have h3 : (j : Int) < (n : Int) := by omega
      have fz : ∀ i, wr.frozen? ⟨g, i, none⟩ = false := fun i => hF.own.frozenAt i
      have fi := fz k
      have fj := fz j
      have HX := Lib.hid (And.intro hj (And.intro hql (And.intro hqs hF)))
      have hjk : k ≠ j := by omega
      generalize hx : List.getD qs k none = x at hci
      generalize hy : List.getD qs j none = y at hcj
      have HY := Lib.hid (And.intro hx hy)
      clear fz hj hql hqs hF hji hx hy HR
      go_wp2_with fail
      go_region
      have ho := HX.out.2.2.2.own
      have ho1 := (ho.stored k (.pointer y)).1
      have ho2 := (ho1.stored j (.pointer x)).1
      have kk := hci
      have fk := ho.frozenAt k
      have kj : (wr.setCell ⟨g, k, none⟩ (.pointer y)).cell? ⟨g, j, none⟩ = some (.pointer y) := by
        have h := World.ownsRow.cells ho1 (g := g) rfl j (.pointer y) (by
          rw [List.getElem?_set_ne hjk, List.getElem?_map, List.getElem?_eq_getElem (by rw [HX.out.2.1]; omega)]
          have h := HY.out.2
          rw [List.getD_eq_getElem?_getD, List.getElem?_eq_getElem (by rw [HX.out.2.1]; omega)] at h
          simpa using h)
        rw [bino.addr_add] at h
        simpa using h
      have fj := ho1.frozenAt j
      have kj0 := hcj
      have fj0 := ho.frozenAt j
      have hkj : ¬ j = k := fun e => hjk e.symm
      have HN : Hid (∃ qs : PL, qs.length = n ∧ (∀ i, i < n → List.getD qs i none = if i < k + 1 ∨ n - (k + 1) ≤ i then List.getD ps (n - 1 - i) none else List.getD ps i none) ∧ FillT B (.slice (some ⟨g, 0, none⟩) n c) n qs w ((wr.setCell ⟨g, k, none⟩ (.pointer y)).setCell ⟨g, j, none⟩ (.pointer x)).drew) := Lib.hid (by
        refine ⟨(qs.set k y).set j x, by simpa using HX.out.2.1, fun i hi => ?_, ⟨(HX.out.2.2.2.bel.setCell (p := ⟨g, k, none⟩) hBg _).setCell (p := ⟨g, j, none⟩) hBg _ |>.trans (Below.mono (belowDrew _) (Nat.le_trans hBw (Nat.le_trans HX.out.2.2.2.bel.size (by simp [World.setCell])))), rowUpT (by simpa [List.map_set] using ho2) (belowDrew _)⟩⟩
        have hl := HX.out.2.1
        have hjv := HX.out.1
        have hx := HY.out.1
        have hy := HY.out.2
        have hq := HX.out.2.2.1
        have qk := hq k (by omega)
        have qj := hq j (by omega)
        rw [if_neg (by omega)] at qk qj
        by_cases e1 : i = j
        · subst e1
          rw [if_pos (by omega), show n - 1 - i = k by omega, ← qk, hx]
          simp [List.getD_eq_getElem?_getD, show i < qs.length by omega]
        · by_cases e2 : i = k
          · subst e2
            rw [if_pos (by omega), ← hjv, ← qj, hy]
            simp [List.getD_eq_getElem?_getD, List.getElem_set_ne (Ne.symm e1), show i < qs.length by omega]
          · have hqi := hq i hi
            have e3 : List.getD ((qs.set k y).set j x) i none = List.getD qs i none := by
              rw [List.getD_eq_getElem?_getD, List.getElem?_set_ne (Ne.symm e1), List.getElem?_set_ne (Ne.symm e2), ← List.getD_eq_getElem?_getD]
            rw [e3, hqi]
            by_cases e4 : i < k ∨ n - k ≤ i
            · rw [if_pos e4, if_pos (by omega)]
            · rw [if_neg e4, if_neg (by omega)])
      have Hjn : Hid ((j : Int) = (n : Int) - 1 - k) := Lib.hid (by have := HX.out.1; omega)
      clear ho ho1 ho2
      go_wp2_with fail
      exact ⟨⟨k + 1, by omega, by go_num, by have h := Hjn.out; congr 1; omega, HN⟩, by simp [intOf]; omega⟩
    · have hend : Hid (FillT B (.slice (some ⟨g, 0, none⟩) n c) n ps.reverse w wr) := Lib.hid (by
        have e : qs = ps.reverse := by
          refine List.ext_getElem? (fun i => ?_)
          by_cases hi : i < n
          · have h := hqs i hi
            have hv : List.getD ps (n - 1 - i) none = List.getD qs i none := by
              rw [h]
              by_cases e4 : i < k ∨ n - k ≤ i
              · rw [if_pos e4]
              · rw [if_neg e4, show n - 1 - i = i by omega]
            have hpl := Hn.out
            rw [List.getElem?_reverse (by omega), hpl]
            rw [List.getD_eq_getElem?_getD, List.getD_eq_getElem?_getD, List.getElem?_eq_getElem (by omega), List.getElem?_eq_getElem (by omega)] at hv
            rw [List.getElem?_eq_getElem (by omega), List.getElem?_eq_getElem (by omega)]
            simpa using hv.symm
          · have hpl := Hn.out
            rw [List.getElem?_eq_none (by omega), List.getElem?_eq_none (by rw [List.length_reverse]; omega)]
        rw [← e]
        exact hF)
      have hd : ¬ ((k : Int) < (n : Int) - 1 - k) := by omega
      clear hqs hF HR hql
      go_wp2_with fail
      go_end0
      exact ⟨rfl, hend.out⟩
end Go.Proofs.Ytnigadnjppeckaa.concatP
