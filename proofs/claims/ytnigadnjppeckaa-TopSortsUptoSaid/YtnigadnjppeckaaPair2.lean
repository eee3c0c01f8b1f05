/- The walks of package pair, the second part: paired. -/
import Derived.Test.YtnigadnjppeckaaPair
namespace Go.Proofs.Ytnigadnjppeckaa.pair
open Go.RowKit

theorem infoPtr : (Try.prog.info? 83).map (fun i => (i.zero, i.size, i.bytes)) = some (some (.pointer none), 1, 8) := by kernel_rfl

/-- pointers that lead to so many trees -/
def All (B : Nat) (w : World) : List (Option Addr) → List (BT A) → Prop
  | [], [] => True
  | p :: ps, t :: ts => In B w p t ∧ All B w ps ts
  | _, _ => False
theorem All.imp {B : Nat} {w w' : World} (hi : ∀ p t, In B w p t → In B w' p t) : ∀ {ps : List (Option Addr)} {ts : List (BT A)}, All B w ps ts → All B w' ps ts
  | [], [], _ => trivial
  | _ :: _, _ :: _, h => ⟨hi _ _ h.1, All.imp hi h.2⟩
  | [], _ :: _, h => h.elim
  | _ :: _, [], h => h.elim
theorem All.snoc {B : Nat} {w : World} {p : Option Addr} {t : BT A} (hp : In B w p t) : ∀ {ps : List (Option Addr)} {ts : List (BT A)}, All B w ps ts → All B w (ps ++ [p]) (ts ++ [t])
  | [], [], _ => ⟨hp, trivial⟩
  | _ :: _, _ :: _, h => ⟨h.1, All.snoc hp h.2⟩
  | [], _ :: _, h => h.elim
  | _ :: _, [], h => h.elim
theorem All.length {B : Nat} {w : World} : ∀ {ps : List (Option Addr)} {ts : List (BT A)}, All B w ps ts → ps.length = ts.length
  | [], [], _ => rfl
  | _ :: _, _ :: _, h => by simp [All.length h.2]
  | [], _ :: _, h => h.elim
  | _ :: _, [], h => h.elim
theorem All.get {B : Nat} {w : World} : ∀ {ps : List (Option Addr)} {ts : List (BT A)} (_ : All B w ps ts) (i : Nat), i < ps.length → In B w (ps.getD i none) (ts.getD i .nil)
  | [], [], _, i, h => by simp at h
  | p :: ps, t :: ts, h, i, hi => by
    cases i with
    | zero => exact h.1
    | succ i => simpa using All.get h.2 i (by simpa using hi)
  | [], _ :: _, h, _, _ => h.elim
  | _ :: _, [], h, _, _ => h.elim

set_option maxHeartbeats 4000000 in
theorem paired_any (w : World) (p : Option Addr) (t : BT A) (h : In 0 w p t) (hn : t.size ≤ 17592186044416) :
    Calls Try.prog 107 #[.pointer p] w (Ret 0 w (· = paired t)) := by
  obtain ⟨i0, hi, hz0, hz1, hz2⟩ := info_parts infoPtr
  have Hi := Lib.hid (And.intro hi (And.intro hz0 (And.intro hz1 hz2)))
  have Hin := Lib.hid h
  clear hi hz0 hz1 hz2 h
  go_enter Try.func107, Try.ntmps107
  go_wp2_with fail
  go_loopg [0, 3] t.size (fun k l v wr => ∃ (q : Option Addr) (u : BT A) (ps : List (Option Addr)) (ts : List (BT A)) (m : Nat), l = .pointer q ∧ u.size = k ∧ u.size ≤ t.size ∧ ps.length = m ∧ m + u.size ≤ t.size ∧ Hid (In 0 wr q u ∧ All 0 wr ps ts ∧ ts ++ pairsOf u = pairsOf t) ∧ Hid (wr.ownsRow w.heap.size 83 1 v m (ps.map Value.pointer)) ∧ Hid (Below w.heap.size w wr))
  case atStart => exact ⟨p, t, [], [], 0, rfl, rfl, Nat.le_refl _, rfl, by omega, Lib.hid ⟨Hin.out, trivial, rfl⟩, Lib.hid (World.ownsRow_nil _ _ _ _), Lib.hid (Below.refl _ _)⟩
  case round =>
    obtain ⟨q, u, ps, ts, m, rfl, rfl, hu, hm, hmu, HA, Ho, Hb⟩ := hrel
    cases u with
    | nil =>
      obtain rfl : q = none := HA.out.1
      obtain ⟨a, c, hv, hg⟩ := rowForm Ho.out
      have Hm := Lib.hid hm
      have Hg := Lib.hid hg
      clear hm hg Ho
      subst hv
      have hm8 : m ≤ 17592186044416 := by omega
      clear hu hmu hn
      have hfold : ts.foldr meet .nil = paired t := by
        have h := HA.out.2.2
        rw [pairsOf, List.append_nil] at h
        rw [paired, ← h]
      have hlen : ts.length = m := by rw [← All.length HA.out.2.1]; exact Hm.out
      have Hfold := Lib.hid hfold
      have Hlen := Lib.hid hlen
      have HAll := Lib.hid HA.out.2.1
      clear hfold hlen HA
      obtain ⟨wo, hwo⟩ : ∃ wo : World, wo = wr := ⟨_, rfl⟩
      subst hwo
      go_wp2_with fail
      go_loopw [6, 7] (fun o i wq => ∃ (j : Nat) (q : Option Addr), j ≤ m ∧ o = .pointer q ∧ i = .int .i64 ((j : Int) - 1) ∧ Hid (In 0 wq q ((ts.drop j).foldr meet .nil)) ∧ Hid (Below wo.heap.size wo wq)) (fun _ i _ => (intOf i + 1).toNat)
      case atStart => exact ⟨m, none, Nat.le_refl _, rfl, rfl, Lib.hid (by rw [List.drop_of_length_le (by rw [Hlen.out]; exact Nat.le_refl _)]; rfl), Lib.hid (Below.refl _ _)⟩
      case round =>
        obtain ⟨j, q, hj, rfl, rfl, Hq, Hbq⟩ := hrel
        cases j with
        | zero =>
          have Hq' : Hid (In 0 wr q (paired t)) := Lib.hid (by have h := Hq.out; rw [List.drop_zero, Hfold.out] at h; exact h)
          have Hret := Lib.hid (belowTrans Hb.out Hbq.out)
          clear Hq
          go_wp2_with fail
          go_ret
          exact RetQ.mk rfl Hq'.out Hret.out
        | succ j =>
          have e : ((j + 1 : Nat) : Int) - 1 = (j : Int) := by omega
          rw [e]
          obtain ⟨g, ha, hgc⟩ := Hg.out (by omega)
          subst ha
          have hjp : j < ps.length := by rw [Hm.out]; omega
          have kc := upc Hbq.out (hgc j (.pointer (ps.getD j none)) (by simp [List.getD_eq_getElem?_getD, hjp]))
          have hin := (HAll.out.get j hjp).up Hbq.out
          have hM := met_any 0 wr _ _ q _ (Nat.zero_le _) hin Hq.out
          have HM := Lib.hid hM
          have d0 : (0 : Int) ≤ (j : Int) := by omega
          have d1 : (j : Int) < (m : Int) := by omega
          have d2 : (j : Int) ≤ 17592186044416 := by omega
          clear e hgc hin hM hjp
          go_wp2_with fail
          refine HM.out.mono ?_
          rintro e w1 ⟨p1, _, rfl, rfl, hp1, hb1⟩
          have Hp1 : Hid (In 0 w1 p1 ((ts.drop j).foldr meet .nil)) := Lib.hid (by
            have hjt : j < ts.length := by rw [Hlen.out]; omega
            rw [List.drop_eq_getElem_cons hjt, List.foldr_cons]
            have e : ts.getD j .nil = ts[j] := by simp [List.getD_eq_getElem?_getD, hjt]
            rw [← e]
            exact hp1)
          have Hb1 := Lib.hid (belowTrans Hbq.out hb1)
          clear hp1 hb1 kc
          go_wp2_with fail
          exact ⟨⟨j, p1, by omega, rfl, by go_num, Hp1, Hb1⟩, by simp [intOf]⟩
    | node x k r =>
      have Hm := Lib.hid hm
      obtain ⟨b, pk, pr, rfl, _, hb, hk, hr⟩ := HA.out.1
      have HAll := Lib.hid HA.out.2.1
      have HP := Lib.hid HA.out.2.2
      have hq := HA.out.1
      have Hq := Lib.hid hq
      have kr := cr hb
      have hm8 : m < 17592186044416 := by simp only [BT.size] at hmu; omega
      clear hm HA hb hq
      cases r with
      | nil =>
        obtain rfl : pr = none := hr
        have hM := fun n => met_any 0 (wr.drewN n) _ (.node x k .nil) none .nil (Nat.zero_le _) (Hq.out.up (belowDrewN _ _)) rfl
        have HM := Lib.hid hM
        have hk1 : BT.size (.nil : BT A) < (BT.node x k .nil : BT A).size := by simp only [BT.size]; omega
        have hk2 : BT.size (.nil : BT A) ≤ t.size := Nat.zero_le _
        have hk3 : m + 1 + BT.size (.nil : BT A) ≤ t.size := by simp only [BT.size] at hmu ⊢; omega
        clear hM hu hmu
        go_wp2_with fail
        go_quiet (fail)
        go_wp2_with fail
        refine (HM.out _).mono ?_
        rintro e w1 ⟨p1, _, rfl, rfl, hp1, hb1⟩
        have Hp1 := Lib.hid hp1
        have Hb1 := Lib.hid hb1
        have Ho1 := Lib.hid (rowUp Ho.out (belowTrans (belowDrewN wr _) hb1))
        have hws : w.heap.size ≤ w1.heap.size := Nat.le_trans Hb.out.size hb1.size
        clear hp1 hb1
        go_wp2_with (at_builtin; obtain ⟨hi, hz0, hz1, hz2⟩ := Hi.out; refine wpList_append_own _ rfl (.tmp 21) (.tmp 25) 201 rfl w.heap.size 83 i0 (.pointer none) 1 8 Try.underlying201 hi hz0 hz1 hz2 rfl (by decide) _ m _ rfl (Ho1.out.alloc _) ⟨w1.heap.size, 0, none⟩ 1 1 [.pointer p1] rfl rfl (cell_one_new _ _ _) (by simp [Value.oneCell']) (by unfold maxLen; omega) (by omega) (by simp; omega) ?_; intro v' w2 hown' hgrow hnil; clear hnil hi hz0 hz1 hz2)
        have hb2 := Below.grown (belowTrans (belowTrans Hb.out (belowTrans (belowDrewN wr _) Hb1.out)) (belowAlloc _ _)) hgrow (by simp; omega) (fun b hb => (Ho1.out.lt b hb).1)
        have hup : ∀ p t, In 0 wr p t → In 0 w2 p t := fun p t h => (h.up (belowTrans (belowDrewN wr _) Hb1.out)).grown Ho1.out hgrow (by decide)
        have hA2 := (All.imp hup HAll.out).snoc (Hp1.out.grown Ho1.out hgrow (by decide))
        have HA2 : Hid (In 0 w2 none (.nil : BT A) ∧ All 0 w2 (ps ++ [p1]) (ts ++ [meet (.node x k .nil) .nil]) ∧ (ts ++ [meet (.node x k .nil) .nil]) ++ pairsOf (.nil : BT A) = pairsOf t) := Lib.hid ⟨hup _ _ rfl, hA2, by rw [← HP.out]; simp [pairsOf, meet_nil]⟩
        have Ho2 : Hid (w2.ownsRow w.heap.size 83 1 v' (m + 1) ((ps ++ [p1]).map Value.pointer)) := Lib.hid (by rw [List.map_append]; exact hown')
        have Hb2 := Lib.hid hb2
        have Hl : Hid ((ps ++ [p1]).length = m + 1) := Lib.hid (by simp [Hm.out])
        clear hb2 hup hA2 hown' hgrow
        go_wp2_with fail
        go_roundg (.nil : BT A).size
        case measure => exact hk1
        case rel => exact ⟨none, (.nil : BT A), ps ++ [p1], ts ++ [meet (.node x k .nil) .nil], m + 1, rfl, rfl, hk2, Hl.out, hk3, HA2, Ho2, Hb2⟩
      | node y k' n =>
        obtain ⟨bb, pk2, pn, rfl, _, hbb, hk', hnn⟩ := id hr
        have kn := cr hbb
        have hM := fun n' => met_any 0 (wr.drewN n') _ (.node x k (.node y k' n)) _ (.node y k' n) (Nat.zero_le _) (Hq.out.up (belowDrewN _ _)) (hr.up (belowDrewN _ _))
        have HM := Lib.hid hM
        have Hnn := Lib.hid hnn
        have hk1 : n.size < (BT.node x k (.node y k' n) : BT A).size := by simp only [BT.size]; omega
        have hk2 : n.size ≤ t.size := by simp only [BT.size] at hu; omega
        have hk3 : m + 1 + n.size ≤ t.size := by simp only [BT.size] at hmu ⊢; omega
        clear hM hr hu hmu hbb hnn hk'
        go_wp2_with fail
        go_quiet (fail)
        go_wp2_with fail
        refine (HM.out _).mono ?_
        rintro e w1 ⟨p1, _, rfl, rfl, hp1, hb1⟩
        have Hp1 := Lib.hid hp1
        have Hb1 := Lib.hid hb1
        have Ho1 := Lib.hid (rowUp Ho.out (belowTrans (belowDrewN wr _) hb1))
        have hws : w.heap.size ≤ w1.heap.size := Nat.le_trans Hb.out.size hb1.size
        clear hp1 hb1
        go_wp2_with (at_builtin; obtain ⟨hi, hz0, hz1, hz2⟩ := Hi.out; refine wpList_append_own _ rfl (.tmp 21) (.tmp 25) 201 rfl w.heap.size 83 i0 (.pointer none) 1 8 Try.underlying201 hi hz0 hz1 hz2 rfl (by decide) _ m _ rfl (Ho1.out.alloc _) ⟨w1.heap.size, 0, none⟩ 1 1 [.pointer p1] rfl rfl (cell_one_new _ _ _) (by simp [Value.oneCell']) (by unfold maxLen; omega) (by omega) (by simp; omega) ?_; intro v' w2 hown' hgrow hnil; clear hnil hi hz0 hz1 hz2)
        have hb2 := Below.grown (belowTrans (belowTrans Hb.out (belowTrans (belowDrewN wr _) Hb1.out)) (belowAlloc _ _)) hgrow (by simp; omega) (fun b hb => (Ho1.out.lt b hb).1)
        have hup : ∀ p t, In 0 wr p t → In 0 w2 p t := fun p t h => (h.up (belowTrans (belowDrewN wr _) Hb1.out)).grown Ho1.out hgrow (by decide)
        have hA2 := (All.imp hup HAll.out).snoc (Hp1.out.grown Ho1.out hgrow (by decide))
        have HA2 : Hid (In 0 w2 pn n ∧ All 0 w2 (ps ++ [p1]) (ts ++ [meet (.node x k (.node y k' n)) (.node y k' n)]) ∧ (ts ++ [meet (.node x k (.node y k' n)) (.node y k' n)]) ++ pairsOf n = pairsOf t) := Lib.hid ⟨hup _ _ Hnn.out, hA2, by rw [← HP.out]; simp [pairsOf]⟩
        have Ho2 : Hid (w2.ownsRow w.heap.size 83 1 v' (m + 1) ((ps ++ [p1]).map Value.pointer)) := Lib.hid (by rw [List.map_append]; exact hown')
        have Hb2 := Lib.hid hb2
        have Hl : Hid ((ps ++ [p1]).length = m + 1) := Lib.hid (by simp [Hm.out])
        clear hb2 hup hA2 hown' hgrow
        go_wp2_with fail
        go_roundg n.size
        case measure => exact hk1
        case rel => exact ⟨pn, n, ps ++ [p1], ts ++ [meet (.node x k (.node y k' n)) (.node y k' n)], m + 1, rfl, rfl, hk2, Hl.out, hk3, HA2, Ho2, Hb2⟩
end Go.Proofs.Ytnigadnjppeckaa.pair
