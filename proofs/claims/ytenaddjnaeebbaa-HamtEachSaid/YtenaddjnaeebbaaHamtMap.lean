/- Maps by what keys are mixed to: Put, Drop, Get, Len. What they stand for: the trees of the other map's plain laws. -/
import Derived.Test.YtenaddjnaeebbaaHamtDrop
import Derived.Test.YtenaddjnaeebbaaPatL
namespace Go.Proofs.Ytenaddjnaeebbaa.hamt
open Go.RowKit
open pat (PT OOk ocnt olist oput odrop oget tk I64 tk_lt tk_inj lk told)

/-- a list of pairs stands for a tree -/
structure Std (L : PL) (o : Option PT) : Prop where
  dis : Dis L
  rng : ∀ p ∈ L, I64 p.1
  lk : ∀ k, I64 k → lkI L k = lk (olist o) (tk k)
/-- p leads to a map that stands for o -/
def HO (B : Nat) (w : World) (p : Option Addr) (o : Option PT) : Prop := ∃ L, HQ (fun x => B ≤ x) w 7 p L ∧ Std L o ∧ OOk o ∧ L.length ≤ 8796093022000
theorem HO.up {B : Nat} {w w' : World} {p : Option Addr} {o : Option PT} (h : HO B w p o) (hb : Below w.heap.size w w') : HO B w' p o := by
  obtain ⟨L, h, hs⟩ := h
  exact ⟨L, h.up hb, hs⟩
theorem HO.lower {B B' : Nat} {w : World} {p : Option Addr} {o : Option PT} (h : HO B w p o) (hb : B' ≤ B) : HO B' w p o := by
  obtain ⟨L, h, hs⟩ := h
  exact ⟨L, h.mono fun x hx => Nat.le_trans hb hx, hs⟩
theorem HN.keep {S : Nat → Prop} {T : List Nat} {w w' : World} (hk : KeepT T w w') (h0 : 62 ∉ T) (h1 : 23 ∉ T) (h2 : 31 ∉ T) : ∀ {d b : Nat} {L : PL}, HN S w d b L → HN S w' d b L
  | 0, _, _, ⟨hB, hn, hd, pv, h, ho, hg⟩ => ⟨hB, hn, hd, pv, hk _ _ _ _ h h0, ho.keep hk h2, hg⟩
  | _ + 1, _, _, ⟨hB, hn, ks, m, kv, e, hks, hm, h, ho, hg, hkid⟩ => ⟨hB, hn, ks, m, kv, e, hks, hm, hk _ _ _ _ h h0, rowKeep ho hk h1, hg, fun x hx => HN.keep hk h0 h1 h2 (hkid x hx)⟩
theorem HO.keep {B : Nat} {T : List Nat} {w w' : World} {p : Option Addr} {o : Option PT} (hk : KeepT T w w') (h0 : 62 ∉ T) (h1 : 23 ∉ T) (h2 : 31 ∉ T) (h : HO B w p o) : HO B w' p o := by
  obtain ⟨L, h | ⟨b, e, h⟩, hs⟩ := h
  · exact ⟨L, .inl h, hs⟩
  · exact ⟨L, .inr ⟨b, e, h.keep hk h0 h1 h2⟩, hs⟩
theorem HO.store {B : Nat} {w : World} {k off : Nat} {c : Array Value} {ty' : Nat} {fz : Nat × Nat} {u : Value} (hk : w.heap[k]? = some (.cells c ty' fz)) (hne : ty' ∉ [62, 23, 31]) {p : Option Addr} {o : Option PT} (h : HO B w p o) : HO B (w.setCell ⟨k, off, none⟩ u) p o :=
  h.keep (T := [ty']) (KeepT.set (a := ⟨k, off, none⟩) hk (by simp) u) (fun e => hne (by simp at e; simp [e])) (fun e => hne (by simp at e; simp [e])) (fun e => hne (by simp at e; simp [e]))
theorem Dis.nodup {L : PL} (h : Dis L) : L.Nodup := h.imp fun h e => h (by rw [e])
theorem Dis.mem {L : PL} (h : Dis L) (p : Int × Int) : p ∈ L ↔ lkI L p.1 = some p.2 := ⟨fun hm => h.lk hm, fun hl => lkI_mem hl⟩
theorem perm_of {L M : PL} (hL : Dis L) (hM : Dis M) (h : ∀ k, lkI L k = lkI M k) : L.Perm M :=
  (List.perm_ext_iff_of_nodup hL.nodup hM.nodup).2 fun p => by rw [hL.mem, hM.mem, h]
theorem back_key {p : Nat × Int} : (pat.back p).1 = (p.1 : Int) - 9223372036854775808 := rfl
theorem tk_back {k : Int} (h : I64 k) (x : Nat) : ((x : Int) - 9223372036854775808 = k) ↔ x = tk k := by unfold tk I64 at *; omega
theorem lkI_back (l : pat.KL) {k : Int} (h : I64 k) : lkI (l.map pat.back) k = pat.lk l (tk k) := by
  induction l with
  | nil => rfl
  | cons p l ih =>
    simp only [List.map_cons, lkI, pat.lk]
    have hb : (pat.back p).1 = k ↔ p.1 = tk k := tk_back h _
    by_cases e : p.1 = tk k
    · rw [if_pos (hb.2 e), if_pos e]; rfl
    · rw [if_neg (fun e2 => e (hb.1 e2)), if_neg e, ih]
theorem rising_dis {l : pat.KL} (h : pat.Rising l) : Dis (l.map pat.back) := by
  induction l with
  | nil => exact List.Pairwise.nil
  | cons p l ih =>
    unfold Dis
    rw [List.map_cons, List.pairwise_cons]
    refine ⟨fun q hq => ?_, ih h.2⟩
    obtain ⟨x, hx, rfl⟩ := List.mem_map.1 hq
    have := h.1 x hx
    rw [back_key, back_key]
    omega
theorem told_dis {o : Option PT} (ho : OOk o) : Dis (told o) := rising_dis (pat.orising ho)
theorem told_rng {o : Option PT} (ho : OOk o) : ∀ p ∈ told o, I64 p.1 := by
  intro p hp
  obtain ⟨x, hx, rfl⟩ := List.mem_map.1 hp
  have hlt : x.1 < 2 ^ 64 := by
    cases o with
    | none => cases hx
    | some t =>
      have h1 := pat.keys_in ho x hx
      have h2 := pat.Ok.top ho
      omega
  rw [back_key]
  unfold I64
  omega
theorem lkI_out {L : PL} (h : ∀ p ∈ L, I64 p.1) {k : Int} (hk : ¬ I64 k) : lkI L k = none := lkI_none fun p hp e => hk (e ▸ h p hp)
theorem Std.perm {L : PL} {o : Option PT} (h : Std L o) (ho : OOk o) : L.Perm (told o) := by
  refine perm_of h.dis (told_dis ho) fun k => ?_
  by_cases hk : I64 k
  · rw [h.lk k hk]; exact (lkI_back _ hk).symm
  · rw [lkI_out h.rng hk, lkI_out (told_rng ho) hk]
theorem Std.len {L : PL} {o : Option PT} (h : Std L o) (ho : OOk o) : L.length = ocnt o := by rw [(h.perm ho).length_eq, pat.told_length]
theorem Std.nil : Std [] none := ⟨List.Pairwise.nil, fun _ h => (by cases h), fun _ _ => rfl⟩
theorem HO.nil (B : Nat) (w : World) : HO B w none none := ⟨[], .inl ⟨rfl, rfl⟩, Std.nil, trivial, Nat.zero_le _⟩
theorem Std.put {L L' : PL} {o : Option PT} (h : Std L o) (ho : OOk o) {k v : Int} (hk : I64 k) (hd : Dis L') (hp : PutOf L k v L') : Std L' (some (oput o (tk k) v)) := by
  refine ⟨hd, fun p hm => ?_, fun j hj => ?_⟩
  · rcases hp.mem hd hm with e | ⟨q, hq, e⟩
    · rw [e]; exact hk
    · rw [← e]; exact h.rng q hq
  · rw [hp.1, h.lk j hj]
    have h2 := (pat.oput_spec ho (tk_lt hk) v).2 (tk j)
    show _ = pat.lk (oput o (tk k) v).list (tk j)
    rw [h2]
    by_cases e : j = k
    · rw [if_pos e, if_pos (by rw [e])]
    · rw [if_neg e, if_neg fun e2 => e (tk_inj hj hk e2)]
theorem Std.drop {L L' : PL} {o : Option PT} (h : Std L o) (ho : OOk o) {k : Int} (hk : I64 k) (hd : Dis L') (hp : DropOf L k L') : Std L' (odrop o (tk k)) := by
  refine ⟨hd, fun p hm => ?_, fun j hj => ?_⟩
  · obtain ⟨q, hq, e⟩ := hp.mem hd hm
    rw [← e]; exact h.rng q hq
  · rw [hp.1, h.lk j hj, (pat.odrop_spec ho (tk k)).2 (tk j)]
    by_cases e : j = k
    · rw [if_pos e, if_pos (by rw [e])]
    · rw [if_neg e, if_neg fun e2 => e (tk_inj hj hk e2)]
/-- what Put leaves in a map, what Drop leaves -/
def RetM (B : Nat) (w : World) (o : Option PT) (e : Ending) (w' : World) : Prop := ∃ p, e = .returned (.agg #[.pointer p]) ∧ HO B w' p o ∧ Below w.heap.size w w'
theorem oput_any (B : Nat) (w : World) (p : Option Addr) (o : Option PT) (k v : Int) (hB : B ≤ w.heap.size) (h : HO B w p o) (ho : OOk o) (hk : I64 k) (hc : ocnt o ≤ 8796093021999) :
    Calls Try.prog 29 #[.pointer p, .int .i64 k, .int .i64 v, .int .i64 0] w fun e w' => ∃ p', e = .returned (.pointer p') ∧ HO B w' p' (some (oput o (tk k) v)) ∧ Below w.heap.size w w' := by
  obtain ⟨L, hq, hs, _, _⟩ := h
  rcases hq with ⟨rfl, rfl⟩ | ⟨b, rfl, hn⟩
  · refine (nil_any k v 7 0 w (by omega)).mono ?_
    rintro e w' ⟨b, rfl, h, hb⟩
    exact ⟨_, rfl, ⟨_, .inr ⟨b, rfl, h.mono fun x hx => Nat.le_trans hB hx⟩, hs.put ho hk (dis_one _) ⟨fun j => lk_one k v j, by simp⟩, (pat.oput_spec ho (tk_lt hk) v).1, by simp⟩, hb⟩
  · refine (put_any k v 7 0 _ b L w (by omega) hn (by rw [hs.len ho]; omega)).mono ?_
    rintro e w' ⟨b', L', rfl, h, hp, hb⟩
    exact ⟨_, rfl, ⟨_, .inr ⟨b', rfl, h.mono fun x hx => hx.elim id fun h => Nat.le_trans hB h⟩, hs.put ho hk h.dis hp, (pat.oput_spec ho (tk_lt hk) v).1, by have h1 := hp.2; rw [hs.len ho] at h1; omega⟩, hb⟩
theorem drop_nil (k u : Int) (w : World) : Calls Try.prog 40 #[.pointer none, .int .i64 k, .int .i64 u] w fun e w' => e = .returned (.pointer none) ∧ w = w' := by
  go_enter Try.func40, Try.ntmps40
  go_wp2_with fail
  go_ret
  exact ⟨rfl, rfl⟩
theorem odrop_any (B : Nat) (w : World) (p : Option Addr) (o : Option PT) (k : Int) (hB : B ≤ w.heap.size) (h : HO B w p o) (ho : OOk o) (hk : I64 k) (hc : ocnt o ≤ 8796093021999) :
    Calls Try.prog 40 #[.pointer p, .int .i64 k, .int .i64 0] w fun e w' => ∃ p', e = .returned (.pointer p') ∧ HO B w' p' (odrop o (tk k)) ∧ Below w.heap.size w w' := by
  obtain ⟨L, hq, hs, _, hll⟩ := h
  rcases hq with ⟨rfl, rfl⟩ | ⟨b, rfl, hn⟩
  · refine (drop_nil k 0 w).mono ?_
    rintro e w' ⟨rfl, rfl⟩
    exact ⟨none, rfl, ⟨[], .inl ⟨rfl, rfl⟩, hs.drop ho hk hs.dis (dropOf_none rfl), (pat.odrop_spec ho (tk k)).1, Nat.zero_le _⟩, Below.refl _ _⟩
  · refine (drop_any k 7 0 _ b L w (by omega) hn (by rw [hs.len ho]; omega)).mono ?_
    rintro e w' ⟨p', L', rfl, h, hp, hd, hb⟩
    exact ⟨p', rfl, ⟨_, h.mono fun x hx => hx.elim id fun h => Nat.le_trans hB h, hs.drop ho hk hd hp, (pat.odrop_spec ho (tk k)).1, Nat.le_trans hp.2 hll⟩, hb⟩
set_option maxHeartbeats 4000000 in
theorem Put_any (B : Nat) (w : World) (p : Option Addr) (o : Option PT) (k : Int) (v : Int) (hB : B ≤ w.heap.size) (h : HO B w p o) (ho : OOk o) (hk : I64 k) (hc : ocnt o ≤ 8796093021999) :
    Calls Try.prog 9 #[.agg #[.pointer p], .int .i64 k, .int .i64 v] w (RetM B w (some (oput o (tk k) v))) := by
  have h1 := belowTrans (belowAlloc w (.cells #[.pointer p] 25)) (belowAlloc _ (.cells #[.pointer none] 25))
  have hz := heapNew2 w (.cells #[.pointer p] 25) (.cells #[.pointer none] 25)
  have hz0 := heapNew1 w (.cells #[.pointer p] 25) (.cells #[.pointer none] 25)
  have kz := cell_of_one hz0
  have HC := Lib.hid (oput_any B _ p o k v (szle h1 hB) (h.up h1) ho hk hc)
  have HZ := Lib.hid (And.intro hz h1)
  clear hz hz0 h1 h ho hk hc
  go_enter Try.func9, Try.ntmps9
  go_wp2_with fail
  refine HC.out.mono ?_
  rintro e w1 ⟨p1, rfl, hp1, hb1⟩
  have hz1 := upb hb1 HZ.out.1
  have c1 := cell_of_one hz1
  have f1 := free_of_one hz1
  have hb2 := belowTrans HZ.out.2 hb1
  have hst := one_setCell (u := .pointer p1) hz1
  have kr := cell_of_one hst
  have HF := Lib.hid (And.intro (HO.store (k := w.heap.size + 1) (off := 0) (u := .pointer p1) hz1 (by decide) hp1) (belowSet (a := ⟨w.heap.size + 1, 0, none⟩) hb2 (Nat.le_succ _) (.pointer p1)))
  clear hp1 hb1 hz1 hb2 hst
  go_wp2_with fail
  refine bodyPost_ret (v := .agg #[.pointer p1]) (by simp only [results, Try.results9]; simp [go_sem, kr]) rfl ?_
  exact ⟨_, rfl, HF.out.1, HF.out.2⟩
set_option maxHeartbeats 4000000 in
theorem Drop_any (B : Nat) (w : World) (p : Option Addr) (o : Option PT) (k : Int) (hB : B ≤ w.heap.size) (h : HO B w p o) (ho : OOk o) (hk : I64 k) (hc : ocnt o ≤ 8796093021999) :
    Calls Try.prog 21 #[.agg #[.pointer p], .int .i64 k] w (RetM B w (odrop o (tk k))) := by
  have h1 := belowTrans (belowAlloc w (.cells #[.pointer p] 25)) (belowAlloc _ (.cells #[.pointer none] 25))
  have hz := heapNew2 w (.cells #[.pointer p] 25) (.cells #[.pointer none] 25)
  have hz0 := heapNew1 w (.cells #[.pointer p] 25) (.cells #[.pointer none] 25)
  have kz := cell_of_one hz0
  have HC := Lib.hid (odrop_any B _ p o k (szle h1 hB) (h.up h1) ho hk hc)
  have HZ := Lib.hid (And.intro hz h1)
  clear hz hz0 h1 h ho hk hc
  go_enter Try.func21, Try.ntmps21
  go_wp2_with fail
  refine HC.out.mono ?_
  rintro e w1 ⟨p1, rfl, hp1, hb1⟩
  have hz1 := upb hb1 HZ.out.1
  have c1 := cell_of_one hz1
  have f1 := free_of_one hz1
  have hb2 := belowTrans HZ.out.2 hb1
  have hst := one_setCell (u := .pointer p1) hz1
  have kr := cell_of_one hst
  have HF := Lib.hid (And.intro (HO.store (k := w.heap.size + 1) (off := 0) (u := .pointer p1) hz1 (by decide) hp1) (belowSet (a := ⟨w.heap.size + 1, 0, none⟩) hb2 (Nat.le_succ _) (.pointer p1)))
  clear hp1 hb1 hz1 hb2 hst
  go_wp2_with fail
  refine bodyPost_ret (v := .agg #[.pointer p1]) (by simp only [results, Try.results21]; simp [go_sem, kr]) rfl ?_
  exact ⟨_, rfl, HF.out.1, HF.out.2⟩
set_option maxHeartbeats 1000000 in
theorem Len_any (B : Nat) (w : World) (p : Option Addr) (o : Option PT) (h : HO B w p o) :
    Calls Try.prog 10 #[.agg #[.pointer p]] w fun e w' => e = .returned (.int .i64 (ocnt o : Nat)) ∧ Below w.heap.size w w' := by
  obtain ⟨L, hq, hs, ho, _⟩ := h
  have HS := Lib.hid (size_walk _ _ 7 p L (hq.up (belowAlloc w (.cells #[.pointer p] 25))))
  rw [hs.len ho] at HS
  clear hq hs ho
  go_enter Try.func10, Try.ntmps10
  go_wp2_with ((with_reducible refine HS.out.mono ?_); rintro e w' ⟨rfl, rfl⟩)
  go_ret
  exact ⟨rfl, belowAlloc _ _⟩
end Go.Proofs.Ytenaddjnaeebbaa.hamt
