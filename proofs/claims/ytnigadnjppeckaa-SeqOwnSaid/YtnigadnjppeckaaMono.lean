/- Package mono: what a measure is in memory; contracts of None, One, Join. -/
import Derived.Test.YtnigadnjppeckaaMore
import Derived.Deep.QuietTactic
import Derived.BigQuiet
import Derived.StillTailTactics
import Derived.Test.YtnigadnjppeckaaRows
namespace Go.Proofs.Ytnigadnjppeckaa.mono
open Go.RowKit Go

theorem heap3 (w : World) (o1 o2 o3 : Obj) : (((w.alloc o1).alloc o2).alloc o3).heap[w.heap.size]? = some o1 ∧ (((w.alloc o1).alloc o2).alloc o3).heap[w.heap.size + 1]? = some o2 ∧ (((w.alloc o1).alloc o2).alloc o3).heap[w.heap.size + 1 + 1]? = some o3 := by
  refine ⟨?_, ?_, ?_⟩
  · rw [Below.heap_alloc _ _ _ (by simp; omega)]
    exact heapNew1 _ _ _
  · rw [Below.heap_alloc _ _ _ (by simp)]
    exact heapNew2 _ _ _
  · have := heap_alloc_new ((w.alloc o1).alloc o2) o3
    simpa using this
theorem five_cells {w : World} {b t : Nat} {v0 v1 v2 v3 v4 : Value} (h : w.heap[b]? = some (.cells #[v0, v1, v2, v3, v4] t (0, 0))) :
    w.cell? ⟨b, 0, none⟩ = some v0 ∧ w.cell? ⟨b, 1, none⟩ = some v1 ∧ w.cell? ⟨b, 2, none⟩ = some v2 ∧ w.cell? ⟨b, 3, none⟩ = some v3 ∧ w.cell? ⟨b, 4, none⟩ = some v4 ∧
    w.frozen? ⟨b, 0, none⟩ = false ∧ w.frozen? ⟨b, 1, none⟩ = false ∧ w.frozen? ⟨b, 2, none⟩ = false ∧ w.frozen? ⟨b, 3, none⟩ = false ∧ w.frozen? ⟨b, 4, none⟩ = false := by
  refine ⟨?_, ?_, ?_, ?_, ?_, ?_, ?_, ?_, ?_, ?_⟩ <;> simp [World.cell?, World.frozen?, h]
def modF (x : Int) : Int := if x.tmod 2147483647 < 0 then wrap64 (x.tmod 2147483647 + 2147483647) else x.tmod 2147483647
set_option maxHeartbeats 400000 in
theorem mod_any (x : Int) (w : World) : Calls Try.prog 133 #[.int .i64 x] w fun e w' => e = .returned (.int .i64 (modF x)) ∧ w = w' := by
  have hm : modF x = if x.tmod 2147483647 < 0 then wrap64 (x.tmod 2147483647 + 2147483647) else x.tmod 2147483647 := rfl
  by_cases h : x.tmod 2147483647 < 0
  · rw [if_pos h] at hm
    rw [hm]
    clear hm
    go_enter Try.func133, Try.ntmps133
    go_wp2
    go_ret
    exact ⟨rfl, rfl⟩
  · rw [if_neg h] at hm
    rw [hm]
    clear hm
    go_enter Try.func133, Try.ntmps133
    go_wp2
    go_ret
    exact ⟨rfl, rfl⟩
def pw : Nat → Int → Int → Int → Int
  | 0, _, b, _ => b
  | k + 1, a, b, c => if 0 < a then (if 0 < bits .and .i64 a 1 then pw k (a / 2) ((wrap64 (b * c)).tmod 2147483647) ((wrap64 (c * c)).tmod 2147483647) else pw k (a / 2) b ((wrap64 (c * c)).tmod 2147483647)) else b
def powF (n : Int) : Int := pw (n.toNat + 1) n 1 131
set_option maxHeartbeats 400000 in
theorem power_any (n : Int) (w : World) : Calls Try.prog 137 #[.int .i64 n] w fun e w' => e = .returned (.int .i64 (powF n)) ∧ w = w' := by
  go_enter Try.func137, Try.ntmps137
  go_wp2
  go_loop [0, 3, 4] (fun s0 s3 s4 => ∃ (k : Nat) (a b c : Int), s0 = .int .i64 a ∧ s3 = .int .i64 b ∧ s4 = .int .i64 c ∧ a.toNat < k ∧ Hid (powF n = pw k a b c)) (fun s0 _ _ => (intOf s0).toNat)
  case atStart => exact ⟨n.toNat + 1, _, _, _, rfl, rfl, rfl, by omega, Lib.hid rfl⟩
  case round =>
    obtain ⟨k, a, b, c, rfl, rfl, rfl, hk, HP⟩ := hrel
    obtain ⟨k, rfl⟩ : ∃ m, k = m + 1 := ⟨k - 1, by omega⟩
    by_cases h : 0 < a
    · by_cases hb : 0 < bits .and .i64 a 1
      · have HP' : Hid (powF n = pw k (a / 2) ((wrap64 (b * c)).tmod 2147483647) ((wrap64 (c * c)).tmod 2147483647)) := Lib.hid (by rw [HP.out]; simp only [pw]; rw [if_pos h, if_pos hb])
        go_wp2
        exact ⟨⟨k, _, _, _, rfl, rfl, rfl, by omega, HP'⟩, by simp [intOf]; omega⟩
      · have HP' : Hid (powF n = pw k (a / 2) b ((wrap64 (c * c)).tmod 2147483647)) := Lib.hid (by rw [HP.out]; simp only [pw]; rw [if_pos h, if_neg hb])
        go_wp2
        exact ⟨⟨k, _, _, _, rfl, rfl, rfl, by omega, HP'⟩, by simp [intOf]; omega⟩
    · have HP' : Hid (powF n = b) := Lib.hid (by rw [HP.out]; simp only [pw]; rw [if_neg h])
      go_wp2
      go_ret
      exact ⟨by rw [HP'.out]; rfl, rfl⟩

/-- a measure: how many, and four more numbers -/
def M5 (n s l m h : Int) : Array Value := #[.int .i64 n, .int .i64 s, .int .i64 l, .int .i64 m, .int .i64 h]
def RetM (n : Int) (w : World) (e : Ending) (w' : World) : Prop := ∃ s l m h : Int, e = .returned (.agg #[.int .i64 n, .int .i64 s, .int .i64 l, .int .i64 m, .int .i64 h]) ∧ Below w.heap.size w w'
set_option maxHeartbeats 400000 in
theorem none_any (w : World) : Calls Try.prog 77 #[] w (RetM 0 w) := by
  go_enter Try.func77, Try.ntmps77
  go_wp2_with fail
  exact bodyPost_ret (v := .agg #[.int .i64 0, .int .i64 0, .int .i64 9223372036854775807, .int .i64 (-9223372036854775808), .int .i64 0]) (by simp [results, Try.results77, go_sem]) rfl ⟨_, _, _, _, rfl, belowAlloc _ _⟩
set_option maxHeartbeats 400000 in
theorem one_any (x : Int) (w : World) : Calls Try.prog 116 #[.int .i64 x] w (RetM 1 w) := by
  go_enter Try.func116, Try.ntmps116
  go_wp2_with fail
  refine (mod_any _ _).mono ?_
  rintro e w' ⟨rfl, rfl⟩
  go_wp2_with fail
  refine (mod_any _ _).mono ?_
  rintro e w' ⟨rfl, rfl⟩
  go_wp2_with fail
  exact bodyPost_ret (v := .agg #[.int .i64 1, .int .i64 x, .int .i64 x, .int .i64 x, .int .i64 (modF (wrap64 (modF x + 1)))]) (by simp [results, Try.results116, go_sem]) rfl ⟨_, _, _, _, rfl, belowAlloc _ _⟩
set_option maxRecDepth 100000 in
set_option maxHeartbeats 1000000 in
theorem join_any (n s l m z n' s' l' m' z' : Int) (w : World) : Calls Try.prog 131 #[.agg #[.int .i64 n, .int .i64 s, .int .i64 l, .int .i64 m, .int .i64 z], .agg #[.int .i64 n', .int .i64 s', .int .i64 l', .int .i64 m', .int .i64 z']] w (RetM (wrap64 (n + n')) w) := by
  go_enter Try.func131, Try.ntmps131
  go_wp2_with fail
  generalize hW : (((w.alloc (.cells #[.int .i64 n, .int .i64 s, .int .i64 l, .int .i64 m, .int .i64 z] 29)).alloc (.cells #[.int .i64 n', .int .i64 s', .int .i64 l', .int .i64 m', .int .i64 z'] 29)).alloc (.cells #[.int .i64 0, .int .i64 0, .int .i64 0, .int .i64 0, .int .i64 0] 29)) = W
  obtain ⟨hp, hq, hr⟩ := heap3 w (.cells #[.int .i64 n, .int .i64 s, .int .i64 l, .int .i64 m, .int .i64 z] 29) (.cells #[.int .i64 n', .int .i64 s', .int .i64 l', .int .i64 m', .int .i64 z'] 29) (.cells #[.int .i64 0, .int .i64 0, .int .i64 0, .int .i64 0, .int .i64 0] 29)
  rw [hW] at hp hq hr
  obtain ⟨p0, p1, p2, p3, p4, _⟩ := five_cells hp
  obtain ⟨q0, q1, q2, q3, q4, _⟩ := five_cells hq
  obtain ⟨r0, r1, r2, r3, r4, f0, f1, f2, f3, f4⟩ := five_cells hr
  have hb : Below w.heap.size w W := by rw [← hW]; exact belowTrans (belowTrans (belowAlloc _ _) (belowAlloc _ _)) (belowAlloc _ _)
  have HB : ∀ u0 u1 u2 u3 u4, Below w.heap.size w (((((W.setCell ⟨w.heap.size + 1 + 1, 0, none⟩ u0).setCell ⟨w.heap.size + 1 + 1, 1, none⟩ u1).setCell ⟨w.heap.size + 1 + 1, 2, none⟩ u2).setCell ⟨w.heap.size + 1 + 1, 3, none⟩ u3).setCell ⟨w.heap.size + 1 + 1, 4, none⟩ u4).drew := fun u0 u1 u2 u3 u4 =>
    belowTrans (belowSet (belowSet (belowSet (belowSet (belowSet hb (by simp; omega) _) (by simp; omega) _) (by simp; omega) _) (by simp; omega) _) (by simp; omega) _) (belowDrew _)
  clear hW hb hp hq hr
  go_still_tail 33, (by kernel_rfl)
  still_call ((mod_any _ _).mono fun _ _ ⟨a, b⟩ => ⟨a, b.symm⟩)
  repeat still_step
  still_call ((power_any _ _).mono fun _ _ ⟨a, b⟩ => ⟨a, b.symm⟩)
  repeat still_step
  still_call ((mod_any _ _).mono fun _ _ ⟨a, b⟩ => ⟨a, b.symm⟩)
  repeat still_step
  refine wpStill_nil ?_
  change wpList _ _ _ _ _ W.drew
  go_wp2_with fail
  all_goals (first | (refine bodyPost_ret (v := .agg #[.int .i64 (wrap64 (n + n')), .int .i64 (wrap64 (s + s')), .int .i64 l, .int .i64 m, .int .i64 ((wrap64 (wrap64 (modF z * powF n') + modF z')).tmod 2147483647)]) ?_ rfl ⟨_, _, _, _, rfl, HB _ _ _ _ _⟩; simp [results, Try.results131, go_sem, r0, r1, r2, r3, r4]; done) | (refine bodyPost_ret (v := .agg #[.int .i64 (wrap64 (n + n')), .int .i64 (wrap64 (s + s')), .int .i64 l, .int .i64 m', .int .i64 ((wrap64 (wrap64 (modF z * powF n') + modF z')).tmod 2147483647)]) ?_ rfl ⟨_, _, _, _, rfl, HB _ _ _ _ _⟩; simp [results, Try.results131, go_sem, r0, r1, r2, r3, r4]; done) | (refine bodyPost_ret (v := .agg #[.int .i64 (wrap64 (n + n')), .int .i64 (wrap64 (s + s')), .int .i64 l', .int .i64 m, .int .i64 ((wrap64 (wrap64 (modF z * powF n') + modF z')).tmod 2147483647)]) ?_ rfl ⟨_, _, _, _, rfl, HB _ _ _ _ _⟩; simp [results, Try.results131, go_sem, r0, r1, r2, r3, r4]; done) | (refine bodyPost_ret (v := .agg #[.int .i64 (wrap64 (n + n')), .int .i64 (wrap64 (s + s')), .int .i64 l', .int .i64 m', .int .i64 ((wrap64 (wrap64 (modF z * powF n') + modF z')).tmod 2147483647)]) ?_ rfl ⟨_, _, _, _, rfl, HB _ _ _ _ _⟩; simp [results, Try.results131, go_sem, r0, r1, r2, r3, r4]; done))
end Go.Proofs.Ytnigadnjppeckaa.mono
