/- Package scan: sweep. (Printed by ss.py.) -/
import Derived.Test.YtnnpeblpdkeffaaScanP
import Derived.Deep.QuietTactic
import Derived.BigQuiet
namespace Go.Proofs.Ytnnpeblpdkeffaa.scan
open Go.RowKit

/-- all taken together, in n rounds at most -/
def allF (k : Nat) : Nat → List Int → Int
  | 0, _ => nt k
  | _ + 1, [] => nt k
  | _ + 1, [x] => ap k (nt k) x
  | n + 1, x :: y :: zs => allF k n (pairsP k (x :: y :: zs))

/-- a slice that may be cut -/
def Slc (w : World) (a : Option Addr) (c : Nat) (zs : List Int) : Prop := zs.length ≤ c ∧ Reads w a zs
theorem Slc.up {w w' : World} {a : Option Addr} {c : Nat} {zs : List Int} (h : Slc w a c zs) (hb : Below w.heap.size w w') : Slc w' a c zs := ⟨h.1, h.2.up hb⟩
theorem Slc.at {w : World} {a : Option Addr} {c : Nat} {zs : List Int} (h : Slc w a c zs) (h0 : 0 < zs.length) : ∃ b off, a = some ⟨b, off, none⟩ ∧ ∀ j, j < zs.length → w.cell? ⟨b, off + j, none⟩ = some (.int .i64 (zs.getD j 0)) := by
  rcases h.2 with rfl | ⟨b, off, ha, hc⟩
  · simp at h0
  · exact ⟨b, off, ha, hc⟩
theorem OwnI.slc {B n : Nat} {w : World} {a : Option Addr} {c : Nat} {zs : List Int} (h : OwnI 3 w B (.slice a n c) zs) : Slc w a c zs ∧ n = zs.length := by
  have hn : n = zs.length := by
    obtain ⟨a', c', e, _⟩ := h.form
    cases e
    rfl
  subst hn
  refine ⟨⟨?_, h.reads⟩, rfl⟩
  rcases h.2 with ⟨e, h0⟩ | ⟨g, cap, cur, e, _, _, hn, _⟩
  · simp only [Value.slice.injEq] at e
    omega
  · simp only [Value.slice.injEq] at e
    omega
theorem ownI_low {B B' E : Nat} {w : World} {v : Value} {xs : List Int} (h : OwnI E w B v xs) (hb : B' ≤ B) : OwnI E w B' v xs := ownsRow_lower h hb

theorem pairs_any1 (w : World) (nn : Int) (a : Option Addr) (c : Nat) (zs : List Int) (hn : zs.length ≤ 17592186044416) (h : Slc w a c zs) :
    Calls Try.prog 16 #[.agg #[.int .i64 nn, .func (.func 21) #[] #[]], .slice a zs.length c] w (RetI 3 w (pairsP 1 zs)) := by
  rcases h.2 with rfl | ⟨b, off, rfl, hc⟩
  · exact pairs1 w nn a 0 0 c [] hn h.1 (.inl rfl) (fun j hj => by simp at hj)
  · exact pairs1 w nn _ b off c zs hn h.1 (.inr rfl) hc
theorem pairs_any2 (w : World) (nn : Int) (a : Option Addr) (c : Nat) (zs : List Int) (hn : zs.length ≤ 17592186044416) (h : Slc w a c zs) :
    Calls Try.prog 16 #[.agg #[.int .i64 nn, .func (.func 22) #[] #[]], .slice a zs.length c] w (RetI 3 w (pairsP 2 zs)) := by
  rcases h.2 with rfl | ⟨b, off, rfl, hc⟩
  · exact pairs2 w nn a 0 0 c [] hn h.1 (.inl rfl) (fun j hj => by simp at hj)
  · exact pairs2 w nn _ b off c zs hn h.1 (.inr rfl) hc
theorem pairs_any3 (w : World) (nn : Int) (a : Option Addr) (c : Nat) (zs : List Int) (hn : zs.length ≤ 17592186044416) (h : Slc w a c zs) :
    Calls Try.prog 16 #[.agg #[.int .i64 nn, .func (.func 23) #[] #[]], .slice a zs.length c] w (RetI 3 w (pairsP 3 zs)) := by
  rcases h.2 with rfl | ⟨b, off, rfl, hc⟩
  · exact pairs3 w nn a 0 0 c [] hn h.1 (.inl rfl) (fun j hj => by simp at hj)
  · exact pairs3 w nn _ b off c zs hn h.1 (.inr rfl) hc
theorem pairs_any4 (w : World) (nn : Int) (a : Option Addr) (c : Nat) (zs : List Int) (hn : zs.length ≤ 17592186044416) (h : Slc w a c zs) :
    Calls Try.prog 16 #[.agg #[.int .i64 nn, .func (.func 24) #[] #[]], .slice a zs.length c] w (RetI 3 w (pairsP 4 zs)) := by
  rcases h.2 with rfl | ⟨b, off, rfl, hc⟩
  · exact pairs4 w nn a 0 0 c [] hn h.1 (.inl rfl) (fun j hj => by simp at hj)
  · exact pairs4 w nn _ b off c zs hn h.1 (.inr rfl) hc

/-- what sweep leaves -/
def RetSw (k n : Nat) (zs : List Int) (w : World) (e : Ending) (w' : World) : Prop :=
  ∃ a' c' out, e = .returned (.tuple #[.slice a' zs.length c', .int .i64 (allF k n zs)]) ∧ OwnI 3 w' w.heap.size (.slice a' zs.length c') out ∧ out.length = zs.length ∧ Below w.heap.size w w'
/-- the same of a value -/
def kSw (k n B : Nat) (zs : List Int) : grow.Kept := ⟨fun v W => ∃ a' c' out, v = .tuple #[.slice a' zs.length c', .int .i64 (allF k n zs)] ∧ OwnI 3 W B (.slice a' zs.length c') out ∧ out.length = zs.length, fun _ _ _ hb ⟨a', c', out, h1, h2, h3⟩ => ⟨a', c', out, h1, h2.up hb, h3⟩⟩
def kHalf (B m : Nat) : grow.Kept := ⟨fun v W => ∃ a' c' out, v = .slice a' m c' ∧ OwnI 3 W B (.slice a' m c') out ∧ out.length = m, fun _ _ _ hb ⟨a', c', out, h1, h2, h3⟩ => ⟨a', c', out, h1, h2.up hb, h3⟩⟩
def kRow (B : Nat) (xs : List Int) : grow.Kept := ⟨fun v W => ∃ a c, v = .slice a xs.length c ∧ OwnI 3 W B (.slice a xs.length c) xs, fun _ _ _ hb ⟨a, c, h1, h2⟩ => ⟨a, c, h1, h2.up hb⟩⟩

set_option maxHeartbeats 1000000 in
theorem sweep1_nil (n : Nat) (w : World) (a : Option Addr) (c : Nat) :
    Calls Try.prog 14 #[.agg #[.int .i64 (nt 1), .func (.func 21) #[] #[]], .slice a 0 c] w (RetSw 1 (n + 1) [] w) := by
  obtain ⟨V, hV⟩ : ∃ V, V = (w.alloc (.cells #[.int .i64 (nt 1), .func (.func 21) #[] #[]] 43)) := ⟨_, rfl⟩
  have hbV : Below w.heap.size w V := by rw [hV]; exact belowAlloc _ _
  have hzV : V.heap.size = w.heap.size + 1 := by rw [hV]; simp
  have hop : V.heap[w.heap.size]? = some (.cells #[.int .i64 (nt 1), .func (.func 21) #[] #[]] 43 (0, 0)) := by rw [hV]; exact heap_alloc_new _ _
  have k0 := two_c0 hop
  have k1 := two_c1 hop
  have HV := Lib.hid hV
  clear hV
  go_enter Try.func14, Try.ntmps14
  go_wp2_with fail
  rw [← HV.out]
  go_quiet (fail)
  go_wp2_with fail
  go_ret2
  exact ⟨none, 0, [], rfl, World.ownsRow_nil _ _ _ _, rfl, belowTrans hbV (belowDrewN _ _)⟩

set_option maxHeartbeats 1000000 in
theorem sweep1_one (n : Nat) (w : World) (b off c : Nat) (x : Int) (hx : w.cell? ⟨b, off, none⟩ = some (.int .i64 x)) :
    Calls Try.prog 14 #[.agg #[.int .i64 (nt 1), .func (.func 21) #[] #[]], .slice (some ⟨b, off, none⟩) 1 c] w (RetSw 1 (n + 1) [x] w) := by
  obtain ⟨V, hV⟩ : ∃ V, V = (w.alloc (.cells #[.int .i64 (nt 1), .func (.func 21) #[] #[]] 43)) := ⟨_, rfl⟩
  have hbV : Below w.heap.size w V := by rw [hV]; exact belowAlloc _ _
  have hzV : V.heap.size = w.heap.size + 1 := by rw [hV]; simp
  have hop : V.heap[w.heap.size]? = some (.cells #[.int .i64 (nt 1), .func (.func 21) #[] #[]] 43 (0, 0)) := by rw [hV]; exact heap_alloc_new _ _
  have k0 := two_c0 hop
  have k1 := two_c1 hop
  have HV := Lib.hid hV
  clear hV
  have kx := upc hbV hx
  clear hx
  go_enter Try.func14, Try.ntmps14
  go_wp2_with fail
  rw [← HV.out]
  refine grow.wp_grow [grow.kEq (.pointer (some ⟨w.heap.size, 0, none⟩)), grow.kEq (.int .i64 (nt 1)), kOne w.heap.size (nt 1), grow.kEq (.pointer (some ⟨w.heap.size, 1, none⟩)), grow.kEq (.func (.func 21) #[] #[]), grow.kEq (.pointer (some ⟨w.heap.size, 0, none⟩)), grow.kEq (.int .i64 (nt 1)), grow.kEq (.slice (some ⟨b, off, none⟩) 1 c), grow.kEq (.pointer (some ⟨b, off, none⟩)), grow.kEq (.int .i64 x), grow.kEq (.int .i64 (ap 1 (nt 1) x)), kOne w.heap.size (nt 1), grow.kEq (.int .i64 (ap 1 (nt 1) x))] (by kernel_rfl) (by kernel_rfl) (by kernel_rfl) (by kernel_rfl) ?step ?fin
  case step =>
    refine grow.Each.cons ?_ ?_
    · intro A W hB hs hJ K hK
      have s0 := hs 2 (by kernel_rfl)
      simp at s0
      rw [if_pos (by rfl)]
      clear hs hJ
      go_simp
      exact hK _ _ (Below.refl _ _) rfl
    refine grow.Each.cons ?_ ?_
    · intro A W hB hs hJ K hK
      have s0 : A.tmps.getD 19 undef = .pointer (some ⟨w.heap.size, 0, none⟩) := hJ 0 19 (by kernel_rfl) (by kernel_rfl)
      simp at s0
      have kk := upc hB k0
      rw [if_pos (by rfl)]
      clear hs hJ
      go_simp
      exact hK _ _ (Below.refl _ _) rfl
    refine grow.Each.cons ?_ ?_
    · intro A W hB hs hJ K hK
      have s0 : A.tmps.getD 20 undef = .int .i64 (nt 1) := hJ 1 20 (by kernel_rfl) (by kernel_rfl)
      simp at s0
      rw [if_pos (by rfl)]
      clear hs hJ
      go_simp
      exact hK _ _ (belowAlloc _ _) ⟨_, rfl, (by have h1 := hB.size; omega), heap_alloc_new _ _⟩
    refine grow.Each.cons ?_ ?_
    · intro A W hB hs hJ K hK
      have s0 := hs 2 (by kernel_rfl)
      simp at s0
      rw [if_pos (by rfl)]
      clear hs hJ
      go_simp
      exact hK _ _ (Below.refl _ _) rfl
    refine grow.Each.cons ?_ ?_
    · intro A W hB hs hJ K hK
      have s0 : A.tmps.getD 22 undef = .pointer (some ⟨w.heap.size, 1, none⟩) := hJ 3 22 (by kernel_rfl) (by kernel_rfl)
      simp at s0
      have kk := upc hB k1
      rw [if_pos (by rfl)]
      clear hs hJ
      go_simp
      exact hK _ _ (Below.refl _ _) rfl
    refine grow.Each.cons ?_ ?_
    · intro A W hB hs hJ K hK
      have s0 := hs 2 (by kernel_rfl)
      simp at s0
      rw [if_pos (by rfl)]
      clear hs hJ
      go_simp
      exact hK _ _ (Below.refl _ _) rfl
    refine grow.Each.cons ?_ ?_
    · intro A W hB hs hJ K hK
      have s0 : A.tmps.getD 24 undef = .pointer (some ⟨w.heap.size, 0, none⟩) := hJ 5 24 (by kernel_rfl) (by kernel_rfl)
      simp at s0
      have kk := upc hB k0
      rw [if_pos (by rfl)]
      clear hs hJ
      go_simp
      exact hK _ _ (Below.refl _ _) rfl
    refine grow.Each.cons ?_ ?_
    · intro A W hB hs hJ K hK
      have s0 := hs 1 (by kernel_rfl)
      simp at s0
      rw [if_pos (by rfl)]
      clear hs hJ
      go_simp
      exact hK _ _ (Below.refl _ _) rfl
    refine grow.Each.cons ?_ ?_
    · intro A W hB hs hJ K hK
      have s0 : A.tmps.getD 26 undef = .slice (some ⟨b, off, none⟩) 1 c := hJ 7 26 (by kernel_rfl) (by kernel_rfl)
      simp at s0
      rw [if_pos (by rfl)]
      clear hs hJ
      go_simp
      exact hK _ _ (Below.refl _ _) rfl
    refine grow.Each.cons ?_ ?_
    · intro A W hB hs hJ K hK
      have s0 : A.tmps.getD 27 undef = .pointer (some ⟨b, off, none⟩) := hJ 8 27 (by kernel_rfl) (by kernel_rfl)
      simp at s0
      have kk := upc hB kx
      rw [if_pos (by rfl)]
      clear hs hJ
      go_simp
      exact hK _ _ (Below.refl _ _) rfl
    refine grow.Each.cons ?_ ?_
    · intro A W hB hs hJ K hK
      have s0 : A.tmps.getD 23 undef = .func (.func 21) #[] #[] := hJ 4 23 (by kernel_rfl) (by kernel_rfl)
      simp at s0
      have s1 : A.tmps.getD 25 undef = .int .i64 (nt 1) := hJ 6 25 (by kernel_rfl) (by kernel_rfl)
      simp at s1
      have s2 : A.tmps.getD 28 undef = .int .i64 x := hJ 9 28 (by kernel_rfl) (by kernel_rfl)
      simp at s2
      rw [if_pos (by rfl)]
      clear hs hJ
      go_simp
      refine (take1 _ _ _).mono ?_
      rintro e W2 ⟨rfl, rfl⟩
      exact hK _ _ (Below.refl _ _) rfl
    refine grow.Each.cons ?_ ?_
    · intro A W hB hs hJ K hK
      obtain ⟨g, s0, hg, hO⟩ := hJ 2 21 (by kernel_rfl) (by kernel_rfl)
      simp at s0
      rw [if_pos (by rfl)]
      clear hs hJ
      go_simp
      exact hK _ _ (Below.refl _ _) ⟨_, rfl, hg, hO⟩
    refine grow.Each.cons ?_ ?_
    · intro A W hB hs hJ K hK
      have s0 : A.tmps.getD 29 undef = .int .i64 (ap 1 (nt 1) x) := hJ 10 29 (by kernel_rfl) (by kernel_rfl)
      simp at s0
      rw [if_pos (by rfl)]
      clear hs hJ
      go_simp
      exact hK _ _ (Below.refl _ _) rfl
    exact grow.Each.nil
  case fin =>
    intro f W hB hF
    have f0 : f 0 = .pointer (some ⟨w.heap.size, 0, none⟩) := hF 0 (by decide)
    have f1 : f 1 = .int .i64 (nt 1) := hF 1 (by decide)
    obtain ⟨g_2, f2, hg_2, hO_2⟩ := hF 2 (by decide)
    have f3 : f 3 = .pointer (some ⟨w.heap.size, 1, none⟩) := hF 3 (by decide)
    have f4 : f 4 = .func (.func 21) #[] #[] := hF 4 (by decide)
    have f5 : f 5 = .pointer (some ⟨w.heap.size, 0, none⟩) := hF 5 (by decide)
    have f6 : f 6 = .int .i64 (nt 1) := hF 6 (by decide)
    have f7 : f 7 = .slice (some ⟨b, off, none⟩) 1 c := hF 7 (by decide)
    have f8 : f 8 = .pointer (some ⟨b, off, none⟩) := hF 8 (by decide)
    have f9 : f 9 = .int .i64 x := hF 9 (by decide)
    have f10 : f 10 = .int .i64 (ap 1 (nt 1) x) := hF 10 (by decide)
    obtain ⟨g_11, f11, hg_11, hO_11⟩ := hF 11 (by decide)
    have f12 : f 12 = .int .i64 (ap 1 (nt 1) x) := hF 12 (by decide)
    clear hF
    generalize hA : grow.puts _ _ f _ = A'
    simp only [List.length_cons, List.length_nil, Nat.reduceAdd, grow.puts, Act.put, List.getElem?_toArray, List.getElem?_cons_zero, List.getElem?_cons_succ, Option.bind_some, List.setIfInBounds_toArray, List.set_cons_zero, List.set_cons_succ, f0, f1, f2, f3, f4, f5, f6, f7, f8, f9, f10, f11, f12] at hA
    subst hA
    go_wp2_with fail
    go_ret2
    exact ⟨_, _, [nt 1], rfl, ⟨rfl, .inr ⟨g_11, 1, #[.int .i64 (nt 1)], rfl, hg_11, hO_11, by simp, by unfold maxLen; omega, rfl, rfl⟩⟩, rfl, belowTrans hbV hB⟩

set_option maxRecDepth 100000 in
set_option maxHeartbeats 4000000 in
theorem sweep1_many (n : Nat) (w : World) (b off c : Nat) (zs : List Int) (h2 : 2 ≤ zs.length) (hn : zs.length ≤ 17592186043904) (hsl : Slc w (some ⟨b, off, none⟩) c zs)
    (hc : ∀ j, j < zs.length → w.cell? ⟨b, off + j, none⟩ = some (.int .i64 (zs.getD j 0)))
    (ih : ∀ w a c zs, zs.length ≤ 17592186043904 → Slc w a c zs → zs.length ≤ n → Calls Try.prog 14 #[.agg #[.int .i64 (nt 1), .func (.func 21) #[] #[]], .slice a zs.length c] w (RetSw 1 n zs w)) (hln : zs.length ≤ n + 1) :
    Calls Try.prog 14 #[.agg #[.int .i64 (nt 1), .func (.func 21) #[] #[]], .slice (some ⟨b, off, none⟩) zs.length c] w (RetSw 1 (n + 1) zs w) := by
  obtain ⟨V, hV⟩ : ∃ V, V = (w.alloc (.cells #[.int .i64 (nt 1), .func (.func 21) #[] #[]] 43)) := ⟨_, rfl⟩
  have hbV : Below w.heap.size w V := by rw [hV]; exact belowAlloc _ _
  have hzV : V.heap.size = w.heap.size + 1 := by rw [hV]; simp
  have hop : V.heap[w.heap.size]? = some (.cells #[.int .i64 (nt 1), .func (.func 21) #[] #[]] 43 (0, 0)) := by rw [hV]; exact heap_alloc_new _ _
  have k0 := two_c0 hop
  have k1 := two_c1 hop
  have HV := Lib.hid hV
  clear hV
  have hall : allF 1 (n + 1) zs = allF 1 n (pairsP 1 zs) := by
    match zs, h2 with
    | _ :: _ :: _, _ => rfl
  obtain ⟨len, hlen⟩ : ∃ len, len = zs.length := ⟨_, rfl⟩
  obtain ⟨m, hm⟩ : ∃ m, m = (len + 1) / 2 := ⟨_, rfl⟩
  have hpl := pairsP_length 1 zs
  rw [← hlen, ← hm] at hpl
  have hsl1 := hsl.up hbV
  have Hp := Lib.hid (fun W (hB : Below V.heap.size V W) => pairs_any1 W (nt 1) (some ⟨b, off, none⟩) c zs (by omega) (hsl1.up hB))
  have Hsw := Lib.hid (fun W a c (hs : Slc W a c (pairsP 1 zs)) => ih W a c (pairsP 1 zs) (by omega) hs (by omega))
  rw [hpl] at Hsw
  rw [← hlen] at hn h2 hc Hp ⊢
  have Hlen := Lib.hid hlen
  have Hpl := Lib.hid hpl
  have Hall := Lib.hid hall
  have Hc := Lib.hid (fun j hj => upc hbV (hc j hj))
  have hm1 : 2 * m ≤ len + 1 ∧ len ≤ 2 * m := by omega
  have hq0 : ((len : Int) == 0) = false := by simp; omega
  have hq1 : ((len : Int) == 1) = false := by simp; omega
  clear hlen hpl hall hc hsl hsl1 ih hm
  go_enter Try.func14, Try.ntmps14
  go_wp2_with fail
  rw [← HV.out]
  refine grow.wp_grow [grow.kEq (.agg #[.int .i64 (nt 1), .func (.func 21) #[] #[]]), grow.kEq (.agg #[.int .i64 (nt 1), .func (.func 21) #[] #[]]), grow.kEq (.slice (some ⟨b, off, none⟩) len c), kRow w.heap.size (pairsP 1 zs), kSw 1 n w.heap.size (pairsP 1 zs), kSw 1 n w.heap.size (pairsP 1 zs), kHalf w.heap.size (pairsP 1 zs).length, grow.kEq (.int .i64 (allF 1 n (pairsP 1 zs))), kHalf w.heap.size (pairsP 1 zs).length, grow.kEq (.int .i64 (allF 1 n (pairsP 1 zs)))] (by kernel_rfl) (by kernel_rfl) (by kernel_rfl) (by kernel_rfl) ?step ?fin
  case step =>
    refine grow.Each.cons ?_ ?_
    · intro A W hB hs hJ K hK
      have s0 := hs 2 (by kernel_rfl)
      simp at s0
      have kk0 := upc hB k0
      have kk1 := upc hB k1
      rw [if_pos (by rfl)]
      clear hs hJ
      go_simp
      exact hK _ _ (Below.refl _ _) rfl
    refine grow.Each.cons ?_ ?_
    · intro A W hB hs hJ K hK
      have s0 := hs 2 (by kernel_rfl)
      simp at s0
      have kk0 := upc hB k0
      have kk1 := upc hB k1
      rw [if_pos (by rfl)]
      clear hs hJ
      go_simp
      exact hK _ _ (Below.refl _ _) rfl
    refine grow.Each.cons ?_ ?_
    · intro A W hB hs hJ K hK
      have s0 := hs 1 (by kernel_rfl)
      simp at s0
      rw [if_pos (by rfl)]
      clear hs hJ
      go_simp
      exact hK _ _ (Below.refl _ _) rfl
    refine grow.Each.cons ?_ ?_
    · intro A W hB hs hJ K hK
      have s0 : A.tmps.getD 32 undef = .agg #[.int .i64 (nt 1), .func (.func 21) #[] #[]] := hJ 1 32 (by kernel_rfl) (by kernel_rfl)
      simp at s0
      have s1 : A.tmps.getD 33 undef = .slice (some ⟨b, off, none⟩) len c := hJ 2 33 (by kernel_rfl) (by kernel_rfl)
      simp at s1
      rw [if_pos (by rfl)]
      clear hs hJ
      go_simp
      go_at_call 16
      refine (Hp.out W hB).mono ?_
      rintro e W2 ⟨aP, cP, rfl, hoP, hbP⟩
      exact hK _ _ hbP ⟨aP, cP, rfl, ownI_low hoP (by have := hB.size; omega)⟩
    refine grow.Each.cons ?_ ?_
    · intro A W hB hs hJ K hK
      have s0 : A.tmps.getD 31 undef = .agg #[.int .i64 (nt 1), .func (.func 21) #[] #[]] := hJ 0 31 (by kernel_rfl) (by kernel_rfl)
      simp at s0
      obtain ⟨aP, cP, s1, hP⟩ := hJ 3 34 (by kernel_rfl) (by kernel_rfl)
      simp at s1
      rw [Hpl.out] at s1
      rw [if_pos (by rfl)]
      clear hs hJ
      go_simp
      go_at_call 14
      refine (Hsw.out W _ _ (OwnI.slc hP).1).mono ?_
      rintro e W2 ⟨aS, cS, oS, rfl, hoS, hlS, hbS⟩
      exact hK _ _ hbS ⟨aS, cS, oS, rfl, ownI_low hoS (by have := hB.size; omega), hlS⟩
    refine grow.Each.cons ?_ ?_
    · intro A W hB hs hJ K hK
      obtain ⟨aS, cS, oS, s0, hS, hL⟩ := hJ 4 35 (by kernel_rfl) (by kernel_rfl)
      simp at s0
      rw [if_pos (by rfl)]
      clear hs hJ
      go_simp
      exact hK _ _ (Below.refl _ _) ⟨aS, cS, oS, rfl, hS, hL⟩
    refine grow.Each.cons ?_ ?_
    · intro A W hB hs hJ K hK
      obtain ⟨aS, cS, oS, s0, hS, hL⟩ := hJ 5 30 (by kernel_rfl) (by kernel_rfl)
      simp at s0
      rw [if_pos (by rfl)]
      clear hs hJ
      go_simp
      exact hK _ _ (Below.refl _ _) ⟨aS, cS, oS, rfl, hS, hL⟩
    refine grow.Each.cons ?_ ?_
    · intro A W hB hs hJ K hK
      obtain ⟨aS, cS, oS, s0, hS, hL⟩ := hJ 5 30 (by kernel_rfl) (by kernel_rfl)
      simp at s0
      rw [if_pos (by rfl)]
      clear hs hJ
      go_simp
      exact hK _ _ (Below.refl _ _) rfl
    refine grow.Each.cons ?_ ?_
    · intro A W hB hs hJ K hK
      obtain ⟨aS, cS, oS, s0, hS, hL⟩ := hJ 6 36 (by kernel_rfl) (by kernel_rfl)
      simp at s0
      rw [if_pos (by rfl)]
      clear hs hJ
      go_simp
      exact hK _ _ (Below.refl _ _) ⟨aS, cS, oS, rfl, hS, hL⟩
    refine grow.Each.cons ?_ ?_
    · intro A W hB hs hJ K hK
      have s0 : A.tmps.getD 37 undef = .int .i64 (allF 1 n (pairsP 1 zs)) := hJ 7 37 (by kernel_rfl) (by kernel_rfl)
      simp at s0
      rw [if_pos (by rfl)]
      clear hs hJ
      go_simp
      exact hK _ _ (Below.refl _ _) rfl
    exact grow.Each.nil
  case fin =>
    intro f W hB hF
    have f0 : f 0 = .agg #[.int .i64 (nt 1), .func (.func 21) #[] #[]] := hF 0 (by decide)
    have f1 : f 1 = .agg #[.int .i64 (nt 1), .func (.func 21) #[] #[]] := hF 1 (by decide)
    have f2 : f 2 = .slice (some ⟨b, off, none⟩) len c := hF 2 (by decide)
    obtain ⟨aP_3, cP_3, f3, -⟩ := hF 3 (by decide)
    obtain ⟨aS_4, cS_4, oS_4, f4, -, -⟩ := hF 4 (by decide)
    obtain ⟨aS_5, cS_5, oS_5, f5, -, -⟩ := hF 5 (by decide)
    obtain ⟨aS_6, cS_6, oS_6, f6, -, -⟩ := hF 6 (by decide)
    have f7 : f 7 = .int .i64 (allF 1 n (pairsP 1 zs)) := hF 7 (by decide)
    obtain ⟨aS_8, cS_8, oS_8, f8, hS_8, hL_8⟩ := hF 8 (by decide)
    have f9 : f 9 = .int .i64 (allF 1 n (pairsP 1 zs)) := hF 9 (by decide)
    clear hF
    generalize hA : grow.puts _ _ f _ = A'
    simp only [List.length_cons, List.length_nil, Nat.reduceAdd, grow.puts, Act.put, List.getElem?_toArray, List.getElem?_cons_zero, List.getElem?_cons_succ, Option.bind_some, List.setIfInBounds_toArray, List.set_cons_zero, List.set_cons_succ, f0, f1, f2, f3, f4, f5, f6, f7, f8, f9] at hA
    subst hA
    rw [Hpl.out] at hS_8 hL_8 ⊢
    have hsS := (OwnI.slc hS_8).1
    obtain ⟨bS, oS, rfl, hcS⟩ := hsS.at (by omega)
    rw [hL_8] at hcS
    have HcS := Lib.hid hcS
    have hbW := belowTrans hbV hB
    have hzW := hB.size
    have hzW2 := hbW.size
    have HbW := Lib.hid hbW
    have HB := Lib.hid hB
    obtain ⟨i0, hi, hz0, hz1, hz2⟩ := info_parts infoInt
    have Hi := Lib.hid (And.intro hi (And.intro hz0 (And.intro hz1 hz2)))
    clear hi hz0 hz1 hz2 hcS hsS hS_8 hL_8 hbW hB hop Hp Hsw f0 f1 f2 f3 f4 f5 f6 f7 f8 f9 hbV
    have kop := upc HB.out k1
    clear k0 k1
    go_wp2_with fail
    go_loopw [8, 40] (fun v i wr => ∃ (j : Nat) (xs : List Int), j ≤ len ∧ i = .int .i64 j ∧ Hid (xs.length = j ∧ wr.ownsRow W.heap.size 3 1 v j (xs.map (Value.int .i64)) ∧ Below W.heap.size W wr)) (fun _ i _ => len - (intOf i).toNat)
    case atStart => exact ⟨0, [], Nat.zero_le _, rfl, Lib.hid ⟨rfl, World.ownsRow_nil _ _ _ _, Below.refl _ _⟩⟩
    case round =>
      obtain ⟨j, xs, hj, rfl, Hx⟩ := hrel
      by_cases hlt : j < len
      · have d0 : (0 : Int) ≤ (j : Int) := by omega
        have d1 : (j : Int) < (len : Int) := by omega
        have d2 : (len : Int) ≤ 17592186043904 := by omega
        have dm0 : (0 : Int) ≤ (j : Int) / 2 := by omega
        have dm1 : (j : Int) / 2 < (m : Int) := by omega
        have dt : ((j : Int) / 2).toNat = j / 2 := by omega
        have dm : j / 2 < m := by omega
        have kh := upc Hx.out.2.2 (HcS.out (j / 2) (by omega))
        generalize oS_8.getD (j / 2) 0 = y at kh
        have kop2 := upc Hx.out.2.2 kop
        have hsx := Hx.out.2.2.size
        by_cases hp : j % 2 = 1
        · obtain ⟨i, hij⟩ : ∃ i, i + 1 = j := ⟨j - 1, by omega⟩
          have kl := upc Hx.out.2.2 (upc HB.out (Hc.out i (by omega)))
          generalize zs.getD i 0 = z at kl
          have dr : ((j : Int) % 2 == 1) = true := by simp; omega
          have di0 : (0 : Int) ≤ (i : Int) := by omega
          have di1 : (i : Int) < (len : Int) := by omega
          have dj : (j : Int) - 1 = (i : Int) := by omega
          have dw : IntKind.i64.wrap ((j : Int) - 1) = (i : Int) := by rw [dj]; exact IntWalk.i64_in _ (by omega)
          clear hp hij
          go_wp2_with fail
          go_quiet ((go_at_call 21; exact quietOf (take1 _ _ _)))
          obtain ⟨wq, hwq⟩ : ∃ wq, wq = wr.drewN nq := ⟨_, rfl⟩
          rw [← hwq]
          have hbq : Below wr.heap.size wr wq := by rw [hwq]; exact belowDrewN _ _
          have Hxq : Hid (xs.length = j ∧ wq.ownsRow W.heap.size 3 1 u8 j (xs.map (Value.int .i64)) ∧ Below W.heap.size W wq) := Lib.hid ⟨Hx.out.1, rowUp Hx.out.2.1 hbq, Hx.out.2.2.trans (hbq.mono hsx)⟩
          clear hwq hbq Hx kh kop2 kl hsx
          go_wp2_with (at_builtin; refine wpList_append_own _ rfl (.tmp 60) (.tmp 62) 22 rfl W.heap.size 3 i0 (.int .i64 0) 1 8 Try.underlying22 Hi.out.1 Hi.out.2.1 Hi.out.2.2.1 Hi.out.2.2.2 rfl (by decide) _ j _ rfl (Hxq.out.2.1.alloc _) ⟨wq.heap.size, 0, none⟩ 1 1 [.int .i64 (ap 1 y z)] rfl rfl (cell_one_new _ _ _) (by simp [Value.oneCell']) (by unfold maxLen; omega) (by omega) (by have := Hxq.out.2.2.size; simp; omega) ?_; intro v' w2 hown' hgrow hnil; clear hnil; have Hx2 : Hid ((xs ++ [ap 1 y z]).length = j + 1 ∧ w2.ownsRow W.heap.size 3 1 v' (j + 1) ((xs ++ [ap 1 y z]).map (Value.int .i64)) ∧ Below W.heap.size W w2) := Lib.hid ⟨by rw [List.length_append, Hxq.out.1]; rfl, by rw [List.map_append]; exact hown', Below.grown (Hxq.out.2.2.trans (Below.alloc (Below.refl _ _) Hxq.out.2.2.size _)) hgrow (by have := Hxq.out.2.2.size; simp; omega) (fun b hb => (Hxq.out.2.1.lt b hb).1)⟩; clear hown' hgrow)
          go_roundw
          case rel => exact ⟨j + 1, xs ++ [ap 1 y z], by omega, by go_num, Hx2⟩
          case measure => simp [intOf]; omega
        · have dr : ((j : Int) % 2 == 1) = false := by simp; omega
          clear hp
          go_wp2_with (at_builtin; refine wpList_append_own _ rfl (.tmp 60) (.tmp 62) 22 rfl W.heap.size 3 i0 (.int .i64 0) 1 8 Try.underlying22 Hi.out.1 Hi.out.2.1 Hi.out.2.2.1 Hi.out.2.2.2 rfl (by decide) _ j _ rfl (Hx.out.2.1.alloc _) ⟨wr.heap.size, 0, none⟩ 1 1 [.int .i64 (y)] rfl rfl (cell_one_new _ _ _) (by simp [Value.oneCell']) (by unfold maxLen; omega) (by omega) (by have := Hx.out.2.2.size; simp; omega) ?_; intro v' w2 hown' hgrow hnil; clear hnil; have Hx2 : Hid ((xs ++ [y]).length = j + 1 ∧ w2.ownsRow W.heap.size 3 1 v' (j + 1) ((xs ++ [y]).map (Value.int .i64)) ∧ Below W.heap.size W w2) := Lib.hid ⟨by rw [List.length_append, Hx.out.1]; rfl, by rw [List.map_append]; exact hown', Below.grown (Hx.out.2.2.trans (Below.alloc (Below.refl _ _) Hx.out.2.2.size _)) hgrow (by have := Hx.out.2.2.size; simp; omega) (fun b hb => (Hx.out.2.1.lt b hb).1)⟩; clear hown' hgrow)
          go_roundw
          case rel => exact ⟨j + 1, xs ++ [y], by omega, by go_num, Hx2⟩
          case measure => simp [intOf]; omega
      · have hjl : j = len := by omega
        rw [hjl] at Hx
        clear hjl hj
        have hlx := Hx.out.1
        have hoX : OwnI 3 wr W.heap.size u8 xs := by rw [OwnI, Hx.out.1]; exact Hx.out.2.1
        obtain ⟨aE, cE, rfl, _⟩ := hoX.form
        have HoX := Lib.hid hoX
        clear hoX
        have HlX := Lib.hid hlx
        clear hlx
        go_wp2_with fail
        go_ret2
        refine ⟨aE, cE, xs, ?_, ?_, by rw [HlX.out, Hlen.out], HbW.out.trans (Hx.out.2.2.mono hzW2)⟩
        · rw [Hall.out, HlX.out, ← Hlen.out]; rfl
        · have h := ownI_low HoX.out hzW2
          rw [HlX.out] at h
          rw [← Hlen.out]
          exact h

theorem sweep_any1 (n : Nat) : ∀ (w : World) (a : Option Addr) (c : Nat) (zs : List Int), zs.length ≤ 17592186043904 → Slc w a c zs → zs.length ≤ n →
    Calls Try.prog 14 #[.agg #[.int .i64 (nt 1), .func (.func 21) #[] #[]], .slice a zs.length c] w (RetSw 1 n zs w) := by
  have zero : ∀ (n : Nat) (w : World) (a : Option Addr) (c : Nat), Calls Try.prog 14 #[.agg #[.int .i64 (nt 1), .func (.func 21) #[] #[]], .slice a 0 c] w (RetSw 1 n [] w) := fun n w a c => by
    have h := sweep1_nil 0 w a c
    have e : allF 1 1 [] = allF 1 n [] := by cases n <;> rfl
    unfold RetSw at h ⊢
    rw [e] at h
    exact h
  induction n with
  | zero =>
    intro w a c zs _ _ hl
    obtain rfl : zs = [] := List.eq_nil_of_length_eq_zero (by omega)
    exact zero 0 w a c
  | succ n ih =>
    intro w a c zs hn hs hl
    match zs, hn, hs, hl with
    | [], _, _, _ => exact zero (n + 1) w a c
    | [x], hn, hs, _ =>
      obtain ⟨b, off, rfl, hc⟩ := hs.at (by simp)
      exact sweep1_one n w b off c x (by simpa using hc 0 (by simp))
    | x :: y :: zs, hn, hs, hl =>
      obtain ⟨b, off, rfl, hc⟩ := hs.at (by simp)
      exact sweep1_many n w b off c (x :: y :: zs) (by simp) hn hs hc ih hl


set_option maxHeartbeats 1000000 in
theorem sweep2_nil (n : Nat) (w : World) (a : Option Addr) (c : Nat) :
    Calls Try.prog 14 #[.agg #[.int .i64 (nt 2), .func (.func 22) #[] #[]], .slice a 0 c] w (RetSw 2 (n + 1) [] w) := by
  obtain ⟨V, hV⟩ : ∃ V, V = (w.alloc (.cells #[.int .i64 (nt 2), .func (.func 22) #[] #[]] 43)) := ⟨_, rfl⟩
  have hbV : Below w.heap.size w V := by rw [hV]; exact belowAlloc _ _
  have hzV : V.heap.size = w.heap.size + 1 := by rw [hV]; simp
  have hop : V.heap[w.heap.size]? = some (.cells #[.int .i64 (nt 2), .func (.func 22) #[] #[]] 43 (0, 0)) := by rw [hV]; exact heap_alloc_new _ _
  have k0 := two_c0 hop
  have k1 := two_c1 hop
  have HV := Lib.hid hV
  clear hV
  go_enter Try.func14, Try.ntmps14
  go_wp2_with fail
  rw [← HV.out]
  go_quiet (fail)
  go_wp2_with fail
  go_ret2
  exact ⟨none, 0, [], rfl, World.ownsRow_nil _ _ _ _, rfl, belowTrans hbV (belowDrewN _ _)⟩

set_option maxHeartbeats 1000000 in
theorem sweep2_one (n : Nat) (w : World) (b off c : Nat) (x : Int) (hx : w.cell? ⟨b, off, none⟩ = some (.int .i64 x)) :
    Calls Try.prog 14 #[.agg #[.int .i64 (nt 2), .func (.func 22) #[] #[]], .slice (some ⟨b, off, none⟩) 1 c] w (RetSw 2 (n + 1) [x] w) := by
  obtain ⟨V, hV⟩ : ∃ V, V = (w.alloc (.cells #[.int .i64 (nt 2), .func (.func 22) #[] #[]] 43)) := ⟨_, rfl⟩
  have hbV : Below w.heap.size w V := by rw [hV]; exact belowAlloc _ _
  have hzV : V.heap.size = w.heap.size + 1 := by rw [hV]; simp
  have hop : V.heap[w.heap.size]? = some (.cells #[.int .i64 (nt 2), .func (.func 22) #[] #[]] 43 (0, 0)) := by rw [hV]; exact heap_alloc_new _ _
  have k0 := two_c0 hop
  have k1 := two_c1 hop
  have HV := Lib.hid hV
  clear hV
  have kx := upc hbV hx
  clear hx
  go_enter Try.func14, Try.ntmps14
  go_wp2_with fail
  rw [← HV.out]
  refine grow.wp_grow [grow.kEq (.pointer (some ⟨w.heap.size, 0, none⟩)), grow.kEq (.int .i64 (nt 2)), kOne w.heap.size (nt 2), grow.kEq (.pointer (some ⟨w.heap.size, 1, none⟩)), grow.kEq (.func (.func 22) #[] #[]), grow.kEq (.pointer (some ⟨w.heap.size, 0, none⟩)), grow.kEq (.int .i64 (nt 2)), grow.kEq (.slice (some ⟨b, off, none⟩) 1 c), grow.kEq (.pointer (some ⟨b, off, none⟩)), grow.kEq (.int .i64 x), grow.kEq (.int .i64 (ap 2 (nt 2) x)), kOne w.heap.size (nt 2), grow.kEq (.int .i64 (ap 2 (nt 2) x))] (by kernel_rfl) (by kernel_rfl) (by kernel_rfl) (by kernel_rfl) ?step ?fin
  case step =>
    refine grow.Each.cons ?_ ?_
    · intro A W hB hs hJ K hK
      have s0 := hs 2 (by kernel_rfl)
      simp at s0
      rw [if_pos (by rfl)]
      clear hs hJ
      go_simp
      exact hK _ _ (Below.refl _ _) rfl
    refine grow.Each.cons ?_ ?_
    · intro A W hB hs hJ K hK
      have s0 : A.tmps.getD 19 undef = .pointer (some ⟨w.heap.size, 0, none⟩) := hJ 0 19 (by kernel_rfl) (by kernel_rfl)
      simp at s0
      have kk := upc hB k0
      rw [if_pos (by rfl)]
      clear hs hJ
      go_simp
      exact hK _ _ (Below.refl _ _) rfl
    refine grow.Each.cons ?_ ?_
    · intro A W hB hs hJ K hK
      have s0 : A.tmps.getD 20 undef = .int .i64 (nt 2) := hJ 1 20 (by kernel_rfl) (by kernel_rfl)
      simp at s0
      rw [if_pos (by rfl)]
      clear hs hJ
      go_simp
      exact hK _ _ (belowAlloc _ _) ⟨_, rfl, (by have h1 := hB.size; omega), heap_alloc_new _ _⟩
    refine grow.Each.cons ?_ ?_
    · intro A W hB hs hJ K hK
      have s0 := hs 2 (by kernel_rfl)
      simp at s0
      rw [if_pos (by rfl)]
      clear hs hJ
      go_simp
      exact hK _ _ (Below.refl _ _) rfl
    refine grow.Each.cons ?_ ?_
    · intro A W hB hs hJ K hK
      have s0 : A.tmps.getD 22 undef = .pointer (some ⟨w.heap.size, 1, none⟩) := hJ 3 22 (by kernel_rfl) (by kernel_rfl)
      simp at s0
      have kk := upc hB k1
      rw [if_pos (by rfl)]
      clear hs hJ
      go_simp
      exact hK _ _ (Below.refl _ _) rfl
    refine grow.Each.cons ?_ ?_
    · intro A W hB hs hJ K hK
      have s0 := hs 2 (by kernel_rfl)
      simp at s0
      rw [if_pos (by rfl)]
      clear hs hJ
      go_simp
      exact hK _ _ (Below.refl _ _) rfl
    refine grow.Each.cons ?_ ?_
    · intro A W hB hs hJ K hK
      have s0 : A.tmps.getD 24 undef = .pointer (some ⟨w.heap.size, 0, none⟩) := hJ 5 24 (by kernel_rfl) (by kernel_rfl)
      simp at s0
      have kk := upc hB k0
      rw [if_pos (by rfl)]
      clear hs hJ
      go_simp
      exact hK _ _ (Below.refl _ _) rfl
    refine grow.Each.cons ?_ ?_
    · intro A W hB hs hJ K hK
      have s0 := hs 1 (by kernel_rfl)
      simp at s0
      rw [if_pos (by rfl)]
      clear hs hJ
      go_simp
      exact hK _ _ (Below.refl _ _) rfl
    refine grow.Each.cons ?_ ?_
    · intro A W hB hs hJ K hK
      have s0 : A.tmps.getD 26 undef = .slice (some ⟨b, off, none⟩) 1 c := hJ 7 26 (by kernel_rfl) (by kernel_rfl)
      simp at s0
      rw [if_pos (by rfl)]
      clear hs hJ
      go_simp
      exact hK _ _ (Below.refl _ _) rfl
    refine grow.Each.cons ?_ ?_
    · intro A W hB hs hJ K hK
      have s0 : A.tmps.getD 27 undef = .pointer (some ⟨b, off, none⟩) := hJ 8 27 (by kernel_rfl) (by kernel_rfl)
      simp at s0
      have kk := upc hB kx
      rw [if_pos (by rfl)]
      clear hs hJ
      go_simp
      exact hK _ _ (Below.refl _ _) rfl
    refine grow.Each.cons ?_ ?_
    · intro A W hB hs hJ K hK
      have s0 : A.tmps.getD 23 undef = .func (.func 22) #[] #[] := hJ 4 23 (by kernel_rfl) (by kernel_rfl)
      simp at s0
      have s1 : A.tmps.getD 25 undef = .int .i64 (nt 2) := hJ 6 25 (by kernel_rfl) (by kernel_rfl)
      simp at s1
      have s2 : A.tmps.getD 28 undef = .int .i64 x := hJ 9 28 (by kernel_rfl) (by kernel_rfl)
      simp at s2
      rw [if_pos (by rfl)]
      clear hs hJ
      go_simp
      refine (take2 _ _ _).mono ?_
      rintro e W2 ⟨rfl, rfl⟩
      exact hK _ _ (Below.refl _ _) rfl
    refine grow.Each.cons ?_ ?_
    · intro A W hB hs hJ K hK
      obtain ⟨g, s0, hg, hO⟩ := hJ 2 21 (by kernel_rfl) (by kernel_rfl)
      simp at s0
      rw [if_pos (by rfl)]
      clear hs hJ
      go_simp
      exact hK _ _ (Below.refl _ _) ⟨_, rfl, hg, hO⟩
    refine grow.Each.cons ?_ ?_
    · intro A W hB hs hJ K hK
      have s0 : A.tmps.getD 29 undef = .int .i64 (ap 2 (nt 2) x) := hJ 10 29 (by kernel_rfl) (by kernel_rfl)
      simp at s0
      rw [if_pos (by rfl)]
      clear hs hJ
      go_simp
      exact hK _ _ (Below.refl _ _) rfl
    exact grow.Each.nil
  case fin =>
    intro f W hB hF
    have f0 : f 0 = .pointer (some ⟨w.heap.size, 0, none⟩) := hF 0 (by decide)
    have f1 : f 1 = .int .i64 (nt 2) := hF 1 (by decide)
    obtain ⟨g_2, f2, hg_2, hO_2⟩ := hF 2 (by decide)
    have f3 : f 3 = .pointer (some ⟨w.heap.size, 1, none⟩) := hF 3 (by decide)
    have f4 : f 4 = .func (.func 22) #[] #[] := hF 4 (by decide)
    have f5 : f 5 = .pointer (some ⟨w.heap.size, 0, none⟩) := hF 5 (by decide)
    have f6 : f 6 = .int .i64 (nt 2) := hF 6 (by decide)
    have f7 : f 7 = .slice (some ⟨b, off, none⟩) 1 c := hF 7 (by decide)
    have f8 : f 8 = .pointer (some ⟨b, off, none⟩) := hF 8 (by decide)
    have f9 : f 9 = .int .i64 x := hF 9 (by decide)
    have f10 : f 10 = .int .i64 (ap 2 (nt 2) x) := hF 10 (by decide)
    obtain ⟨g_11, f11, hg_11, hO_11⟩ := hF 11 (by decide)
    have f12 : f 12 = .int .i64 (ap 2 (nt 2) x) := hF 12 (by decide)
    clear hF
    generalize hA : grow.puts _ _ f _ = A'
    simp only [List.length_cons, List.length_nil, Nat.reduceAdd, grow.puts, Act.put, List.getElem?_toArray, List.getElem?_cons_zero, List.getElem?_cons_succ, Option.bind_some, List.setIfInBounds_toArray, List.set_cons_zero, List.set_cons_succ, f0, f1, f2, f3, f4, f5, f6, f7, f8, f9, f10, f11, f12] at hA
    subst hA
    go_wp2_with fail
    go_ret2
    exact ⟨_, _, [nt 2], rfl, ⟨rfl, .inr ⟨g_11, 1, #[.int .i64 (nt 2)], rfl, hg_11, hO_11, by simp, by unfold maxLen; omega, rfl, rfl⟩⟩, rfl, belowTrans hbV hB⟩

set_option maxRecDepth 100000 in
set_option maxHeartbeats 4000000 in
theorem sweep2_many (n : Nat) (w : World) (b off c : Nat) (zs : List Int) (h2 : 2 ≤ zs.length) (hn : zs.length ≤ 17592186043904) (hsl : Slc w (some ⟨b, off, none⟩) c zs)
    (hc : ∀ j, j < zs.length → w.cell? ⟨b, off + j, none⟩ = some (.int .i64 (zs.getD j 0)))
    (ih : ∀ w a c zs, zs.length ≤ 17592186043904 → Slc w a c zs → zs.length ≤ n → Calls Try.prog 14 #[.agg #[.int .i64 (nt 2), .func (.func 22) #[] #[]], .slice a zs.length c] w (RetSw 2 n zs w)) (hln : zs.length ≤ n + 1) :
    Calls Try.prog 14 #[.agg #[.int .i64 (nt 2), .func (.func 22) #[] #[]], .slice (some ⟨b, off, none⟩) zs.length c] w (RetSw 2 (n + 1) zs w) := by
  obtain ⟨V, hV⟩ : ∃ V, V = (w.alloc (.cells #[.int .i64 (nt 2), .func (.func 22) #[] #[]] 43)) := ⟨_, rfl⟩
  have hbV : Below w.heap.size w V := by rw [hV]; exact belowAlloc _ _
  have hzV : V.heap.size = w.heap.size + 1 := by rw [hV]; simp
  have hop : V.heap[w.heap.size]? = some (.cells #[.int .i64 (nt 2), .func (.func 22) #[] #[]] 43 (0, 0)) := by rw [hV]; exact heap_alloc_new _ _
  have k0 := two_c0 hop
  have k1 := two_c1 hop
  have HV := Lib.hid hV
  clear hV
  have hall : allF 2 (n + 1) zs = allF 2 n (pairsP 2 zs) := by
    match zs, h2 with
    | _ :: _ :: _, _ => rfl
  obtain ⟨len, hlen⟩ : ∃ len, len = zs.length := ⟨_, rfl⟩
  obtain ⟨m, hm⟩ : ∃ m, m = (len + 1) / 2 := ⟨_, rfl⟩
  have hpl := pairsP_length 2 zs
  rw [← hlen, ← hm] at hpl
  have hsl1 := hsl.up hbV
  have Hp := Lib.hid (fun W (hB : Below V.heap.size V W) => pairs_any2 W (nt 2) (some ⟨b, off, none⟩) c zs (by omega) (hsl1.up hB))
  have Hsw := Lib.hid (fun W a c (hs : Slc W a c (pairsP 2 zs)) => ih W a c (pairsP 2 zs) (by omega) hs (by omega))
  rw [hpl] at Hsw
  rw [← hlen] at hn h2 hc Hp ⊢
  have Hlen := Lib.hid hlen
  have Hpl := Lib.hid hpl
  have Hall := Lib.hid hall
  have Hc := Lib.hid (fun j hj => upc hbV (hc j hj))
  have hm1 : 2 * m ≤ len + 1 ∧ len ≤ 2 * m := by omega
  have hq0 : ((len : Int) == 0) = false := by simp; omega
  have hq1 : ((len : Int) == 1) = false := by simp; omega
  clear hlen hpl hall hc hsl hsl1 ih hm
  go_enter Try.func14, Try.ntmps14
  go_wp2_with fail
  rw [← HV.out]
  refine grow.wp_grow [grow.kEq (.agg #[.int .i64 (nt 2), .func (.func 22) #[] #[]]), grow.kEq (.agg #[.int .i64 (nt 2), .func (.func 22) #[] #[]]), grow.kEq (.slice (some ⟨b, off, none⟩) len c), kRow w.heap.size (pairsP 2 zs), kSw 2 n w.heap.size (pairsP 2 zs), kSw 2 n w.heap.size (pairsP 2 zs), kHalf w.heap.size (pairsP 2 zs).length, grow.kEq (.int .i64 (allF 2 n (pairsP 2 zs))), kHalf w.heap.size (pairsP 2 zs).length, grow.kEq (.int .i64 (allF 2 n (pairsP 2 zs)))] (by kernel_rfl) (by kernel_rfl) (by kernel_rfl) (by kernel_rfl) ?step ?fin
  case step =>
    refine grow.Each.cons ?_ ?_
    · intro A W hB hs hJ K hK
      have s0 := hs 2 (by kernel_rfl)
      simp at s0
      have kk0 := upc hB k0
      have kk1 := upc hB k1
      rw [if_pos (by rfl)]
      clear hs hJ
      go_simp
      exact hK _ _ (Below.refl _ _) rfl
    refine grow.Each.cons ?_ ?_
    · intro A W hB hs hJ K hK
      have s0 := hs 2 (by kernel_rfl)
      simp at s0
      have kk0 := upc hB k0
      have kk1 := upc hB k1
      rw [if_pos (by rfl)]
      clear hs hJ
      go_simp
      exact hK _ _ (Below.refl _ _) rfl
    refine grow.Each.cons ?_ ?_
    · intro A W hB hs hJ K hK
      have s0 := hs 1 (by kernel_rfl)
      simp at s0
      rw [if_pos (by rfl)]
      clear hs hJ
      go_simp
      exact hK _ _ (Below.refl _ _) rfl
    refine grow.Each.cons ?_ ?_
    · intro A W hB hs hJ K hK
      have s0 : A.tmps.getD 32 undef = .agg #[.int .i64 (nt 2), .func (.func 22) #[] #[]] := hJ 1 32 (by kernel_rfl) (by kernel_rfl)
      simp at s0
      have s1 : A.tmps.getD 33 undef = .slice (some ⟨b, off, none⟩) len c := hJ 2 33 (by kernel_rfl) (by kernel_rfl)
      simp at s1
      rw [if_pos (by rfl)]
      clear hs hJ
      go_simp
      go_at_call 16
      refine (Hp.out W hB).mono ?_
      rintro e W2 ⟨aP, cP, rfl, hoP, hbP⟩
      exact hK _ _ hbP ⟨aP, cP, rfl, ownI_low hoP (by have := hB.size; omega)⟩
    refine grow.Each.cons ?_ ?_
    · intro A W hB hs hJ K hK
      have s0 : A.tmps.getD 31 undef = .agg #[.int .i64 (nt 2), .func (.func 22) #[] #[]] := hJ 0 31 (by kernel_rfl) (by kernel_rfl)
      simp at s0
      obtain ⟨aP, cP, s1, hP⟩ := hJ 3 34 (by kernel_rfl) (by kernel_rfl)
      simp at s1
      rw [Hpl.out] at s1
      rw [if_pos (by rfl)]
      clear hs hJ
      go_simp
      go_at_call 14
      refine (Hsw.out W _ _ (OwnI.slc hP).1).mono ?_
      rintro e W2 ⟨aS, cS, oS, rfl, hoS, hlS, hbS⟩
      exact hK _ _ hbS ⟨aS, cS, oS, rfl, ownI_low hoS (by have := hB.size; omega), hlS⟩
    refine grow.Each.cons ?_ ?_
    · intro A W hB hs hJ K hK
      obtain ⟨aS, cS, oS, s0, hS, hL⟩ := hJ 4 35 (by kernel_rfl) (by kernel_rfl)
      simp at s0
      rw [if_pos (by rfl)]
      clear hs hJ
      go_simp
      exact hK _ _ (Below.refl _ _) ⟨aS, cS, oS, rfl, hS, hL⟩
    refine grow.Each.cons ?_ ?_
    · intro A W hB hs hJ K hK
      obtain ⟨aS, cS, oS, s0, hS, hL⟩ := hJ 5 30 (by kernel_rfl) (by kernel_rfl)
      simp at s0
      rw [if_pos (by rfl)]
      clear hs hJ
      go_simp
      exact hK _ _ (Below.refl _ _) ⟨aS, cS, oS, rfl, hS, hL⟩
    refine grow.Each.cons ?_ ?_
    · intro A W hB hs hJ K hK
      obtain ⟨aS, cS, oS, s0, hS, hL⟩ := hJ 5 30 (by kernel_rfl) (by kernel_rfl)
      simp at s0
      rw [if_pos (by rfl)]
      clear hs hJ
      go_simp
      exact hK _ _ (Below.refl _ _) rfl
    refine grow.Each.cons ?_ ?_
    · intro A W hB hs hJ K hK
      obtain ⟨aS, cS, oS, s0, hS, hL⟩ := hJ 6 36 (by kernel_rfl) (by kernel_rfl)
      simp at s0
      rw [if_pos (by rfl)]
      clear hs hJ
      go_simp
      exact hK _ _ (Below.refl _ _) ⟨aS, cS, oS, rfl, hS, hL⟩
    refine grow.Each.cons ?_ ?_
    · intro A W hB hs hJ K hK
      have s0 : A.tmps.getD 37 undef = .int .i64 (allF 2 n (pairsP 2 zs)) := hJ 7 37 (by kernel_rfl) (by kernel_rfl)
      simp at s0
      rw [if_pos (by rfl)]
      clear hs hJ
      go_simp
      exact hK _ _ (Below.refl _ _) rfl
    exact grow.Each.nil
  case fin =>
    intro f W hB hF
    have f0 : f 0 = .agg #[.int .i64 (nt 2), .func (.func 22) #[] #[]] := hF 0 (by decide)
    have f1 : f 1 = .agg #[.int .i64 (nt 2), .func (.func 22) #[] #[]] := hF 1 (by decide)
    have f2 : f 2 = .slice (some ⟨b, off, none⟩) len c := hF 2 (by decide)
    obtain ⟨aP_3, cP_3, f3, -⟩ := hF 3 (by decide)
    obtain ⟨aS_4, cS_4, oS_4, f4, -, -⟩ := hF 4 (by decide)
    obtain ⟨aS_5, cS_5, oS_5, f5, -, -⟩ := hF 5 (by decide)
    obtain ⟨aS_6, cS_6, oS_6, f6, -, -⟩ := hF 6 (by decide)
    have f7 : f 7 = .int .i64 (allF 2 n (pairsP 2 zs)) := hF 7 (by decide)
    obtain ⟨aS_8, cS_8, oS_8, f8, hS_8, hL_8⟩ := hF 8 (by decide)
    have f9 : f 9 = .int .i64 (allF 2 n (pairsP 2 zs)) := hF 9 (by decide)
    clear hF
    generalize hA : grow.puts _ _ f _ = A'
    simp only [List.length_cons, List.length_nil, Nat.reduceAdd, grow.puts, Act.put, List.getElem?_toArray, List.getElem?_cons_zero, List.getElem?_cons_succ, Option.bind_some, List.setIfInBounds_toArray, List.set_cons_zero, List.set_cons_succ, f0, f1, f2, f3, f4, f5, f6, f7, f8, f9] at hA
    subst hA
    rw [Hpl.out] at hS_8 hL_8 ⊢
    have hsS := (OwnI.slc hS_8).1
    obtain ⟨bS, oS, rfl, hcS⟩ := hsS.at (by omega)
    rw [hL_8] at hcS
    have HcS := Lib.hid hcS
    have hbW := belowTrans hbV hB
    have hzW := hB.size
    have hzW2 := hbW.size
    have HbW := Lib.hid hbW
    have HB := Lib.hid hB
    obtain ⟨i0, hi, hz0, hz1, hz2⟩ := info_parts infoInt
    have Hi := Lib.hid (And.intro hi (And.intro hz0 (And.intro hz1 hz2)))
    clear hi hz0 hz1 hz2 hcS hsS hS_8 hL_8 hbW hB hop Hp Hsw f0 f1 f2 f3 f4 f5 f6 f7 f8 f9 hbV
    have kop := upc HB.out k1
    clear k0 k1
    go_wp2_with fail
    go_loopw [8, 40] (fun v i wr => ∃ (j : Nat) (xs : List Int), j ≤ len ∧ i = .int .i64 j ∧ Hid (xs.length = j ∧ wr.ownsRow W.heap.size 3 1 v j (xs.map (Value.int .i64)) ∧ Below W.heap.size W wr)) (fun _ i _ => len - (intOf i).toNat)
    case atStart => exact ⟨0, [], Nat.zero_le _, rfl, Lib.hid ⟨rfl, World.ownsRow_nil _ _ _ _, Below.refl _ _⟩⟩
    case round =>
      obtain ⟨j, xs, hj, rfl, Hx⟩ := hrel
      by_cases hlt : j < len
      · have d0 : (0 : Int) ≤ (j : Int) := by omega
        have d1 : (j : Int) < (len : Int) := by omega
        have d2 : (len : Int) ≤ 17592186043904 := by omega
        have dm0 : (0 : Int) ≤ (j : Int) / 2 := by omega
        have dm1 : (j : Int) / 2 < (m : Int) := by omega
        have dt : ((j : Int) / 2).toNat = j / 2 := by omega
        have dm : j / 2 < m := by omega
        have kh := upc Hx.out.2.2 (HcS.out (j / 2) (by omega))
        generalize oS_8.getD (j / 2) 0 = y at kh
        have kop2 := upc Hx.out.2.2 kop
        have hsx := Hx.out.2.2.size
        by_cases hp : j % 2 = 1
        · obtain ⟨i, hij⟩ : ∃ i, i + 1 = j := ⟨j - 1, by omega⟩
          have kl := upc Hx.out.2.2 (upc HB.out (Hc.out i (by omega)))
          generalize zs.getD i 0 = z at kl
          have dr : ((j : Int) % 2 == 1) = true := by simp; omega
          have di0 : (0 : Int) ≤ (i : Int) := by omega
          have di1 : (i : Int) < (len : Int) := by omega
          have dj : (j : Int) - 1 = (i : Int) := by omega
          have dw : IntKind.i64.wrap ((j : Int) - 1) = (i : Int) := by rw [dj]; exact IntWalk.i64_in _ (by omega)
          clear hp hij
          go_wp2_with fail
          go_quiet ((go_at_call 22; exact quietOf (take2 _ _ _)))
          obtain ⟨wq, hwq⟩ : ∃ wq, wq = wr.drewN nq := ⟨_, rfl⟩
          rw [← hwq]
          have hbq : Below wr.heap.size wr wq := by rw [hwq]; exact belowDrewN _ _
          have Hxq : Hid (xs.length = j ∧ wq.ownsRow W.heap.size 3 1 u8 j (xs.map (Value.int .i64)) ∧ Below W.heap.size W wq) := Lib.hid ⟨Hx.out.1, rowUp Hx.out.2.1 hbq, Hx.out.2.2.trans (hbq.mono hsx)⟩
          clear hwq hbq Hx kh kop2 kl hsx
          go_wp2_with (at_builtin; refine wpList_append_own _ rfl (.tmp 60) (.tmp 62) 22 rfl W.heap.size 3 i0 (.int .i64 0) 1 8 Try.underlying22 Hi.out.1 Hi.out.2.1 Hi.out.2.2.1 Hi.out.2.2.2 rfl (by decide) _ j _ rfl (Hxq.out.2.1.alloc _) ⟨wq.heap.size, 0, none⟩ 1 1 [.int .i64 (ap 2 y z)] rfl rfl (cell_one_new _ _ _) (by simp [Value.oneCell']) (by unfold maxLen; omega) (by omega) (by have := Hxq.out.2.2.size; simp; omega) ?_; intro v' w2 hown' hgrow hnil; clear hnil; have Hx2 : Hid ((xs ++ [ap 2 y z]).length = j + 1 ∧ w2.ownsRow W.heap.size 3 1 v' (j + 1) ((xs ++ [ap 2 y z]).map (Value.int .i64)) ∧ Below W.heap.size W w2) := Lib.hid ⟨by rw [List.length_append, Hxq.out.1]; rfl, by rw [List.map_append]; exact hown', Below.grown (Hxq.out.2.2.trans (Below.alloc (Below.refl _ _) Hxq.out.2.2.size _)) hgrow (by have := Hxq.out.2.2.size; simp; omega) (fun b hb => (Hxq.out.2.1.lt b hb).1)⟩; clear hown' hgrow)
          go_roundw
          case rel => exact ⟨j + 1, xs ++ [ap 2 y z], by omega, by go_num, Hx2⟩
          case measure => simp [intOf]; omega
        · have dr : ((j : Int) % 2 == 1) = false := by simp; omega
          clear hp
          go_wp2_with (at_builtin; refine wpList_append_own _ rfl (.tmp 60) (.tmp 62) 22 rfl W.heap.size 3 i0 (.int .i64 0) 1 8 Try.underlying22 Hi.out.1 Hi.out.2.1 Hi.out.2.2.1 Hi.out.2.2.2 rfl (by decide) _ j _ rfl (Hx.out.2.1.alloc _) ⟨wr.heap.size, 0, none⟩ 1 1 [.int .i64 (y)] rfl rfl (cell_one_new _ _ _) (by simp [Value.oneCell']) (by unfold maxLen; omega) (by omega) (by have := Hx.out.2.2.size; simp; omega) ?_; intro v' w2 hown' hgrow hnil; clear hnil; have Hx2 : Hid ((xs ++ [y]).length = j + 1 ∧ w2.ownsRow W.heap.size 3 1 v' (j + 1) ((xs ++ [y]).map (Value.int .i64)) ∧ Below W.heap.size W w2) := Lib.hid ⟨by rw [List.length_append, Hx.out.1]; rfl, by rw [List.map_append]; exact hown', Below.grown (Hx.out.2.2.trans (Below.alloc (Below.refl _ _) Hx.out.2.2.size _)) hgrow (by have := Hx.out.2.2.size; simp; omega) (fun b hb => (Hx.out.2.1.lt b hb).1)⟩; clear hown' hgrow)
          go_roundw
          case rel => exact ⟨j + 1, xs ++ [y], by omega, by go_num, Hx2⟩
          case measure => simp [intOf]; omega
      · have hjl : j = len := by omega
        rw [hjl] at Hx
        clear hjl hj
        have hlx := Hx.out.1
        have hoX : OwnI 3 wr W.heap.size u8 xs := by rw [OwnI, Hx.out.1]; exact Hx.out.2.1
        obtain ⟨aE, cE, rfl, _⟩ := hoX.form
        have HoX := Lib.hid hoX
        clear hoX
        have HlX := Lib.hid hlx
        clear hlx
        go_wp2_with fail
        go_ret2
        refine ⟨aE, cE, xs, ?_, ?_, by rw [HlX.out, Hlen.out], HbW.out.trans (Hx.out.2.2.mono hzW2)⟩
        · rw [Hall.out, HlX.out, ← Hlen.out]; rfl
        · have h := ownI_low HoX.out hzW2
          rw [HlX.out] at h
          rw [← Hlen.out]
          exact h

theorem sweep_any2 (n : Nat) : ∀ (w : World) (a : Option Addr) (c : Nat) (zs : List Int), zs.length ≤ 17592186043904 → Slc w a c zs → zs.length ≤ n →
    Calls Try.prog 14 #[.agg #[.int .i64 (nt 2), .func (.func 22) #[] #[]], .slice a zs.length c] w (RetSw 2 n zs w) := by
  have zero : ∀ (n : Nat) (w : World) (a : Option Addr) (c : Nat), Calls Try.prog 14 #[.agg #[.int .i64 (nt 2), .func (.func 22) #[] #[]], .slice a 0 c] w (RetSw 2 n [] w) := fun n w a c => by
    have h := sweep2_nil 0 w a c
    have e : allF 2 1 [] = allF 2 n [] := by cases n <;> rfl
    unfold RetSw at h ⊢
    rw [e] at h
    exact h
  induction n with
  | zero =>
    intro w a c zs _ _ hl
    obtain rfl : zs = [] := List.eq_nil_of_length_eq_zero (by omega)
    exact zero 0 w a c
  | succ n ih =>
    intro w a c zs hn hs hl
    match zs, hn, hs, hl with
    | [], _, _, _ => exact zero (n + 1) w a c
    | [x], hn, hs, _ =>
      obtain ⟨b, off, rfl, hc⟩ := hs.at (by simp)
      exact sweep2_one n w b off c x (by simpa using hc 0 (by simp))
    | x :: y :: zs, hn, hs, hl =>
      obtain ⟨b, off, rfl, hc⟩ := hs.at (by simp)
      exact sweep2_many n w b off c (x :: y :: zs) (by simp) hn hs hc ih hl


set_option maxHeartbeats 1000000 in
theorem sweep3_nil (n : Nat) (w : World) (a : Option Addr) (c : Nat) :
    Calls Try.prog 14 #[.agg #[.int .i64 (nt 3), .func (.func 23) #[] #[]], .slice a 0 c] w (RetSw 3 (n + 1) [] w) := by
  obtain ⟨V, hV⟩ : ∃ V, V = (w.alloc (.cells #[.int .i64 (nt 3), .func (.func 23) #[] #[]] 43)) := ⟨_, rfl⟩
  have hbV : Below w.heap.size w V := by rw [hV]; exact belowAlloc _ _
  have hzV : V.heap.size = w.heap.size + 1 := by rw [hV]; simp
  have hop : V.heap[w.heap.size]? = some (.cells #[.int .i64 (nt 3), .func (.func 23) #[] #[]] 43 (0, 0)) := by rw [hV]; exact heap_alloc_new _ _
  have k0 := two_c0 hop
  have k1 := two_c1 hop
  have HV := Lib.hid hV
  clear hV
  go_enter Try.func14, Try.ntmps14
  go_wp2_with fail
  rw [← HV.out]
  go_quiet (fail)
  go_wp2_with fail
  go_ret2
  exact ⟨none, 0, [], rfl, World.ownsRow_nil _ _ _ _, rfl, belowTrans hbV (belowDrewN _ _)⟩

set_option maxHeartbeats 1000000 in
theorem sweep3_one (n : Nat) (w : World) (b off c : Nat) (x : Int) (hx : w.cell? ⟨b, off, none⟩ = some (.int .i64 x)) :
    Calls Try.prog 14 #[.agg #[.int .i64 (nt 3), .func (.func 23) #[] #[]], .slice (some ⟨b, off, none⟩) 1 c] w (RetSw 3 (n + 1) [x] w) := by
  obtain ⟨V, hV⟩ : ∃ V, V = (w.alloc (.cells #[.int .i64 (nt 3), .func (.func 23) #[] #[]] 43)) := ⟨_, rfl⟩
  have hbV : Below w.heap.size w V := by rw [hV]; exact belowAlloc _ _
  have hzV : V.heap.size = w.heap.size + 1 := by rw [hV]; simp
  have hop : V.heap[w.heap.size]? = some (.cells #[.int .i64 (nt 3), .func (.func 23) #[] #[]] 43 (0, 0)) := by rw [hV]; exact heap_alloc_new _ _
  have k0 := two_c0 hop
  have k1 := two_c1 hop
  have HV := Lib.hid hV
  clear hV
  have kx := upc hbV hx
  clear hx
  go_enter Try.func14, Try.ntmps14
  go_wp2_with fail
  rw [← HV.out]
  refine grow.wp_grow [grow.kEq (.pointer (some ⟨w.heap.size, 0, none⟩)), grow.kEq (.int .i64 (nt 3)), kOne w.heap.size (nt 3), grow.kEq (.pointer (some ⟨w.heap.size, 1, none⟩)), grow.kEq (.func (.func 23) #[] #[]), grow.kEq (.pointer (some ⟨w.heap.size, 0, none⟩)), grow.kEq (.int .i64 (nt 3)), grow.kEq (.slice (some ⟨b, off, none⟩) 1 c), grow.kEq (.pointer (some ⟨b, off, none⟩)), grow.kEq (.int .i64 x), grow.kEq (.int .i64 (ap 3 (nt 3) x)), kOne w.heap.size (nt 3), grow.kEq (.int .i64 (ap 3 (nt 3) x))] (by kernel_rfl) (by kernel_rfl) (by kernel_rfl) (by kernel_rfl) ?step ?fin
  case step =>
    refine grow.Each.cons ?_ ?_
    · intro A W hB hs hJ K hK
      have s0 := hs 2 (by kernel_rfl)
      simp at s0
      rw [if_pos (by rfl)]
      clear hs hJ
      go_simp
      exact hK _ _ (Below.refl _ _) rfl
    refine grow.Each.cons ?_ ?_
    · intro A W hB hs hJ K hK
      have s0 : A.tmps.getD 19 undef = .pointer (some ⟨w.heap.size, 0, none⟩) := hJ 0 19 (by kernel_rfl) (by kernel_rfl)
      simp at s0
      have kk := upc hB k0
      rw [if_pos (by rfl)]
      clear hs hJ
      go_simp
      exact hK _ _ (Below.refl _ _) rfl
    refine grow.Each.cons ?_ ?_
    · intro A W hB hs hJ K hK
      have s0 : A.tmps.getD 20 undef = .int .i64 (nt 3) := hJ 1 20 (by kernel_rfl) (by kernel_rfl)
      simp at s0
      rw [if_pos (by rfl)]
      clear hs hJ
      go_simp
      exact hK _ _ (belowAlloc _ _) ⟨_, rfl, (by have h1 := hB.size; omega), heap_alloc_new _ _⟩
    refine grow.Each.cons ?_ ?_
    · intro A W hB hs hJ K hK
      have s0 := hs 2 (by kernel_rfl)
      simp at s0
      rw [if_pos (by rfl)]
      clear hs hJ
      go_simp
      exact hK _ _ (Below.refl _ _) rfl
    refine grow.Each.cons ?_ ?_
    · intro A W hB hs hJ K hK
      have s0 : A.tmps.getD 22 undef = .pointer (some ⟨w.heap.size, 1, none⟩) := hJ 3 22 (by kernel_rfl) (by kernel_rfl)
      simp at s0
      have kk := upc hB k1
      rw [if_pos (by rfl)]
      clear hs hJ
      go_simp
      exact hK _ _ (Below.refl _ _) rfl
    refine grow.Each.cons ?_ ?_
    · intro A W hB hs hJ K hK
      have s0 := hs 2 (by kernel_rfl)
      simp at s0
      rw [if_pos (by rfl)]
      clear hs hJ
      go_simp
      exact hK _ _ (Below.refl _ _) rfl
    refine grow.Each.cons ?_ ?_
    · intro A W hB hs hJ K hK
      have s0 : A.tmps.getD 24 undef = .pointer (some ⟨w.heap.size, 0, none⟩) := hJ 5 24 (by kernel_rfl) (by kernel_rfl)
      simp at s0
      have kk := upc hB k0
      rw [if_pos (by rfl)]
      clear hs hJ
      go_simp
      exact hK _ _ (Below.refl _ _) rfl
    refine grow.Each.cons ?_ ?_
    · intro A W hB hs hJ K hK
      have s0 := hs 1 (by kernel_rfl)
      simp at s0
      rw [if_pos (by rfl)]
      clear hs hJ
      go_simp
      exact hK _ _ (Below.refl _ _) rfl
    refine grow.Each.cons ?_ ?_
    · intro A W hB hs hJ K hK
      have s0 : A.tmps.getD 26 undef = .slice (some ⟨b, off, none⟩) 1 c := hJ 7 26 (by kernel_rfl) (by kernel_rfl)
      simp at s0
      rw [if_pos (by rfl)]
      clear hs hJ
      go_simp
      exact hK _ _ (Below.refl _ _) rfl
    refine grow.Each.cons ?_ ?_
    · intro A W hB hs hJ K hK
      have s0 : A.tmps.getD 27 undef = .pointer (some ⟨b, off, none⟩) := hJ 8 27 (by kernel_rfl) (by kernel_rfl)
      simp at s0
      have kk := upc hB kx
      rw [if_pos (by rfl)]
      clear hs hJ
      go_simp
      exact hK _ _ (Below.refl _ _) rfl
    refine grow.Each.cons ?_ ?_
    · intro A W hB hs hJ K hK
      have s0 : A.tmps.getD 23 undef = .func (.func 23) #[] #[] := hJ 4 23 (by kernel_rfl) (by kernel_rfl)
      simp at s0
      have s1 : A.tmps.getD 25 undef = .int .i64 (nt 3) := hJ 6 25 (by kernel_rfl) (by kernel_rfl)
      simp at s1
      have s2 : A.tmps.getD 28 undef = .int .i64 x := hJ 9 28 (by kernel_rfl) (by kernel_rfl)
      simp at s2
      rw [if_pos (by rfl)]
      clear hs hJ
      go_simp
      refine (take3 _ _ _).mono ?_
      rintro e W2 ⟨rfl, rfl⟩
      exact hK _ _ (Below.refl _ _) rfl
    refine grow.Each.cons ?_ ?_
    · intro A W hB hs hJ K hK
      obtain ⟨g, s0, hg, hO⟩ := hJ 2 21 (by kernel_rfl) (by kernel_rfl)
      simp at s0
      rw [if_pos (by rfl)]
      clear hs hJ
      go_simp
      exact hK _ _ (Below.refl _ _) ⟨_, rfl, hg, hO⟩
    refine grow.Each.cons ?_ ?_
    · intro A W hB hs hJ K hK
      have s0 : A.tmps.getD 29 undef = .int .i64 (ap 3 (nt 3) x) := hJ 10 29 (by kernel_rfl) (by kernel_rfl)
      simp at s0
      rw [if_pos (by rfl)]
      clear hs hJ
      go_simp
      exact hK _ _ (Below.refl _ _) rfl
    exact grow.Each.nil
  case fin =>
    intro f W hB hF
    have f0 : f 0 = .pointer (some ⟨w.heap.size, 0, none⟩) := hF 0 (by decide)
    have f1 : f 1 = .int .i64 (nt 3) := hF 1 (by decide)
    obtain ⟨g_2, f2, hg_2, hO_2⟩ := hF 2 (by decide)
    have f3 : f 3 = .pointer (some ⟨w.heap.size, 1, none⟩) := hF 3 (by decide)
    have f4 : f 4 = .func (.func 23) #[] #[] := hF 4 (by decide)
    have f5 : f 5 = .pointer (some ⟨w.heap.size, 0, none⟩) := hF 5 (by decide)
    have f6 : f 6 = .int .i64 (nt 3) := hF 6 (by decide)
    have f7 : f 7 = .slice (some ⟨b, off, none⟩) 1 c := hF 7 (by decide)
    have f8 : f 8 = .pointer (some ⟨b, off, none⟩) := hF 8 (by decide)
    have f9 : f 9 = .int .i64 x := hF 9 (by decide)
    have f10 : f 10 = .int .i64 (ap 3 (nt 3) x) := hF 10 (by decide)
    obtain ⟨g_11, f11, hg_11, hO_11⟩ := hF 11 (by decide)
    have f12 : f 12 = .int .i64 (ap 3 (nt 3) x) := hF 12 (by decide)
    clear hF
    generalize hA : grow.puts _ _ f _ = A'
    simp only [List.length_cons, List.length_nil, Nat.reduceAdd, grow.puts, Act.put, List.getElem?_toArray, List.getElem?_cons_zero, List.getElem?_cons_succ, Option.bind_some, List.setIfInBounds_toArray, List.set_cons_zero, List.set_cons_succ, f0, f1, f2, f3, f4, f5, f6, f7, f8, f9, f10, f11, f12] at hA
    subst hA
    go_wp2_with fail
    go_ret2
    exact ⟨_, _, [nt 3], rfl, ⟨rfl, .inr ⟨g_11, 1, #[.int .i64 (nt 3)], rfl, hg_11, hO_11, by simp, by unfold maxLen; omega, rfl, rfl⟩⟩, rfl, belowTrans hbV hB⟩

set_option maxRecDepth 100000 in
set_option maxHeartbeats 4000000 in
theorem sweep3_many (n : Nat) (w : World) (b off c : Nat) (zs : List Int) (h2 : 2 ≤ zs.length) (hn : zs.length ≤ 17592186043904) (hsl : Slc w (some ⟨b, off, none⟩) c zs)
    (hc : ∀ j, j < zs.length → w.cell? ⟨b, off + j, none⟩ = some (.int .i64 (zs.getD j 0)))
    (ih : ∀ w a c zs, zs.length ≤ 17592186043904 → Slc w a c zs → zs.length ≤ n → Calls Try.prog 14 #[.agg #[.int .i64 (nt 3), .func (.func 23) #[] #[]], .slice a zs.length c] w (RetSw 3 n zs w)) (hln : zs.length ≤ n + 1) :
    Calls Try.prog 14 #[.agg #[.int .i64 (nt 3), .func (.func 23) #[] #[]], .slice (some ⟨b, off, none⟩) zs.length c] w (RetSw 3 (n + 1) zs w) := by
  obtain ⟨V, hV⟩ : ∃ V, V = (w.alloc (.cells #[.int .i64 (nt 3), .func (.func 23) #[] #[]] 43)) := ⟨_, rfl⟩
  have hbV : Below w.heap.size w V := by rw [hV]; exact belowAlloc _ _
  have hzV : V.heap.size = w.heap.size + 1 := by rw [hV]; simp
  have hop : V.heap[w.heap.size]? = some (.cells #[.int .i64 (nt 3), .func (.func 23) #[] #[]] 43 (0, 0)) := by rw [hV]; exact heap_alloc_new _ _
  have k0 := two_c0 hop
  have k1 := two_c1 hop
  have HV := Lib.hid hV
  clear hV
  have hall : allF 3 (n + 1) zs = allF 3 n (pairsP 3 zs) := by
    match zs, h2 with
    | _ :: _ :: _, _ => rfl
  obtain ⟨len, hlen⟩ : ∃ len, len = zs.length := ⟨_, rfl⟩
  obtain ⟨m, hm⟩ : ∃ m, m = (len + 1) / 2 := ⟨_, rfl⟩
  have hpl := pairsP_length 3 zs
  rw [← hlen, ← hm] at hpl
  have hsl1 := hsl.up hbV
  have Hp := Lib.hid (fun W (hB : Below V.heap.size V W) => pairs_any3 W (nt 3) (some ⟨b, off, none⟩) c zs (by omega) (hsl1.up hB))
  have Hsw := Lib.hid (fun W a c (hs : Slc W a c (pairsP 3 zs)) => ih W a c (pairsP 3 zs) (by omega) hs (by omega))
  rw [hpl] at Hsw
  rw [← hlen] at hn h2 hc Hp ⊢
  have Hlen := Lib.hid hlen
  have Hpl := Lib.hid hpl
  have Hall := Lib.hid hall
  have Hc := Lib.hid (fun j hj => upc hbV (hc j hj))
  have hm1 : 2 * m ≤ len + 1 ∧ len ≤ 2 * m := by omega
  have hq0 : ((len : Int) == 0) = false := by simp; omega
  have hq1 : ((len : Int) == 1) = false := by simp; omega
  clear hlen hpl hall hc hsl hsl1 ih hm
  go_enter Try.func14, Try.ntmps14
  go_wp2_with fail
  rw [← HV.out]
  refine grow.wp_grow [grow.kEq (.agg #[.int .i64 (nt 3), .func (.func 23) #[] #[]]), grow.kEq (.agg #[.int .i64 (nt 3), .func (.func 23) #[] #[]]), grow.kEq (.slice (some ⟨b, off, none⟩) len c), kRow w.heap.size (pairsP 3 zs), kSw 3 n w.heap.size (pairsP 3 zs), kSw 3 n w.heap.size (pairsP 3 zs), kHalf w.heap.size (pairsP 3 zs).length, grow.kEq (.int .i64 (allF 3 n (pairsP 3 zs))), kHalf w.heap.size (pairsP 3 zs).length, grow.kEq (.int .i64 (allF 3 n (pairsP 3 zs)))] (by kernel_rfl) (by kernel_rfl) (by kernel_rfl) (by kernel_rfl) ?step ?fin
  case step =>
    refine grow.Each.cons ?_ ?_
    · intro A W hB hs hJ K hK
      have s0 := hs 2 (by kernel_rfl)
      simp at s0
      have kk0 := upc hB k0
      have kk1 := upc hB k1
      rw [if_pos (by rfl)]
      clear hs hJ
      go_simp
      exact hK _ _ (Below.refl _ _) rfl
    refine grow.Each.cons ?_ ?_
    · intro A W hB hs hJ K hK
      have s0 := hs 2 (by kernel_rfl)
      simp at s0
      have kk0 := upc hB k0
      have kk1 := upc hB k1
      rw [if_pos (by rfl)]
      clear hs hJ
      go_simp
      exact hK _ _ (Below.refl _ _) rfl
    refine grow.Each.cons ?_ ?_
    · intro A W hB hs hJ K hK
      have s0 := hs 1 (by kernel_rfl)
      simp at s0
      rw [if_pos (by rfl)]
      clear hs hJ
      go_simp
      exact hK _ _ (Below.refl _ _) rfl
    refine grow.Each.cons ?_ ?_
    · intro A W hB hs hJ K hK
      have s0 : A.tmps.getD 32 undef = .agg #[.int .i64 (nt 3), .func (.func 23) #[] #[]] := hJ 1 32 (by kernel_rfl) (by kernel_rfl)
      simp at s0
      have s1 : A.tmps.getD 33 undef = .slice (some ⟨b, off, none⟩) len c := hJ 2 33 (by kernel_rfl) (by kernel_rfl)
      simp at s1
      rw [if_pos (by rfl)]
      clear hs hJ
      go_simp
      go_at_call 16
      refine (Hp.out W hB).mono ?_
      rintro e W2 ⟨aP, cP, rfl, hoP, hbP⟩
      exact hK _ _ hbP ⟨aP, cP, rfl, ownI_low hoP (by have := hB.size; omega)⟩
    refine grow.Each.cons ?_ ?_
    · intro A W hB hs hJ K hK
      have s0 : A.tmps.getD 31 undef = .agg #[.int .i64 (nt 3), .func (.func 23) #[] #[]] := hJ 0 31 (by kernel_rfl) (by kernel_rfl)
      simp at s0
      obtain ⟨aP, cP, s1, hP⟩ := hJ 3 34 (by kernel_rfl) (by kernel_rfl)
      simp at s1
      rw [Hpl.out] at s1
      rw [if_pos (by rfl)]
      clear hs hJ
      go_simp
      go_at_call 14
      refine (Hsw.out W _ _ (OwnI.slc hP).1).mono ?_
      rintro e W2 ⟨aS, cS, oS, rfl, hoS, hlS, hbS⟩
      exact hK _ _ hbS ⟨aS, cS, oS, rfl, ownI_low hoS (by have := hB.size; omega), hlS⟩
    refine grow.Each.cons ?_ ?_
    · intro A W hB hs hJ K hK
      obtain ⟨aS, cS, oS, s0, hS, hL⟩ := hJ 4 35 (by kernel_rfl) (by kernel_rfl)
      simp at s0
      rw [if_pos (by rfl)]
      clear hs hJ
      go_simp
      exact hK _ _ (Below.refl _ _) ⟨aS, cS, oS, rfl, hS, hL⟩
    refine grow.Each.cons ?_ ?_
    · intro A W hB hs hJ K hK
      obtain ⟨aS, cS, oS, s0, hS, hL⟩ := hJ 5 30 (by kernel_rfl) (by kernel_rfl)
      simp at s0
      rw [if_pos (by rfl)]
      clear hs hJ
      go_simp
      exact hK _ _ (Below.refl _ _) ⟨aS, cS, oS, rfl, hS, hL⟩
    refine grow.Each.cons ?_ ?_
    · intro A W hB hs hJ K hK
      obtain ⟨aS, cS, oS, s0, hS, hL⟩ := hJ 5 30 (by kernel_rfl) (by kernel_rfl)
      simp at s0
      rw [if_pos (by rfl)]
      clear hs hJ
      go_simp
      exact hK _ _ (Below.refl _ _) rfl
    refine grow.Each.cons ?_ ?_
    · intro A W hB hs hJ K hK
      obtain ⟨aS, cS, oS, s0, hS, hL⟩ := hJ 6 36 (by kernel_rfl) (by kernel_rfl)
      simp at s0
      rw [if_pos (by rfl)]
      clear hs hJ
      go_simp
      exact hK _ _ (Below.refl _ _) ⟨aS, cS, oS, rfl, hS, hL⟩
    refine grow.Each.cons ?_ ?_
    · intro A W hB hs hJ K hK
      have s0 : A.tmps.getD 37 undef = .int .i64 (allF 3 n (pairsP 3 zs)) := hJ 7 37 (by kernel_rfl) (by kernel_rfl)
      simp at s0
      rw [if_pos (by rfl)]
      clear hs hJ
      go_simp
      exact hK _ _ (Below.refl _ _) rfl
    exact grow.Each.nil
  case fin =>
    intro f W hB hF
    have f0 : f 0 = .agg #[.int .i64 (nt 3), .func (.func 23) #[] #[]] := hF 0 (by decide)
    have f1 : f 1 = .agg #[.int .i64 (nt 3), .func (.func 23) #[] #[]] := hF 1 (by decide)
    have f2 : f 2 = .slice (some ⟨b, off, none⟩) len c := hF 2 (by decide)
    obtain ⟨aP_3, cP_3, f3, -⟩ := hF 3 (by decide)
    obtain ⟨aS_4, cS_4, oS_4, f4, -, -⟩ := hF 4 (by decide)
    obtain ⟨aS_5, cS_5, oS_5, f5, -, -⟩ := hF 5 (by decide)
    obtain ⟨aS_6, cS_6, oS_6, f6, -, -⟩ := hF 6 (by decide)
    have f7 : f 7 = .int .i64 (allF 3 n (pairsP 3 zs)) := hF 7 (by decide)
    obtain ⟨aS_8, cS_8, oS_8, f8, hS_8, hL_8⟩ := hF 8 (by decide)
    have f9 : f 9 = .int .i64 (allF 3 n (pairsP 3 zs)) := hF 9 (by decide)
    clear hF
    generalize hA : grow.puts _ _ f _ = A'
    simp only [List.length_cons, List.length_nil, Nat.reduceAdd, grow.puts, Act.put, List.getElem?_toArray, List.getElem?_cons_zero, List.getElem?_cons_succ, Option.bind_some, List.setIfInBounds_toArray, List.set_cons_zero, List.set_cons_succ, f0, f1, f2, f3, f4, f5, f6, f7, f8, f9] at hA
    subst hA
    rw [Hpl.out] at hS_8 hL_8 ⊢
    have hsS := (OwnI.slc hS_8).1
    obtain ⟨bS, oS, rfl, hcS⟩ := hsS.at (by omega)
    rw [hL_8] at hcS
    have HcS := Lib.hid hcS
    have hbW := belowTrans hbV hB
    have hzW := hB.size
    have hzW2 := hbW.size
    have HbW := Lib.hid hbW
    have HB := Lib.hid hB
    obtain ⟨i0, hi, hz0, hz1, hz2⟩ := info_parts infoInt
    have Hi := Lib.hid (And.intro hi (And.intro hz0 (And.intro hz1 hz2)))
    clear hi hz0 hz1 hz2 hcS hsS hS_8 hL_8 hbW hB hop Hp Hsw f0 f1 f2 f3 f4 f5 f6 f7 f8 f9 hbV
    have kop := upc HB.out k1
    clear k0 k1
    go_wp2_with fail
    go_loopw [8, 40] (fun v i wr => ∃ (j : Nat) (xs : List Int), j ≤ len ∧ i = .int .i64 j ∧ Hid (xs.length = j ∧ wr.ownsRow W.heap.size 3 1 v j (xs.map (Value.int .i64)) ∧ Below W.heap.size W wr)) (fun _ i _ => len - (intOf i).toNat)
    case atStart => exact ⟨0, [], Nat.zero_le _, rfl, Lib.hid ⟨rfl, World.ownsRow_nil _ _ _ _, Below.refl _ _⟩⟩
    case round =>
      obtain ⟨j, xs, hj, rfl, Hx⟩ := hrel
      by_cases hlt : j < len
      · have d0 : (0 : Int) ≤ (j : Int) := by omega
        have d1 : (j : Int) < (len : Int) := by omega
        have d2 : (len : Int) ≤ 17592186043904 := by omega
        have dm0 : (0 : Int) ≤ (j : Int) / 2 := by omega
        have dm1 : (j : Int) / 2 < (m : Int) := by omega
        have dt : ((j : Int) / 2).toNat = j / 2 := by omega
        have dm : j / 2 < m := by omega
        have kh := upc Hx.out.2.2 (HcS.out (j / 2) (by omega))
        generalize oS_8.getD (j / 2) 0 = y at kh
        have kop2 := upc Hx.out.2.2 kop
        have hsx := Hx.out.2.2.size
        by_cases hp : j % 2 = 1
        · obtain ⟨i, hij⟩ : ∃ i, i + 1 = j := ⟨j - 1, by omega⟩
          have kl := upc Hx.out.2.2 (upc HB.out (Hc.out i (by omega)))
          generalize zs.getD i 0 = z at kl
          have dr : ((j : Int) % 2 == 1) = true := by simp; omega
          have di0 : (0 : Int) ≤ (i : Int) := by omega
          have di1 : (i : Int) < (len : Int) := by omega
          have dj : (j : Int) - 1 = (i : Int) := by omega
          have dw : IntKind.i64.wrap ((j : Int) - 1) = (i : Int) := by rw [dj]; exact IntWalk.i64_in _ (by omega)
          clear hp hij
          go_wp2_with fail
          go_quiet ((go_at_call 23; exact quietOf (take3 _ _ _)))
          obtain ⟨wq, hwq⟩ : ∃ wq, wq = wr.drewN nq := ⟨_, rfl⟩
          rw [← hwq]
          have hbq : Below wr.heap.size wr wq := by rw [hwq]; exact belowDrewN _ _
          have Hxq : Hid (xs.length = j ∧ wq.ownsRow W.heap.size 3 1 u8 j (xs.map (Value.int .i64)) ∧ Below W.heap.size W wq) := Lib.hid ⟨Hx.out.1, rowUp Hx.out.2.1 hbq, Hx.out.2.2.trans (hbq.mono hsx)⟩
          clear hwq hbq Hx kh kop2 kl hsx
          go_wp2_with (at_builtin; refine wpList_append_own _ rfl (.tmp 60) (.tmp 62) 22 rfl W.heap.size 3 i0 (.int .i64 0) 1 8 Try.underlying22 Hi.out.1 Hi.out.2.1 Hi.out.2.2.1 Hi.out.2.2.2 rfl (by decide) _ j _ rfl (Hxq.out.2.1.alloc _) ⟨wq.heap.size, 0, none⟩ 1 1 [.int .i64 (ap 3 y z)] rfl rfl (cell_one_new _ _ _) (by simp [Value.oneCell']) (by unfold maxLen; omega) (by omega) (by have := Hxq.out.2.2.size; simp; omega) ?_; intro v' w2 hown' hgrow hnil; clear hnil; have Hx2 : Hid ((xs ++ [ap 3 y z]).length = j + 1 ∧ w2.ownsRow W.heap.size 3 1 v' (j + 1) ((xs ++ [ap 3 y z]).map (Value.int .i64)) ∧ Below W.heap.size W w2) := Lib.hid ⟨by rw [List.length_append, Hxq.out.1]; rfl, by rw [List.map_append]; exact hown', Below.grown (Hxq.out.2.2.trans (Below.alloc (Below.refl _ _) Hxq.out.2.2.size _)) hgrow (by have := Hxq.out.2.2.size; simp; omega) (fun b hb => (Hxq.out.2.1.lt b hb).1)⟩; clear hown' hgrow)
          go_roundw
          case rel => exact ⟨j + 1, xs ++ [ap 3 y z], by omega, by go_num, Hx2⟩
          case measure => simp [intOf]; omega
        · have dr : ((j : Int) % 2 == 1) = false := by simp; omega
          clear hp
          go_wp2_with (at_builtin; refine wpList_append_own _ rfl (.tmp 60) (.tmp 62) 22 rfl W.heap.size 3 i0 (.int .i64 0) 1 8 Try.underlying22 Hi.out.1 Hi.out.2.1 Hi.out.2.2.1 Hi.out.2.2.2 rfl (by decide) _ j _ rfl (Hx.out.2.1.alloc _) ⟨wr.heap.size, 0, none⟩ 1 1 [.int .i64 (y)] rfl rfl (cell_one_new _ _ _) (by simp [Value.oneCell']) (by unfold maxLen; omega) (by omega) (by have := Hx.out.2.2.size; simp; omega) ?_; intro v' w2 hown' hgrow hnil; clear hnil; have Hx2 : Hid ((xs ++ [y]).length = j + 1 ∧ w2.ownsRow W.heap.size 3 1 v' (j + 1) ((xs ++ [y]).map (Value.int .i64)) ∧ Below W.heap.size W w2) := Lib.hid ⟨by rw [List.length_append, Hx.out.1]; rfl, by rw [List.map_append]; exact hown', Below.grown (Hx.out.2.2.trans (Below.alloc (Below.refl _ _) Hx.out.2.2.size _)) hgrow (by have := Hx.out.2.2.size; simp; omega) (fun b hb => (Hx.out.2.1.lt b hb).1)⟩; clear hown' hgrow)
          go_roundw
          case rel => exact ⟨j + 1, xs ++ [y], by omega, by go_num, Hx2⟩
          case measure => simp [intOf]; omega
      · have hjl : j = len := by omega
        rw [hjl] at Hx
        clear hjl hj
        have hlx := Hx.out.1
        have hoX : OwnI 3 wr W.heap.size u8 xs := by rw [OwnI, Hx.out.1]; exact Hx.out.2.1
        obtain ⟨aE, cE, rfl, _⟩ := hoX.form
        have HoX := Lib.hid hoX
        clear hoX
        have HlX := Lib.hid hlx
        clear hlx
        go_wp2_with fail
        go_ret2
        refine ⟨aE, cE, xs, ?_, ?_, by rw [HlX.out, Hlen.out], HbW.out.trans (Hx.out.2.2.mono hzW2)⟩
        · rw [Hall.out, HlX.out, ← Hlen.out]; rfl
        · have h := ownI_low HoX.out hzW2
          rw [HlX.out] at h
          rw [← Hlen.out]
          exact h

theorem sweep_any3 (n : Nat) : ∀ (w : World) (a : Option Addr) (c : Nat) (zs : List Int), zs.length ≤ 17592186043904 → Slc w a c zs → zs.length ≤ n →
    Calls Try.prog 14 #[.agg #[.int .i64 (nt 3), .func (.func 23) #[] #[]], .slice a zs.length c] w (RetSw 3 n zs w) := by
  have zero : ∀ (n : Nat) (w : World) (a : Option Addr) (c : Nat), Calls Try.prog 14 #[.agg #[.int .i64 (nt 3), .func (.func 23) #[] #[]], .slice a 0 c] w (RetSw 3 n [] w) := fun n w a c => by
    have h := sweep3_nil 0 w a c
    have e : allF 3 1 [] = allF 3 n [] := by cases n <;> rfl
    unfold RetSw at h ⊢
    rw [e] at h
    exact h
  induction n with
  | zero =>
    intro w a c zs _ _ hl
    obtain rfl : zs = [] := List.eq_nil_of_length_eq_zero (by omega)
    exact zero 0 w a c
  | succ n ih =>
    intro w a c zs hn hs hl
    match zs, hn, hs, hl with
    | [], _, _, _ => exact zero (n + 1) w a c
    | [x], hn, hs, _ =>
      obtain ⟨b, off, rfl, hc⟩ := hs.at (by simp)
      exact sweep3_one n w b off c x (by simpa using hc 0 (by simp))
    | x :: y :: zs, hn, hs, hl =>
      obtain ⟨b, off, rfl, hc⟩ := hs.at (by simp)
      exact sweep3_many n w b off c (x :: y :: zs) (by simp) hn hs hc ih hl


set_option maxHeartbeats 1000000 in
theorem sweep4_nil (n : Nat) (w : World) (a : Option Addr) (c : Nat) :
    Calls Try.prog 14 #[.agg #[.int .i64 (nt 4), .func (.func 24) #[] #[]], .slice a 0 c] w (RetSw 4 (n + 1) [] w) := by
  obtain ⟨V, hV⟩ : ∃ V, V = (w.alloc (.cells #[.int .i64 (nt 4), .func (.func 24) #[] #[]] 43)) := ⟨_, rfl⟩
  have hbV : Below w.heap.size w V := by rw [hV]; exact belowAlloc _ _
  have hzV : V.heap.size = w.heap.size + 1 := by rw [hV]; simp
  have hop : V.heap[w.heap.size]? = some (.cells #[.int .i64 (nt 4), .func (.func 24) #[] #[]] 43 (0, 0)) := by rw [hV]; exact heap_alloc_new _ _
  have k0 := two_c0 hop
  have k1 := two_c1 hop
  have HV := Lib.hid hV
  clear hV
  go_enter Try.func14, Try.ntmps14
  go_wp2_with fail
  rw [← HV.out]
  go_quiet (fail)
  go_wp2_with fail
  go_ret2
  exact ⟨none, 0, [], rfl, World.ownsRow_nil _ _ _ _, rfl, belowTrans hbV (belowDrewN _ _)⟩

set_option maxHeartbeats 1000000 in
theorem sweep4_one (n : Nat) (w : World) (b off c : Nat) (x : Int) (hx : w.cell? ⟨b, off, none⟩ = some (.int .i64 x)) :
    Calls Try.prog 14 #[.agg #[.int .i64 (nt 4), .func (.func 24) #[] #[]], .slice (some ⟨b, off, none⟩) 1 c] w (RetSw 4 (n + 1) [x] w) := by
  obtain ⟨V, hV⟩ : ∃ V, V = (w.alloc (.cells #[.int .i64 (nt 4), .func (.func 24) #[] #[]] 43)) := ⟨_, rfl⟩
  have hbV : Below w.heap.size w V := by rw [hV]; exact belowAlloc _ _
  have hzV : V.heap.size = w.heap.size + 1 := by rw [hV]; simp
  have hop : V.heap[w.heap.size]? = some (.cells #[.int .i64 (nt 4), .func (.func 24) #[] #[]] 43 (0, 0)) := by rw [hV]; exact heap_alloc_new _ _
  have k0 := two_c0 hop
  have k1 := two_c1 hop
  have HV := Lib.hid hV
  clear hV
  have kx := upc hbV hx
  clear hx
  go_enter Try.func14, Try.ntmps14
  go_wp2_with fail
  rw [← HV.out]
  refine grow.wp_grow [grow.kEq (.pointer (some ⟨w.heap.size, 0, none⟩)), grow.kEq (.int .i64 (nt 4)), kOne w.heap.size (nt 4), grow.kEq (.pointer (some ⟨w.heap.size, 1, none⟩)), grow.kEq (.func (.func 24) #[] #[]), grow.kEq (.pointer (some ⟨w.heap.size, 0, none⟩)), grow.kEq (.int .i64 (nt 4)), grow.kEq (.slice (some ⟨b, off, none⟩) 1 c), grow.kEq (.pointer (some ⟨b, off, none⟩)), grow.kEq (.int .i64 x), grow.kEq (.int .i64 (ap 4 (nt 4) x)), kOne w.heap.size (nt 4), grow.kEq (.int .i64 (ap 4 (nt 4) x))] (by kernel_rfl) (by kernel_rfl) (by kernel_rfl) (by kernel_rfl) ?step ?fin
  case step =>
    refine grow.Each.cons ?_ ?_
    · intro A W hB hs hJ K hK
      have s0 := hs 2 (by kernel_rfl)
      simp at s0
      rw [if_pos (by rfl)]
      clear hs hJ
      go_simp
      exact hK _ _ (Below.refl _ _) rfl
    refine grow.Each.cons ?_ ?_
    · intro A W hB hs hJ K hK
      have s0 : A.tmps.getD 19 undef = .pointer (some ⟨w.heap.size, 0, none⟩) := hJ 0 19 (by kernel_rfl) (by kernel_rfl)
      simp at s0
      have kk := upc hB k0
      rw [if_pos (by rfl)]
      clear hs hJ
      go_simp
      exact hK _ _ (Below.refl _ _) rfl
    refine grow.Each.cons ?_ ?_
    · intro A W hB hs hJ K hK
      have s0 : A.tmps.getD 20 undef = .int .i64 (nt 4) := hJ 1 20 (by kernel_rfl) (by kernel_rfl)
      simp at s0
      rw [if_pos (by rfl)]
      clear hs hJ
      go_simp
      exact hK _ _ (belowAlloc _ _) ⟨_, rfl, (by have h1 := hB.size; omega), heap_alloc_new _ _⟩
    refine grow.Each.cons ?_ ?_
    · intro A W hB hs hJ K hK
      have s0 := hs 2 (by kernel_rfl)
      simp at s0
      rw [if_pos (by rfl)]
      clear hs hJ
      go_simp
      exact hK _ _ (Below.refl _ _) rfl
    refine grow.Each.cons ?_ ?_
    · intro A W hB hs hJ K hK
      have s0 : A.tmps.getD 22 undef = .pointer (some ⟨w.heap.size, 1, none⟩) := hJ 3 22 (by kernel_rfl) (by kernel_rfl)
      simp at s0
      have kk := upc hB k1
      rw [if_pos (by rfl)]
      clear hs hJ
      go_simp
      exact hK _ _ (Below.refl _ _) rfl
    refine grow.Each.cons ?_ ?_
    · intro A W hB hs hJ K hK
      have s0 := hs 2 (by kernel_rfl)
      simp at s0
      rw [if_pos (by rfl)]
      clear hs hJ
      go_simp
      exact hK _ _ (Below.refl _ _) rfl
    refine grow.Each.cons ?_ ?_
    · intro A W hB hs hJ K hK
      have s0 : A.tmps.getD 24 undef = .pointer (some ⟨w.heap.size, 0, none⟩) := hJ 5 24 (by kernel_rfl) (by kernel_rfl)
      simp at s0
      have kk := upc hB k0
      rw [if_pos (by rfl)]
      clear hs hJ
      go_simp
      exact hK _ _ (Below.refl _ _) rfl
    refine grow.Each.cons ?_ ?_
    · intro A W hB hs hJ K hK
      have s0 := hs 1 (by kernel_rfl)
      simp at s0
      rw [if_pos (by rfl)]
      clear hs hJ
      go_simp
      exact hK _ _ (Below.refl _ _) rfl
    refine grow.Each.cons ?_ ?_
    · intro A W hB hs hJ K hK
      have s0 : A.tmps.getD 26 undef = .slice (some ⟨b, off, none⟩) 1 c := hJ 7 26 (by kernel_rfl) (by kernel_rfl)
      simp at s0
      rw [if_pos (by rfl)]
      clear hs hJ
      go_simp
      exact hK _ _ (Below.refl _ _) rfl
    refine grow.Each.cons ?_ ?_
    · intro A W hB hs hJ K hK
      have s0 : A.tmps.getD 27 undef = .pointer (some ⟨b, off, none⟩) := hJ 8 27 (by kernel_rfl) (by kernel_rfl)
      simp at s0
      have kk := upc hB kx
      rw [if_pos (by rfl)]
      clear hs hJ
      go_simp
      exact hK _ _ (Below.refl _ _) rfl
    refine grow.Each.cons ?_ ?_
    · intro A W hB hs hJ K hK
      have s0 : A.tmps.getD 23 undef = .func (.func 24) #[] #[] := hJ 4 23 (by kernel_rfl) (by kernel_rfl)
      simp at s0
      have s1 : A.tmps.getD 25 undef = .int .i64 (nt 4) := hJ 6 25 (by kernel_rfl) (by kernel_rfl)
      simp at s1
      have s2 : A.tmps.getD 28 undef = .int .i64 x := hJ 9 28 (by kernel_rfl) (by kernel_rfl)
      simp at s2
      rw [if_pos (by rfl)]
      clear hs hJ
      go_simp
      refine (take4 _ _ _).mono ?_
      rintro e W2 ⟨rfl, rfl⟩
      exact hK _ _ (Below.refl _ _) rfl
    refine grow.Each.cons ?_ ?_
    · intro A W hB hs hJ K hK
      obtain ⟨g, s0, hg, hO⟩ := hJ 2 21 (by kernel_rfl) (by kernel_rfl)
      simp at s0
      rw [if_pos (by rfl)]
      clear hs hJ
      go_simp
      exact hK _ _ (Below.refl _ _) ⟨_, rfl, hg, hO⟩
    refine grow.Each.cons ?_ ?_
    · intro A W hB hs hJ K hK
      have s0 : A.tmps.getD 29 undef = .int .i64 (ap 4 (nt 4) x) := hJ 10 29 (by kernel_rfl) (by kernel_rfl)
      simp at s0
      rw [if_pos (by rfl)]
      clear hs hJ
      go_simp
      exact hK _ _ (Below.refl _ _) rfl
    exact grow.Each.nil
  case fin =>
    intro f W hB hF
    have f0 : f 0 = .pointer (some ⟨w.heap.size, 0, none⟩) := hF 0 (by decide)
    have f1 : f 1 = .int .i64 (nt 4) := hF 1 (by decide)
    obtain ⟨g_2, f2, hg_2, hO_2⟩ := hF 2 (by decide)
    have f3 : f 3 = .pointer (some ⟨w.heap.size, 1, none⟩) := hF 3 (by decide)
    have f4 : f 4 = .func (.func 24) #[] #[] := hF 4 (by decide)
    have f5 : f 5 = .pointer (some ⟨w.heap.size, 0, none⟩) := hF 5 (by decide)
    have f6 : f 6 = .int .i64 (nt 4) := hF 6 (by decide)
    have f7 : f 7 = .slice (some ⟨b, off, none⟩) 1 c := hF 7 (by decide)
    have f8 : f 8 = .pointer (some ⟨b, off, none⟩) := hF 8 (by decide)
    have f9 : f 9 = .int .i64 x := hF 9 (by decide)
    have f10 : f 10 = .int .i64 (ap 4 (nt 4) x) := hF 10 (by decide)
    obtain ⟨g_11, f11, hg_11, hO_11⟩ := hF 11 (by decide)
    have f12 : f 12 = .int .i64 (ap 4 (nt 4) x) := hF 12 (by decide)
    clear hF
    generalize hA : grow.puts _ _ f _ = A'
    simp only [List.length_cons, List.length_nil, Nat.reduceAdd, grow.puts, Act.put, List.getElem?_toArray, List.getElem?_cons_zero, List.getElem?_cons_succ, Option.bind_some, List.setIfInBounds_toArray, List.set_cons_zero, List.set_cons_succ, f0, f1, f2, f3, f4, f5, f6, f7, f8, f9, f10, f11, f12] at hA
    subst hA
    go_wp2_with fail
    go_ret2
    exact ⟨_, _, [nt 4], rfl, ⟨rfl, .inr ⟨g_11, 1, #[.int .i64 (nt 4)], rfl, hg_11, hO_11, by simp, by unfold maxLen; omega, rfl, rfl⟩⟩, rfl, belowTrans hbV hB⟩

set_option maxRecDepth 100000 in
set_option maxHeartbeats 4000000 in
theorem sweep4_many (n : Nat) (w : World) (b off c : Nat) (zs : List Int) (h2 : 2 ≤ zs.length) (hn : zs.length ≤ 17592186043904) (hsl : Slc w (some ⟨b, off, none⟩) c zs)
    (hc : ∀ j, j < zs.length → w.cell? ⟨b, off + j, none⟩ = some (.int .i64 (zs.getD j 0)))
    (ih : ∀ w a c zs, zs.length ≤ 17592186043904 → Slc w a c zs → zs.length ≤ n → Calls Try.prog 14 #[.agg #[.int .i64 (nt 4), .func (.func 24) #[] #[]], .slice a zs.length c] w (RetSw 4 n zs w)) (hln : zs.length ≤ n + 1) :
    Calls Try.prog 14 #[.agg #[.int .i64 (nt 4), .func (.func 24) #[] #[]], .slice (some ⟨b, off, none⟩) zs.length c] w (RetSw 4 (n + 1) zs w) := by
  obtain ⟨V, hV⟩ : ∃ V, V = (w.alloc (.cells #[.int .i64 (nt 4), .func (.func 24) #[] #[]] 43)) := ⟨_, rfl⟩
  have hbV : Below w.heap.size w V := by rw [hV]; exact belowAlloc _ _
  have hzV : V.heap.size = w.heap.size + 1 := by rw [hV]; simp
  have hop : V.heap[w.heap.size]? = some (.cells #[.int .i64 (nt 4), .func (.func 24) #[] #[]] 43 (0, 0)) := by rw [hV]; exact heap_alloc_new _ _
  have k0 := two_c0 hop
  have k1 := two_c1 hop
  have HV := Lib.hid hV
  clear hV
  have hall : allF 4 (n + 1) zs = allF 4 n (pairsP 4 zs) := by
    match zs, h2 with
    | _ :: _ :: _, _ => rfl
  obtain ⟨len, hlen⟩ : ∃ len, len = zs.length := ⟨_, rfl⟩
  obtain ⟨m, hm⟩ : ∃ m, m = (len + 1) / 2 := ⟨_, rfl⟩
  have hpl := pairsP_length 4 zs
  rw [← hlen, ← hm] at hpl
  have hsl1 := hsl.up hbV
  have Hp := Lib.hid (fun W (hB : Below V.heap.size V W) => pairs_any4 W (nt 4) (some ⟨b, off, none⟩) c zs (by omega) (hsl1.up hB))
  have Hsw := Lib.hid (fun W a c (hs : Slc W a c (pairsP 4 zs)) => ih W a c (pairsP 4 zs) (by omega) hs (by omega))
  rw [hpl] at Hsw
  rw [← hlen] at hn h2 hc Hp ⊢
  have Hlen := Lib.hid hlen
  have Hpl := Lib.hid hpl
  have Hall := Lib.hid hall
  have Hc := Lib.hid (fun j hj => upc hbV (hc j hj))
  have hm1 : 2 * m ≤ len + 1 ∧ len ≤ 2 * m := by omega
  have hq0 : ((len : Int) == 0) = false := by simp; omega
  have hq1 : ((len : Int) == 1) = false := by simp; omega
  clear hlen hpl hall hc hsl hsl1 ih hm
  go_enter Try.func14, Try.ntmps14
  go_wp2_with fail
  rw [← HV.out]
  refine grow.wp_grow [grow.kEq (.agg #[.int .i64 (nt 4), .func (.func 24) #[] #[]]), grow.kEq (.agg #[.int .i64 (nt 4), .func (.func 24) #[] #[]]), grow.kEq (.slice (some ⟨b, off, none⟩) len c), kRow w.heap.size (pairsP 4 zs), kSw 4 n w.heap.size (pairsP 4 zs), kSw 4 n w.heap.size (pairsP 4 zs), kHalf w.heap.size (pairsP 4 zs).length, grow.kEq (.int .i64 (allF 4 n (pairsP 4 zs))), kHalf w.heap.size (pairsP 4 zs).length, grow.kEq (.int .i64 (allF 4 n (pairsP 4 zs)))] (by kernel_rfl) (by kernel_rfl) (by kernel_rfl) (by kernel_rfl) ?step ?fin
  case step =>
    refine grow.Each.cons ?_ ?_
    · intro A W hB hs hJ K hK
      have s0 := hs 2 (by kernel_rfl)
      simp at s0
      have kk0 := upc hB k0
      have kk1 := upc hB k1
      rw [if_pos (by rfl)]
      clear hs hJ
      go_simp
      exact hK _ _ (Below.refl _ _) rfl
    refine grow.Each.cons ?_ ?_
    · intro A W hB hs hJ K hK
      have s0 := hs 2 (by kernel_rfl)
      simp at s0
      have kk0 := upc hB k0
      have kk1 := upc hB k1
      rw [if_pos (by rfl)]
      clear hs hJ
      go_simp
      exact hK _ _ (Below.refl _ _) rfl
    refine grow.Each.cons ?_ ?_
    · intro A W hB hs hJ K hK
      have s0 := hs 1 (by kernel_rfl)
      simp at s0
      rw [if_pos (by rfl)]
      clear hs hJ
      go_simp
      exact hK _ _ (Below.refl _ _) rfl
    refine grow.Each.cons ?_ ?_
    · intro A W hB hs hJ K hK
      have s0 : A.tmps.getD 32 undef = .agg #[.int .i64 (nt 4), .func (.func 24) #[] #[]] := hJ 1 32 (by kernel_rfl) (by kernel_rfl)
      simp at s0
      have s1 : A.tmps.getD 33 undef = .slice (some ⟨b, off, none⟩) len c := hJ 2 33 (by kernel_rfl) (by kernel_rfl)
      simp at s1
      rw [if_pos (by rfl)]
      clear hs hJ
      go_simp
      go_at_call 16
      refine (Hp.out W hB).mono ?_
      rintro e W2 ⟨aP, cP, rfl, hoP, hbP⟩
      exact hK _ _ hbP ⟨aP, cP, rfl, ownI_low hoP (by have := hB.size; omega)⟩
    refine grow.Each.cons ?_ ?_
    · intro A W hB hs hJ K hK
      have s0 : A.tmps.getD 31 undef = .agg #[.int .i64 (nt 4), .func (.func 24) #[] #[]] := hJ 0 31 (by kernel_rfl) (by kernel_rfl)
      simp at s0
      obtain ⟨aP, cP, s1, hP⟩ := hJ 3 34 (by kernel_rfl) (by kernel_rfl)
      simp at s1
      rw [Hpl.out] at s1
      rw [if_pos (by rfl)]
      clear hs hJ
      go_simp
      go_at_call 14
      refine (Hsw.out W _ _ (OwnI.slc hP).1).mono ?_
      rintro e W2 ⟨aS, cS, oS, rfl, hoS, hlS, hbS⟩
      exact hK _ _ hbS ⟨aS, cS, oS, rfl, ownI_low hoS (by have := hB.size; omega), hlS⟩
    refine grow.Each.cons ?_ ?_
    · intro A W hB hs hJ K hK
      obtain ⟨aS, cS, oS, s0, hS, hL⟩ := hJ 4 35 (by kernel_rfl) (by kernel_rfl)
      simp at s0
      rw [if_pos (by rfl)]
      clear hs hJ
      go_simp
      exact hK _ _ (Below.refl _ _) ⟨aS, cS, oS, rfl, hS, hL⟩
    refine grow.Each.cons ?_ ?_
    · intro A W hB hs hJ K hK
      obtain ⟨aS, cS, oS, s0, hS, hL⟩ := hJ 5 30 (by kernel_rfl) (by kernel_rfl)
      simp at s0
      rw [if_pos (by rfl)]
      clear hs hJ
      go_simp
      exact hK _ _ (Below.refl _ _) ⟨aS, cS, oS, rfl, hS, hL⟩
    refine grow.Each.cons ?_ ?_
    · intro A W hB hs hJ K hK
      obtain ⟨aS, cS, oS, s0, hS, hL⟩ := hJ 5 30 (by kernel_rfl) (by kernel_rfl)
      simp at s0
      rw [if_pos (by rfl)]
      clear hs hJ
      go_simp
      exact hK _ _ (Below.refl _ _) rfl
    refine grow.Each.cons ?_ ?_
    · intro A W hB hs hJ K hK
      obtain ⟨aS, cS, oS, s0, hS, hL⟩ := hJ 6 36 (by kernel_rfl) (by kernel_rfl)
      simp at s0
      rw [if_pos (by rfl)]
      clear hs hJ
      go_simp
      exact hK _ _ (Below.refl _ _) ⟨aS, cS, oS, rfl, hS, hL⟩
    refine grow.Each.cons ?_ ?_
    · intro A W hB hs hJ K hK
      have s0 : A.tmps.getD 37 undef = .int .i64 (allF 4 n (pairsP 4 zs)) := hJ 7 37 (by kernel_rfl) (by kernel_rfl)
      simp at s0
      rw [if_pos (by rfl)]
      clear hs hJ
      go_simp
      exact hK _ _ (Below.refl _ _) rfl
    exact grow.Each.nil
  case fin =>
    intro f W hB hF
    have f0 : f 0 = .agg #[.int .i64 (nt 4), .func (.func 24) #[] #[]] := hF 0 (by decide)
    have f1 : f 1 = .agg #[.int .i64 (nt 4), .func (.func 24) #[] #[]] := hF 1 (by decide)
    have f2 : f 2 = .slice (some ⟨b, off, none⟩) len c := hF 2 (by decide)
    obtain ⟨aP_3, cP_3, f3, -⟩ := hF 3 (by decide)
    obtain ⟨aS_4, cS_4, oS_4, f4, -, -⟩ := hF 4 (by decide)
    obtain ⟨aS_5, cS_5, oS_5, f5, -, -⟩ := hF 5 (by decide)
    obtain ⟨aS_6, cS_6, oS_6, f6, -, -⟩ := hF 6 (by decide)
    have f7 : f 7 = .int .i64 (allF 4 n (pairsP 4 zs)) := hF 7 (by decide)
    obtain ⟨aS_8, cS_8, oS_8, f8, hS_8, hL_8⟩ := hF 8 (by decide)
    have f9 : f 9 = .int .i64 (allF 4 n (pairsP 4 zs)) := hF 9 (by decide)
    clear hF
    generalize hA : grow.puts _ _ f _ = A'
    simp only [List.length_cons, List.length_nil, Nat.reduceAdd, grow.puts, Act.put, List.getElem?_toArray, List.getElem?_cons_zero, List.getElem?_cons_succ, Option.bind_some, List.setIfInBounds_toArray, List.set_cons_zero, List.set_cons_succ, f0, f1, f2, f3, f4, f5, f6, f7, f8, f9] at hA
    subst hA
    rw [Hpl.out] at hS_8 hL_8 ⊢
    have hsS := (OwnI.slc hS_8).1
    obtain ⟨bS, oS, rfl, hcS⟩ := hsS.at (by omega)
    rw [hL_8] at hcS
    have HcS := Lib.hid hcS
    have hbW := belowTrans hbV hB
    have hzW := hB.size
    have hzW2 := hbW.size
    have HbW := Lib.hid hbW
    have HB := Lib.hid hB
    obtain ⟨i0, hi, hz0, hz1, hz2⟩ := info_parts infoInt
    have Hi := Lib.hid (And.intro hi (And.intro hz0 (And.intro hz1 hz2)))
    clear hi hz0 hz1 hz2 hcS hsS hS_8 hL_8 hbW hB hop Hp Hsw f0 f1 f2 f3 f4 f5 f6 f7 f8 f9 hbV
    have kop := upc HB.out k1
    clear k0 k1
    go_wp2_with fail
    go_loopw [8, 40] (fun v i wr => ∃ (j : Nat) (xs : List Int), j ≤ len ∧ i = .int .i64 j ∧ Hid (xs.length = j ∧ wr.ownsRow W.heap.size 3 1 v j (xs.map (Value.int .i64)) ∧ Below W.heap.size W wr)) (fun _ i _ => len - (intOf i).toNat)
    case atStart => exact ⟨0, [], Nat.zero_le _, rfl, Lib.hid ⟨rfl, World.ownsRow_nil _ _ _ _, Below.refl _ _⟩⟩
    case round =>
      obtain ⟨j, xs, hj, rfl, Hx⟩ := hrel
      by_cases hlt : j < len
      · have d0 : (0 : Int) ≤ (j : Int) := by omega
        have d1 : (j : Int) < (len : Int) := by omega
        have d2 : (len : Int) ≤ 17592186043904 := by omega
        have dm0 : (0 : Int) ≤ (j : Int) / 2 := by omega
        have dm1 : (j : Int) / 2 < (m : Int) := by omega
        have dt : ((j : Int) / 2).toNat = j / 2 := by omega
        have dm : j / 2 < m := by omega
        have kh := upc Hx.out.2.2 (HcS.out (j / 2) (by omega))
        generalize oS_8.getD (j / 2) 0 = y at kh
        have kop2 := upc Hx.out.2.2 kop
        have hsx := Hx.out.2.2.size
        by_cases hp : j % 2 = 1
        · obtain ⟨i, hij⟩ : ∃ i, i + 1 = j := ⟨j - 1, by omega⟩
          have kl := upc Hx.out.2.2 (upc HB.out (Hc.out i (by omega)))
          generalize zs.getD i 0 = z at kl
          have dr : ((j : Int) % 2 == 1) = true := by simp; omega
          have di0 : (0 : Int) ≤ (i : Int) := by omega
          have di1 : (i : Int) < (len : Int) := by omega
          have dj : (j : Int) - 1 = (i : Int) := by omega
          have dw : IntKind.i64.wrap ((j : Int) - 1) = (i : Int) := by rw [dj]; exact IntWalk.i64_in _ (by omega)
          clear hp hij
          go_wp2_with fail
          go_quiet ((go_at_call 24; exact quietOf (take4 _ _ _)))
          obtain ⟨wq, hwq⟩ : ∃ wq, wq = wr.drewN nq := ⟨_, rfl⟩
          rw [← hwq]
          have hbq : Below wr.heap.size wr wq := by rw [hwq]; exact belowDrewN _ _
          have Hxq : Hid (xs.length = j ∧ wq.ownsRow W.heap.size 3 1 u8 j (xs.map (Value.int .i64)) ∧ Below W.heap.size W wq) := Lib.hid ⟨Hx.out.1, rowUp Hx.out.2.1 hbq, Hx.out.2.2.trans (hbq.mono hsx)⟩
          clear hwq hbq Hx kh kop2 kl hsx
          go_wp2_with (at_builtin; refine wpList_append_own _ rfl (.tmp 60) (.tmp 62) 22 rfl W.heap.size 3 i0 (.int .i64 0) 1 8 Try.underlying22 Hi.out.1 Hi.out.2.1 Hi.out.2.2.1 Hi.out.2.2.2 rfl (by decide) _ j _ rfl (Hxq.out.2.1.alloc _) ⟨wq.heap.size, 0, none⟩ 1 1 [.int .i64 (ap 4 y z)] rfl rfl (cell_one_new _ _ _) (by simp [Value.oneCell']) (by unfold maxLen; omega) (by omega) (by have := Hxq.out.2.2.size; simp; omega) ?_; intro v' w2 hown' hgrow hnil; clear hnil; have Hx2 : Hid ((xs ++ [ap 4 y z]).length = j + 1 ∧ w2.ownsRow W.heap.size 3 1 v' (j + 1) ((xs ++ [ap 4 y z]).map (Value.int .i64)) ∧ Below W.heap.size W w2) := Lib.hid ⟨by rw [List.length_append, Hxq.out.1]; rfl, by rw [List.map_append]; exact hown', Below.grown (Hxq.out.2.2.trans (Below.alloc (Below.refl _ _) Hxq.out.2.2.size _)) hgrow (by have := Hxq.out.2.2.size; simp; omega) (fun b hb => (Hxq.out.2.1.lt b hb).1)⟩; clear hown' hgrow)
          go_roundw
          case rel => exact ⟨j + 1, xs ++ [ap 4 y z], by omega, by go_num, Hx2⟩
          case measure => simp [intOf]; omega
        · have dr : ((j : Int) % 2 == 1) = false := by simp; omega
          clear hp
          go_wp2_with (at_builtin; refine wpList_append_own _ rfl (.tmp 60) (.tmp 62) 22 rfl W.heap.size 3 i0 (.int .i64 0) 1 8 Try.underlying22 Hi.out.1 Hi.out.2.1 Hi.out.2.2.1 Hi.out.2.2.2 rfl (by decide) _ j _ rfl (Hx.out.2.1.alloc _) ⟨wr.heap.size, 0, none⟩ 1 1 [.int .i64 (y)] rfl rfl (cell_one_new _ _ _) (by simp [Value.oneCell']) (by unfold maxLen; omega) (by omega) (by have := Hx.out.2.2.size; simp; omega) ?_; intro v' w2 hown' hgrow hnil; clear hnil; have Hx2 : Hid ((xs ++ [y]).length = j + 1 ∧ w2.ownsRow W.heap.size 3 1 v' (j + 1) ((xs ++ [y]).map (Value.int .i64)) ∧ Below W.heap.size W w2) := Lib.hid ⟨by rw [List.length_append, Hx.out.1]; rfl, by rw [List.map_append]; exact hown', Below.grown (Hx.out.2.2.trans (Below.alloc (Below.refl _ _) Hx.out.2.2.size _)) hgrow (by have := Hx.out.2.2.size; simp; omega) (fun b hb => (Hx.out.2.1.lt b hb).1)⟩; clear hown' hgrow)
          go_roundw
          case rel => exact ⟨j + 1, xs ++ [y], by omega, by go_num, Hx2⟩
          case measure => simp [intOf]; omega
      · have hjl : j = len := by omega
        rw [hjl] at Hx
        clear hjl hj
        have hlx := Hx.out.1
        have hoX : OwnI 3 wr W.heap.size u8 xs := by rw [OwnI, Hx.out.1]; exact Hx.out.2.1
        obtain ⟨aE, cE, rfl, _⟩ := hoX.form
        have HoX := Lib.hid hoX
        clear hoX
        have HlX := Lib.hid hlx
        clear hlx
        go_wp2_with fail
        go_ret2
        refine ⟨aE, cE, xs, ?_, ?_, by rw [HlX.out, Hlen.out], HbW.out.trans (Hx.out.2.2.mono hzW2)⟩
        · rw [Hall.out, HlX.out, ← Hlen.out]; rfl
        · have h := ownI_low HoX.out hzW2
          rw [HlX.out] at h
          rw [← Hlen.out]
          exact h

theorem sweep_any4 (n : Nat) : ∀ (w : World) (a : Option Addr) (c : Nat) (zs : List Int), zs.length ≤ 17592186043904 → Slc w a c zs → zs.length ≤ n →
    Calls Try.prog 14 #[.agg #[.int .i64 (nt 4), .func (.func 24) #[] #[]], .slice a zs.length c] w (RetSw 4 n zs w) := by
  have zero : ∀ (n : Nat) (w : World) (a : Option Addr) (c : Nat), Calls Try.prog 14 #[.agg #[.int .i64 (nt 4), .func (.func 24) #[] #[]], .slice a 0 c] w (RetSw 4 n [] w) := fun n w a c => by
    have h := sweep4_nil 0 w a c
    have e : allF 4 1 [] = allF 4 n [] := by cases n <;> rfl
    unfold RetSw at h ⊢
    rw [e] at h
    exact h
  induction n with
  | zero =>
    intro w a c zs _ _ hl
    obtain rfl : zs = [] := List.eq_nil_of_length_eq_zero (by omega)
    exact zero 0 w a c
  | succ n ih =>
    intro w a c zs hn hs hl
    match zs, hn, hs, hl with
    | [], _, _, _ => exact zero (n + 1) w a c
    | [x], hn, hs, _ =>
      obtain ⟨b, off, rfl, hc⟩ := hs.at (by simp)
      exact sweep4_one n w b off c x (by simpa using hc 0 (by simp))
    | x :: y :: zs, hn, hs, hl =>
      obtain ⟨b, off, rfl, hc⟩ := hs.at (by simp)
      exact sweep4_many n w b off c (x :: y :: zs) (by simp) hn hs hc ih hl

end Go.Proofs.Ytnnpeblpdkeffaa.scan
