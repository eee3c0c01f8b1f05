/- (hamt.Map).Each over the law's three closures. (Printed by he.py.) -/
import Derived.Test.YtenaddjnaeebbaaHamtEach
namespace Go.Proofs.Ytenaddjnaeebbaa.hamt
open Go.RowKit
open pat (PT OOk ocnt olist oput odrop oget tk I64 tk_lt tk_inj lk told Yes fill fill_snoc fill_ok fill_cnt oput_spec)

theorem mkE_lk (fu : Int → Int → Int) (L : PL) (k : Int) : lkI (mkE fu L) k = (lkI L k).map (fu k) := by
  induction L with
  | nil => rfl
  | cons p r ih =>
    unfold mkE at ih ⊢
    rw [List.map_cons, lkI, lkI]
    by_cases e : p.1 = k
    · simp [e]
    · simp [e, ih]
theorem fill_lkI (l : PL) (hr : ∀ p ∈ l, I64 p.1) : ∀ o, OOk o → ∀ k, I64 k → lk (olist (fill o l)) (tk k) = (lkI l.reverse k).or (lk (olist o) (tk k)) := by
  induction l with
  | nil => intro o _ k _; rfl
  | cons p r ih =>
    intro o ho k hk
    have hp : I64 p.1 := hr p List.mem_cons_self
    obtain ⟨h1, h2⟩ := oput_spec ho (tk_lt hp) p.2
    have h3 := ih (fun q hq => hr q (List.mem_cons_of_mem _ hq)) (some (oput o (tk p.1) p.2)) h1 k hk
    have e0 : fill o (p :: r) = fill (some (oput o (tk p.1) p.2)) r := rfl
    rw [e0, h3, List.reverse_cons, lkI_append, Option.or_assoc]
    congr 1
    show lk (oput o (tk p.1) p.2).list (tk k) = _
    rw [h2]
    by_cases e : k = p.1
    · subst e
      simp [lkI]
    · rw [if_neg (fun h => e (tk_inj hk hp h))]
      have : lkI [p] k = none := by simp [lkI, Ne.symm e]
      rw [this]
      rfl
theorem dis_reverse {l : PL} (h : Dis l) (k : Int) : lkI l.reverse k = lkI l k := by
  cases e : lkI l k with
  | none =>
    refine lkI_none fun p hp he => ?_
    have := h.lk (k := p.1) (v := p.2) (List.mem_reverse.1 hp)
    rw [he, e] at this
    cases this
  | some v =>
    have hd : Dis l.reverse := by
      unfold Dis at *
      rw [List.pairwise_reverse]
      exact h.imp fun h e => h e.symm
    exact hd.lk (List.mem_reverse.2 (lkI_mem e))
theorem mkE_dis {fu : Int → Int → Int} {L : PL} (h : Dis L) : Dis (mkE fu L) := by
  unfold Dis mkE at *
  rw [List.pairwise_map]
  exact h
theorem eo_lk {fu : Int → Int → Int} {L : PL} {o : Option PT} (hs : Std L o) {k : Int} (hk : I64 k) : lk (olist (eo fu L)) (tk k) = (lk (olist o) (tk k)).map (fu k) := by
  unfold eo
  rw [fill_lkI _ (fun p hp => by
    obtain ⟨q, hq, rfl⟩ := List.mem_map.1 hp
    exact hs.rng q hq) none trivial k hk, dis_reverse (mkE_dis hs.dis), mkE_lk, hs.lk k hk]
  cases lk (olist o) (tk k) <;> rfl
/-- key by key -/
def EachOf (fu : Int → Int → Int) (o o' : Option PT) : Prop := OOk o' ∧ ocnt o' ≤ ocnt o ∧ ∀ k, I64 k → lk (olist o') (tk k) = (lk (olist o) (tk k)).map (fu k)
def RetE (B : Nat) (w : World) (fu : Int → Int → Int) (o : Option PT) (e : Ending) (w' : World) : Prop := ∃ q o', e = .returned (.agg #[.pointer q]) ∧ HO B w' q o' ∧ EachOf fu o o' ∧ Below w.heap.size w w'
/-- what the makings ahead of the walk leave -/
structure ES (g : Nat) (caps : Array Value) (p : Option Addr) (w Z : World) : Prop where
  bel : Below w.heap.size w Z
  c0 : Z.heap[w.heap.size]? = some (.cells #[.pointer p] 25 (0, 0))
  c1 : Z.heap[w.heap.size + 1]? = some (.cells #[.func (.func g) #[] caps] 36 (0, 0))
  c2 : Z.heap[w.heap.size + 2]? = some (.cells #[.pointer none] 25 (0, 0))
  c3 : Z.heap[w.heap.size + 3]? = some (.cells #[.pointer none] 25 (0, 0))
  sz : Z.heap.size = w.heap.size + 4
theorem Fun.up {w0 w : World} {g : Nat} {caps : Array Value} {f : Int → Int → Int} (h : Fun w0 g caps f) (hb : Below w0.heap.size w0 w) : Fun w g caps f := fun k v W hW => h k v W (hb.trans (hW.mono hb.size))
/-- the world ahead of the last making -/
structure ET (g : Nat) (caps : Array Value) (p : Option Addr) (w Y Z : World) : Prop where
  bel : Below w.heap.size w Y
  b2 : Below Y.heap.size Y Z
  c2 : Y.heap[w.heap.size + 2]? = some (.cells #[.pointer none] 25 (0, 0))
  sz : Y.heap.size = w.heap.size + 3
theorem ET.of (g : Nat) (caps : Array Value) (p : Option Addr) (w : World) : ET g caps p w (((w.alloc (.cells #[.pointer p] 25)).alloc (.cells #[.func (.func g) #[] caps] 36)).alloc (.cells #[.pointer none] 25)) ((((w.alloc (.cells #[.pointer p] 25)).alloc (.cells #[.func (.func g) #[] caps] 36)).alloc (.cells #[.pointer none] 25)).alloc (.cells #[.pointer none] 25)) := by
  refine ⟨belowTrans (belowAlloc w _) (belowTrans (belowAlloc _ _) (belowAlloc _ _)), belowAlloc _ _, ?_, by simp⟩
  have h := heap_alloc_new ((w.alloc (.cells #[.pointer p] 25)).alloc (.cells #[.func (.func g) #[] caps] 36)) (.cells #[.pointer none] 25)
  simpa using h
theorem ES.of (g : Nat) (caps : Array Value) (p : Option Addr) (w : World) : ES g caps p w ((((w.alloc (.cells #[.pointer p] 25)).alloc (.cells #[.func (.func g) #[] caps] 36)).alloc (.cells #[.pointer none] 25)).alloc (.cells #[.pointer none] 25)) := by
  have e1 := belowAlloc w (.cells #[.pointer p] 25)
  have e2 := belowAlloc (w.alloc (.cells #[.pointer p] 25)) (.cells #[.func (.func g) #[] caps] 36)
  have e3 := belowAlloc ((w.alloc (.cells #[.pointer p] 25)).alloc (.cells #[.func (.func g) #[] caps] 36)) (.cells #[.pointer none] 25)
  have e4 := belowAlloc (((w.alloc (.cells #[.pointer p] 25)).alloc (.cells #[.func (.func g) #[] caps] 36)).alloc (.cells #[.pointer none] 25)) (.cells #[.pointer none] 25)
  refine ⟨belowTrans e1 (belowTrans e2 (belowTrans e3 e4)), upb (belowTrans e2 (belowTrans e3 e4)) (heap_alloc_new w _), ?_, ?_, ?_, by simp⟩
  · refine upb (belowTrans e3 e4) ?_
    have h := heap_alloc_new (w.alloc (.cells #[.pointer p] 25)) (.cells #[.func (.func g) #[] caps] 36)
    simpa using h
  · refine upb e4 ?_
    have h := heap_alloc_new ((w.alloc (.cells #[.pointer p] 25)).alloc (.cells #[.func (.func g) #[] caps] 36)) (.cells #[.pointer none] 25)
    simpa using h
  · have h := heap_alloc_new (((w.alloc (.cells #[.pointer p] 25)).alloc (.cells #[.func (.func g) #[] caps] 36)).alloc (.cells #[.pointer none] 25)) (.cells #[.pointer none] 25)
    simpa using h
set_option maxRecDepth 100000 in
set_option maxHeartbeats 4000000 in
theorem each_one1 (O F B : Nat) (a1 : Option Addr) (fu : Int → Int → Int) (w0 : World) (hf : Fun w0 15 #[.pointer a1] fu) (xs : PL) (k v : Int) (w : World) (h : EI O F B 15 #[.pointer a1] fu w0 xs w) (hk : I64 k) (hn : xs.length + 1 ≤ 8796093021999) :
    Calls Try.prog 36 #[.agg #[.int .i64 k, .int .i64 v], .pointer (some ⟨O, 0, none⟩), .pointer (some ⟨F, 0, none⟩)] w fun e w' => e = .returned (.tuple #[]) ∧ EI O F B 15 #[.pointer a1] fu w0 (xs ++ [(k, v)]) w' := by
  obtain ⟨Z, hZ⟩ : ∃ Z, Z = w.alloc (.cells #[.int .i64 k, .int .i64 v] 31) := ⟨_, rfl⟩
  have hb1 : Below w.heap.size w Z := by rw [hZ]; exact belowAlloc w _
  have h1 := h.up hb1
  obtain ⟨u, hu⟩ : ∃ u, u = w.heap.size := ⟨_, rfl⟩
  have n0 : Z.cell? ⟨w.heap.size, 0, none⟩ = some (.int .i64 k) := by rw [hZ]; exact two_c0 (heap_alloc_new w (.cells #[.int .i64 k, .int .i64 v] 31))
  have n1 : Z.cell? ⟨w.heap.size, 1, none⟩ = some (.int .i64 v) := by rw [hZ]; exact two_c1 (heap_alloc_new w (.cells #[.int .i64 k, .int .i64 v] 31))
  obtain ⟨p, hO, hp⟩ := h1.cO
  have kO := cell_of_one hO
  have kF := cell_of_one h1.cF
  have HH := Lib.hid (And.intro h1 (And.intro hO (And.intro hp hk)))
  have HF := Lib.hid (fun W (hW : Below Z.heap.size Z W) => hf k v W (h1.bel.trans (hW.mono h1.bel.size)))
  have HP := Lib.hid (fun W (hW : Below Z.heap.size Z W) => Put_any B W p (eo fu xs) k (fu k v) (Nat.le_trans h1.hB (Nat.le_trans h1.bel.size hW.size)) (hp.up hW) (eo_ok fu xs h1.ks) hk (by have := eo_cnt fu xs; omega))
  obtain ⟨fv, hfv⟩ : ∃ y, y = fu k v := ⟨_, rfl⟩
  rw [← hfv] at HF HP
  have HF : Hid (∀ W, Below Z.heap.size Z W → Calls Try.prog 15 (#[.int .i64 k, .int .i64 v, .pointer a1]) W fun e W' => e = .returned (.int .i64 fv) ∧ Below W.heap.size W W') := Lib.hid (fun W hW => by simpa using HF.out W hW)
  have HV := Lib.hid hfv
  have HZ := Lib.hid hZ
  clear h hb1 h1 hO hp hk hf hu hfv hZ
  go_enter Try.func36, Try.ntmps36
  go_wp2_with fail
  rw [← HZ.out]
  refine grow.wp_grow_last 10 _ [grow.kEq (.agg #[.pointer p]), grow.kEq (.pointer (some ⟨w.heap.size, 0, none⟩)), grow.kEq (.int .i64 k), grow.kEq (.func (.func 15) #[] #[.pointer a1]), grow.kEq (.pointer (some ⟨w.heap.size, 0, none⟩)), grow.kEq (.int .i64 k), grow.kEq (.pointer (some ⟨w.heap.size, 1, none⟩)), grow.kEq (.int .i64 v), grow.kEq (.int .i64 fv), kMap B (some (oput (eo fu xs) (tk k) fv))] rfl rfl rfl (by kernel_rfl) (by kernel_rfl) (by kernel_rfl) (by kernel_rfl) (by kernel_rfl) ?step ?fin
  case step =>
    refine grow.EachL.cons ?_ ?_
    · intro A W hB hs hJ K hK
      have s0 := hs 1 (by kernel_rfl)
      simp at s0
      have kk := upc hB kO
      rw [if_pos (by rfl)]
      clear hs hJ
      go_simp
      exact hK _ _ (Below.refl _ _) rfl
    refine grow.EachL.cons ?_ ?_
    · intro A W hB hs hJ K hK
      have s0 := hs 3 (by kernel_rfl)
      simp at s0
      rw [if_pos (by rfl)]
      clear hs hJ
      go_simp
      exact hK _ _ (Below.refl _ _) rfl
    refine grow.EachL.cons ?_ ?_
    · intro A W hB hs hJ K hK
      have s0 : A.tmps.getD 5 undef = .pointer (some ⟨w.heap.size, 0, none⟩) := hJ 1 5 (by kernel_rfl) (by kernel_rfl)
      simp at s0
      have kk := upc hB n0
      rw [if_pos (by rfl)]
      clear hs hJ
      go_simp
      exact hK _ _ (Below.refl _ _) rfl
    refine grow.EachL.cons ?_ ?_
    · intro A W hB hs hJ K hK
      have s0 := hs 2 (by kernel_rfl)
      simp at s0
      have kk := upc hB kF
      rw [if_pos (by rfl)]
      clear hs hJ
      go_simp
      exact hK _ _ (Below.refl _ _) rfl
    refine grow.EachL.cons ?_ ?_
    · intro A W hB hs hJ K hK
      have s0 := hs 3 (by kernel_rfl)
      simp at s0
      rw [if_pos (by rfl)]
      clear hs hJ
      go_simp
      exact hK _ _ (Below.refl _ _) rfl
    refine grow.EachL.cons ?_ ?_
    · intro A W hB hs hJ K hK
      have s0 : A.tmps.getD 8 undef = .pointer (some ⟨w.heap.size, 0, none⟩) := hJ 4 8 (by kernel_rfl) (by kernel_rfl)
      simp at s0
      have kk := upc hB n0
      rw [if_pos (by rfl)]
      clear hs hJ
      go_simp
      exact hK _ _ (Below.refl _ _) rfl
    refine grow.EachL.cons ?_ ?_
    · intro A W hB hs hJ K hK
      have s0 := hs 3 (by kernel_rfl)
      simp at s0
      rw [if_pos (by rfl)]
      clear hs hJ
      go_simp
      exact hK _ _ (Below.refl _ _) rfl
    refine grow.EachL.cons ?_ ?_
    · intro A W hB hs hJ K hK
      have s0 : A.tmps.getD 10 undef = .pointer (some ⟨w.heap.size, 1, none⟩) := hJ 6 10 (by kernel_rfl) (by kernel_rfl)
      simp at s0
      have kk := upc hB n1
      rw [if_pos (by rfl)]
      clear hs hJ
      go_simp
      exact hK _ _ (Below.refl _ _) rfl
    refine grow.EachL.cons ?_ ?_
    · intro A W hB hs hJ K hK
      have s0 : A.tmps.getD 7 undef = .func (.func 15) #[] #[.pointer a1] := hJ 3 7 (by kernel_rfl) (by kernel_rfl)
      simp at s0
      have s1 : A.tmps.getD 9 undef = .int .i64 k := hJ 5 9 (by kernel_rfl) (by kernel_rfl)
      simp at s1
      have s2 : A.tmps.getD 11 undef = .int .i64 v := hJ 7 11 (by kernel_rfl) (by kernel_rfl)
      simp at s2
      rw [if_pos (by rfl)]
      clear hs hJ
      go_simp
      refine (HF.out W hB).mono ?_
      rintro e W2 ⟨rfl, hb2⟩
      exact hK _ _ hb2 rfl
    refine grow.EachL.cons ?_ ?_
    · intro A W hB hs hJ K hK
      have s0 : A.tmps.getD 4 undef = .agg #[.pointer p] := hJ 0 4 (by kernel_rfl) (by kernel_rfl)
      simp at s0
      have s1 : A.tmps.getD 6 undef = .int .i64 k := hJ 2 6 (by kernel_rfl) (by kernel_rfl)
      simp at s1
      have s2 : A.tmps.getD 12 undef = .int .i64 fv := hJ 8 12 (by kernel_rfl) (by kernel_rfl)
      simp at s2
      rw [if_pos (by rfl)]
      clear hs hJ
      go_simp
      go_at_call 9
      refine (HP.out W hB).mono ?_
      rintro e W2 ⟨p3, rfl, hp3, hb3⟩
      exact hK _ _ hb3 ⟨p3, rfl, hp3⟩
    exact grow.EachL.nil
  case fin =>
    intro f W hB hF
    have f0 : f 0 = .agg #[.pointer p] := hF 0 (by decide)
    have f1 : f 1 = .pointer (some ⟨w.heap.size, 0, none⟩) := hF 1 (by decide)
    have f2 : f 2 = .int .i64 k := hF 2 (by decide)
    have f3 : f 3 = .func (.func 15) #[] #[.pointer a1] := hF 3 (by decide)
    have f4 : f 4 = .pointer (some ⟨w.heap.size, 0, none⟩) := hF 4 (by decide)
    have f5 : f 5 = .int .i64 k := hF 5 (by decide)
    have f6 : f 6 = .pointer (some ⟨w.heap.size, 1, none⟩) := hF 6 (by decide)
    have f7 : f 7 = .int .i64 v := hF 7 (by decide)
    have f8 : f 8 = .int .i64 fv := hF 8 (by decide)
    obtain ⟨q_9, f9, hq_9⟩ := hF 9 (by decide)
    clear hF
    intro A hA
    simp only [grow.puts, Act.put, List.getElem?_toArray, List.getElem?_cons_zero, List.getElem?_cons_succ, Option.bind_some, List.setIfInBounds_toArray, List.set_cons_zero, List.set_cons_succ, f0, f1, f2, f3, f4, f5, f6, f7, f8, f9] at hA
    subst hA
    have c0 := upc hB kO
    have f0 := free_of_one (upb hB HH.out.2.1)
    have HN : Hid (EI O F B 15 #[.pointer a1] fu w0 (xs ++ [(k, v)]) (W.setCell ⟨O, 0, none⟩ (.pointer q_9))) := Lib.hid ((HH.out.1.up hB).next HH.out.2.2.2 (by rw [← HV.out]; exact hq_9))
    clear hq_9 n0 n1 kO kF HP HF HH HV
    go_simp
    go_wp2_with fail
    go_end0
    exact ⟨rfl, HN.out⟩

theorem each_vis1 (O F B : Nat) (a1 : Option Addr) (fu : Int → Int → Int) (w0 : World) (hf : Fun w0 15 #[.pointer a1] fu) : VisK 36 #[.pointer (some ⟨O, 0, none⟩), .pointer (some ⟨F, 0, none⟩)] (fun x => B ≤ x) w0 8796093021999 I64 (EI O F B 15 #[.pointer a1] fu w0) :=
  ⟨fun _ _ h => h.bel.size, fun _ _ h x _ hlt => h.bel.block x hlt, fun _ _ _ h hb => h.up hb, fun xs k v W h hk hM => each_one1 O F B a1 fu w0 hf xs k v W h hk hM⟩
set_option maxRecDepth 100000 in
set_option maxHeartbeats 4000000 in
theorem Each_any1 (B : Nat) (a1 : Option Addr) (fu : Int → Int → Int) (w : World) (hf : Fun w 15 #[.pointer a1] fu) (p : Option Addr) (o : Option PT) (h : HO B w p o) (ho : OOk o) (hB : B ≤ w.heap.size) (hc : ocnt o ≤ 8796093021999) :
    Calls Try.prog 17 #[.agg #[.pointer p], .func (.func 15) #[] #[.pointer a1]] w (RetE B w fu o) := by
  obtain ⟨L, hq, hs, _, _⟩ := h
  have hlen : L.length ≤ 8796093021999 := by rw [hs.len ho]; exact hc
  obtain ⟨Z, hZ⟩ : ∃ Z, Z = ((((w.alloc (.cells #[.pointer p] 25)).alloc (.cells #[.func (.func 15) #[] #[.pointer a1]] 36)).alloc (.cells #[.pointer none] 25)).alloc (.cells #[.pointer none] 25)) := ⟨_, rfl⟩
  obtain ⟨Y, hY⟩ : ∃ Y, Y = (((w.alloc (.cells #[.pointer p] 25)).alloc (.cells #[.func (.func 15) #[] #[.pointer a1]] 36)).alloc (.cells #[.pointer none] 25)) := ⟨_, rfl⟩
  have hT : ET 15 #[.pointer a1] p w Y Z := by rw [hZ, hY]; exact ET.of _ _ _ _
  have HT := Lib.hid hT
  have HZ := Lib.hid hZ
  have hES : ES 15 #[.pointer a1] p w Z := by rw [hZ]; exact ES.of _ _ _ _
  have HES := Lib.hid hES
  have hE0 : EI (w.heap.size + 3) (w.heap.size + 1) B 15 #[.pointer a1] fu Y [] Z := ⟨hT.b2, by have := hT.sz; omega, by omega, by have := hT.sz; omega, ⟨none, hES.c3, HO.nil _ _⟩, hES.c1, fun p hp => by cases hp⟩
  have HW : Hid (Calls Try.prog 31 #[.pointer p, .func (.func 36) #[] #[.pointer (some ⟨w.heap.size + 3, 0, none⟩), .pointer (some ⟨w.heap.size + 1, 0, none⟩)]] Z fun e w' => e = .returned (.tuple #[]) ∧ EI (w.heap.size + 3) (w.heap.size + 1) B 15 #[.pointer a1] fu Y L w') := by
    rcases hq with ⟨rfl, rfl⟩ | ⟨b, rfl, hN⟩
    · refine Lib.hid ((walk_noneE _ _).mono ?_)
      rintro e w' ⟨rfl, rfl⟩
      exact ⟨rfl, hE0⟩
    · refine Lib.hid ?_
      have h := kwalk_any (w.heap.size + 3) (w.heap.size + 1) (fun x => B ≤ x) Y 8796093021999 I64 _ (each_vis1 (w.heap.size + 3) (w.heap.size + 1) B a1 fu Y (hf.up hT.bel)) (by decide) 7 b L [] Z (hN.up hT.bel) hE0 (by simp; omega) hs.rng
      simpa using h
  have kz := cell_of_one hES.c0
  have HS := Lib.hid (And.intro hs ho)
  clear hq hs ho hlen hZ hES hE0 hf hT hY
  go_enter Try.func17, Try.ntmps17
  go_wp2_with fail
  rw [← HZ.out]
  go_wp2_with fail
  refine HW.out.mono ?_
  rintro e w1 ⟨rfl, hI⟩
  obtain ⟨q, hcO, hq⟩ := hI.cO
  have k3 := cell_of_one hcO
  have h2 : w1.heap[w.heap.size + 2]? = some (.cells #[.pointer none] 25 (0, 0)) := (hI.bel.block _ (by have := HT.out.sz; omega)).trans HT.out.c2
  have c2 := cell_of_one h2
  have f2 := free_of_one h2
  have k4 := cell_of_one (one_setCell (u := .pointer q) h2)
  have HR : Hid (RetE B w fu o (.returned (.agg #[.pointer q])) (w1.setCell ⟨w.heap.size + 2, 0, none⟩ (.pointer q))) := Lib.hid ⟨q, eo fu L, rfl, HO.store (k := w.heap.size + 2) (off := 0) h2 (by decide) hq, ⟨eo_ok fu L HS.out.1.rng, by rw [← HS.out.1.len HS.out.2]; exact eo_cnt fu L, fun k hk => eo_lk HS.out.1 hk⟩, (HT.out.bel.trans (hI.bel.mono HT.out.bel.size)).setCell (p := ⟨w.heap.size + 2, 0, none⟩) (by show _ ≤ w.heap.size + 2; omega) _⟩
  clear hI hcO hq h2 HW HT kz HS
  go_wp2_with fail
  exact bodyPost_ret (v := .agg #[.pointer q]) (by simp only [results, Try.results17]; simp [go_sem, k4]) rfl HR.out
set_option maxRecDepth 100000 in
set_option maxHeartbeats 4000000 in
theorem each_one2 (O F B : Nat) (a1 a2 : Option Addr) (fu : Int → Int → Int) (w0 : World) (hf : Fun w0 16 #[.pointer a1, .pointer a2] fu) (xs : PL) (k v : Int) (w : World) (h : EI O F B 16 #[.pointer a1, .pointer a2] fu w0 xs w) (hk : I64 k) (hn : xs.length + 1 ≤ 8796093021999) :
    Calls Try.prog 36 #[.agg #[.int .i64 k, .int .i64 v], .pointer (some ⟨O, 0, none⟩), .pointer (some ⟨F, 0, none⟩)] w fun e w' => e = .returned (.tuple #[]) ∧ EI O F B 16 #[.pointer a1, .pointer a2] fu w0 (xs ++ [(k, v)]) w' := by
  obtain ⟨Z, hZ⟩ : ∃ Z, Z = w.alloc (.cells #[.int .i64 k, .int .i64 v] 31) := ⟨_, rfl⟩
  have hb1 : Below w.heap.size w Z := by rw [hZ]; exact belowAlloc w _
  have h1 := h.up hb1
  obtain ⟨u, hu⟩ : ∃ u, u = w.heap.size := ⟨_, rfl⟩
  have n0 : Z.cell? ⟨w.heap.size, 0, none⟩ = some (.int .i64 k) := by rw [hZ]; exact two_c0 (heap_alloc_new w (.cells #[.int .i64 k, .int .i64 v] 31))
  have n1 : Z.cell? ⟨w.heap.size, 1, none⟩ = some (.int .i64 v) := by rw [hZ]; exact two_c1 (heap_alloc_new w (.cells #[.int .i64 k, .int .i64 v] 31))
  obtain ⟨p, hO, hp⟩ := h1.cO
  have kO := cell_of_one hO
  have kF := cell_of_one h1.cF
  have HH := Lib.hid (And.intro h1 (And.intro hO (And.intro hp hk)))
  have HF := Lib.hid (fun W (hW : Below Z.heap.size Z W) => hf k v W (h1.bel.trans (hW.mono h1.bel.size)))
  have HP := Lib.hid (fun W (hW : Below Z.heap.size Z W) => Put_any B W p (eo fu xs) k (fu k v) (Nat.le_trans h1.hB (Nat.le_trans h1.bel.size hW.size)) (hp.up hW) (eo_ok fu xs h1.ks) hk (by have := eo_cnt fu xs; omega))
  obtain ⟨fv, hfv⟩ : ∃ y, y = fu k v := ⟨_, rfl⟩
  rw [← hfv] at HF HP
  have HF : Hid (∀ W, Below Z.heap.size Z W → Calls Try.prog 16 (#[.int .i64 k, .int .i64 v, .pointer a1, .pointer a2]) W fun e W' => e = .returned (.int .i64 fv) ∧ Below W.heap.size W W') := Lib.hid (fun W hW => by simpa using HF.out W hW)
  have HV := Lib.hid hfv
  have HZ := Lib.hid hZ
  clear h hb1 h1 hO hp hk hf hu hfv hZ
  go_enter Try.func36, Try.ntmps36
  go_wp2_with fail
  rw [← HZ.out]
  refine grow.wp_grow_last 10 _ [grow.kEq (.agg #[.pointer p]), grow.kEq (.pointer (some ⟨w.heap.size, 0, none⟩)), grow.kEq (.int .i64 k), grow.kEq (.func (.func 16) #[] #[.pointer a1, .pointer a2]), grow.kEq (.pointer (some ⟨w.heap.size, 0, none⟩)), grow.kEq (.int .i64 k), grow.kEq (.pointer (some ⟨w.heap.size, 1, none⟩)), grow.kEq (.int .i64 v), grow.kEq (.int .i64 fv), kMap B (some (oput (eo fu xs) (tk k) fv))] rfl rfl rfl (by kernel_rfl) (by kernel_rfl) (by kernel_rfl) (by kernel_rfl) (by kernel_rfl) ?step ?fin
  case step =>
    refine grow.EachL.cons ?_ ?_
    · intro A W hB hs hJ K hK
      have s0 := hs 1 (by kernel_rfl)
      simp at s0
      have kk := upc hB kO
      rw [if_pos (by rfl)]
      clear hs hJ
      go_simp
      exact hK _ _ (Below.refl _ _) rfl
    refine grow.EachL.cons ?_ ?_
    · intro A W hB hs hJ K hK
      have s0 := hs 3 (by kernel_rfl)
      simp at s0
      rw [if_pos (by rfl)]
      clear hs hJ
      go_simp
      exact hK _ _ (Below.refl _ _) rfl
    refine grow.EachL.cons ?_ ?_
    · intro A W hB hs hJ K hK
      have s0 : A.tmps.getD 5 undef = .pointer (some ⟨w.heap.size, 0, none⟩) := hJ 1 5 (by kernel_rfl) (by kernel_rfl)
      simp at s0
      have kk := upc hB n0
      rw [if_pos (by rfl)]
      clear hs hJ
      go_simp
      exact hK _ _ (Below.refl _ _) rfl
    refine grow.EachL.cons ?_ ?_
    · intro A W hB hs hJ K hK
      have s0 := hs 2 (by kernel_rfl)
      simp at s0
      have kk := upc hB kF
      rw [if_pos (by rfl)]
      clear hs hJ
      go_simp
      exact hK _ _ (Below.refl _ _) rfl
    refine grow.EachL.cons ?_ ?_
    · intro A W hB hs hJ K hK
      have s0 := hs 3 (by kernel_rfl)
      simp at s0
      rw [if_pos (by rfl)]
      clear hs hJ
      go_simp
      exact hK _ _ (Below.refl _ _) rfl
    refine grow.EachL.cons ?_ ?_
    · intro A W hB hs hJ K hK
      have s0 : A.tmps.getD 8 undef = .pointer (some ⟨w.heap.size, 0, none⟩) := hJ 4 8 (by kernel_rfl) (by kernel_rfl)
      simp at s0
      have kk := upc hB n0
      rw [if_pos (by rfl)]
      clear hs hJ
      go_simp
      exact hK _ _ (Below.refl _ _) rfl
    refine grow.EachL.cons ?_ ?_
    · intro A W hB hs hJ K hK
      have s0 := hs 3 (by kernel_rfl)
      simp at s0
      rw [if_pos (by rfl)]
      clear hs hJ
      go_simp
      exact hK _ _ (Below.refl _ _) rfl
    refine grow.EachL.cons ?_ ?_
    · intro A W hB hs hJ K hK
      have s0 : A.tmps.getD 10 undef = .pointer (some ⟨w.heap.size, 1, none⟩) := hJ 6 10 (by kernel_rfl) (by kernel_rfl)
      simp at s0
      have kk := upc hB n1
      rw [if_pos (by rfl)]
      clear hs hJ
      go_simp
      exact hK _ _ (Below.refl _ _) rfl
    refine grow.EachL.cons ?_ ?_
    · intro A W hB hs hJ K hK
      have s0 : A.tmps.getD 7 undef = .func (.func 16) #[] #[.pointer a1, .pointer a2] := hJ 3 7 (by kernel_rfl) (by kernel_rfl)
      simp at s0
      have s1 : A.tmps.getD 9 undef = .int .i64 k := hJ 5 9 (by kernel_rfl) (by kernel_rfl)
      simp at s1
      have s2 : A.tmps.getD 11 undef = .int .i64 v := hJ 7 11 (by kernel_rfl) (by kernel_rfl)
      simp at s2
      rw [if_pos (by rfl)]
      clear hs hJ
      go_simp
      refine (HF.out W hB).mono ?_
      rintro e W2 ⟨rfl, hb2⟩
      exact hK _ _ hb2 rfl
    refine grow.EachL.cons ?_ ?_
    · intro A W hB hs hJ K hK
      have s0 : A.tmps.getD 4 undef = .agg #[.pointer p] := hJ 0 4 (by kernel_rfl) (by kernel_rfl)
      simp at s0
      have s1 : A.tmps.getD 6 undef = .int .i64 k := hJ 2 6 (by kernel_rfl) (by kernel_rfl)
      simp at s1
      have s2 : A.tmps.getD 12 undef = .int .i64 fv := hJ 8 12 (by kernel_rfl) (by kernel_rfl)
      simp at s2
      rw [if_pos (by rfl)]
      clear hs hJ
      go_simp
      go_at_call 9
      refine (HP.out W hB).mono ?_
      rintro e W2 ⟨p3, rfl, hp3, hb3⟩
      exact hK _ _ hb3 ⟨p3, rfl, hp3⟩
    exact grow.EachL.nil
  case fin =>
    intro f W hB hF
    have f0 : f 0 = .agg #[.pointer p] := hF 0 (by decide)
    have f1 : f 1 = .pointer (some ⟨w.heap.size, 0, none⟩) := hF 1 (by decide)
    have f2 : f 2 = .int .i64 k := hF 2 (by decide)
    have f3 : f 3 = .func (.func 16) #[] #[.pointer a1, .pointer a2] := hF 3 (by decide)
    have f4 : f 4 = .pointer (some ⟨w.heap.size, 0, none⟩) := hF 4 (by decide)
    have f5 : f 5 = .int .i64 k := hF 5 (by decide)
    have f6 : f 6 = .pointer (some ⟨w.heap.size, 1, none⟩) := hF 6 (by decide)
    have f7 : f 7 = .int .i64 v := hF 7 (by decide)
    have f8 : f 8 = .int .i64 fv := hF 8 (by decide)
    obtain ⟨q_9, f9, hq_9⟩ := hF 9 (by decide)
    clear hF
    intro A hA
    simp only [grow.puts, Act.put, List.getElem?_toArray, List.getElem?_cons_zero, List.getElem?_cons_succ, Option.bind_some, List.setIfInBounds_toArray, List.set_cons_zero, List.set_cons_succ, f0, f1, f2, f3, f4, f5, f6, f7, f8, f9] at hA
    subst hA
    have c0 := upc hB kO
    have f0 := free_of_one (upb hB HH.out.2.1)
    have HN : Hid (EI O F B 16 #[.pointer a1, .pointer a2] fu w0 (xs ++ [(k, v)]) (W.setCell ⟨O, 0, none⟩ (.pointer q_9))) := Lib.hid ((HH.out.1.up hB).next HH.out.2.2.2 (by rw [← HV.out]; exact hq_9))
    clear hq_9 n0 n1 kO kF HP HF HH HV
    go_simp
    go_wp2_with fail
    go_end0
    exact ⟨rfl, HN.out⟩

theorem each_vis2 (O F B : Nat) (a1 a2 : Option Addr) (fu : Int → Int → Int) (w0 : World) (hf : Fun w0 16 #[.pointer a1, .pointer a2] fu) : VisK 36 #[.pointer (some ⟨O, 0, none⟩), .pointer (some ⟨F, 0, none⟩)] (fun x => B ≤ x) w0 8796093021999 I64 (EI O F B 16 #[.pointer a1, .pointer a2] fu w0) :=
  ⟨fun _ _ h => h.bel.size, fun _ _ h x _ hlt => h.bel.block x hlt, fun _ _ _ h hb => h.up hb, fun xs k v W h hk hM => each_one2 O F B a1 a2 fu w0 hf xs k v W h hk hM⟩
set_option maxRecDepth 100000 in
set_option maxHeartbeats 4000000 in
theorem Each_any2 (B : Nat) (a1 a2 : Option Addr) (fu : Int → Int → Int) (w : World) (hf : Fun w 16 #[.pointer a1, .pointer a2] fu) (p : Option Addr) (o : Option PT) (h : HO B w p o) (ho : OOk o) (hB : B ≤ w.heap.size) (hc : ocnt o ≤ 8796093021999) :
    Calls Try.prog 17 #[.agg #[.pointer p], .func (.func 16) #[] #[.pointer a1, .pointer a2]] w (RetE B w fu o) := by
  obtain ⟨L, hq, hs, _, _⟩ := h
  have hlen : L.length ≤ 8796093021999 := by rw [hs.len ho]; exact hc
  obtain ⟨Z, hZ⟩ : ∃ Z, Z = ((((w.alloc (.cells #[.pointer p] 25)).alloc (.cells #[.func (.func 16) #[] #[.pointer a1, .pointer a2]] 36)).alloc (.cells #[.pointer none] 25)).alloc (.cells #[.pointer none] 25)) := ⟨_, rfl⟩
  obtain ⟨Y, hY⟩ : ∃ Y, Y = (((w.alloc (.cells #[.pointer p] 25)).alloc (.cells #[.func (.func 16) #[] #[.pointer a1, .pointer a2]] 36)).alloc (.cells #[.pointer none] 25)) := ⟨_, rfl⟩
  have hT : ET 16 #[.pointer a1, .pointer a2] p w Y Z := by rw [hZ, hY]; exact ET.of _ _ _ _
  have HT := Lib.hid hT
  have HZ := Lib.hid hZ
  have hES : ES 16 #[.pointer a1, .pointer a2] p w Z := by rw [hZ]; exact ES.of _ _ _ _
  have HES := Lib.hid hES
  have hE0 : EI (w.heap.size + 3) (w.heap.size + 1) B 16 #[.pointer a1, .pointer a2] fu Y [] Z := ⟨hT.b2, by have := hT.sz; omega, by omega, by have := hT.sz; omega, ⟨none, hES.c3, HO.nil _ _⟩, hES.c1, fun p hp => by cases hp⟩
  have HW : Hid (Calls Try.prog 31 #[.pointer p, .func (.func 36) #[] #[.pointer (some ⟨w.heap.size + 3, 0, none⟩), .pointer (some ⟨w.heap.size + 1, 0, none⟩)]] Z fun e w' => e = .returned (.tuple #[]) ∧ EI (w.heap.size + 3) (w.heap.size + 1) B 16 #[.pointer a1, .pointer a2] fu Y L w') := by
    rcases hq with ⟨rfl, rfl⟩ | ⟨b, rfl, hN⟩
    · refine Lib.hid ((walk_noneE _ _).mono ?_)
      rintro e w' ⟨rfl, rfl⟩
      exact ⟨rfl, hE0⟩
    · refine Lib.hid ?_
      have h := kwalk_any (w.heap.size + 3) (w.heap.size + 1) (fun x => B ≤ x) Y 8796093021999 I64 _ (each_vis2 (w.heap.size + 3) (w.heap.size + 1) B a1 a2 fu Y (hf.up hT.bel)) (by decide) 7 b L [] Z (hN.up hT.bel) hE0 (by simp; omega) hs.rng
      simpa using h
  have kz := cell_of_one hES.c0
  have HS := Lib.hid (And.intro hs ho)
  clear hq hs ho hlen hZ hES hE0 hf hT hY
  go_enter Try.func17, Try.ntmps17
  go_wp2_with fail
  rw [← HZ.out]
  go_wp2_with fail
  refine HW.out.mono ?_
  rintro e w1 ⟨rfl, hI⟩
  obtain ⟨q, hcO, hq⟩ := hI.cO
  have k3 := cell_of_one hcO
  have h2 : w1.heap[w.heap.size + 2]? = some (.cells #[.pointer none] 25 (0, 0)) := (hI.bel.block _ (by have := HT.out.sz; omega)).trans HT.out.c2
  have c2 := cell_of_one h2
  have f2 := free_of_one h2
  have k4 := cell_of_one (one_setCell (u := .pointer q) h2)
  have HR : Hid (RetE B w fu o (.returned (.agg #[.pointer q])) (w1.setCell ⟨w.heap.size + 2, 0, none⟩ (.pointer q))) := Lib.hid ⟨q, eo fu L, rfl, HO.store (k := w.heap.size + 2) (off := 0) h2 (by decide) hq, ⟨eo_ok fu L HS.out.1.rng, by rw [← HS.out.1.len HS.out.2]; exact eo_cnt fu L, fun k hk => eo_lk HS.out.1 hk⟩, (HT.out.bel.trans (hI.bel.mono HT.out.bel.size)).setCell (p := ⟨w.heap.size + 2, 0, none⟩) (by show _ ≤ w.heap.size + 2; omega) _⟩
  clear hI hcO hq h2 HW HT kz HS
  go_wp2_with fail
  exact bodyPost_ret (v := .agg #[.pointer q]) (by simp only [results, Try.results17]; simp [go_sem, k4]) rfl HR.out
set_option maxRecDepth 100000 in
set_option maxHeartbeats 4000000 in
theorem each_one3 (O F B : Nat) (a1 a2 : Option Addr) (fu : Int → Int → Int) (w0 : World) (hf : Fun w0 18 #[.pointer a1, .pointer a2] fu) (xs : PL) (k v : Int) (w : World) (h : EI O F B 18 #[.pointer a1, .pointer a2] fu w0 xs w) (hk : I64 k) (hn : xs.length + 1 ≤ 8796093021999) :
    Calls Try.prog 36 #[.agg #[.int .i64 k, .int .i64 v], .pointer (some ⟨O, 0, none⟩), .pointer (some ⟨F, 0, none⟩)] w fun e w' => e = .returned (.tuple #[]) ∧ EI O F B 18 #[.pointer a1, .pointer a2] fu w0 (xs ++ [(k, v)]) w' := by
  obtain ⟨Z, hZ⟩ : ∃ Z, Z = w.alloc (.cells #[.int .i64 k, .int .i64 v] 31) := ⟨_, rfl⟩
  have hb1 : Below w.heap.size w Z := by rw [hZ]; exact belowAlloc w _
  have h1 := h.up hb1
  obtain ⟨u, hu⟩ : ∃ u, u = w.heap.size := ⟨_, rfl⟩
  have n0 : Z.cell? ⟨w.heap.size, 0, none⟩ = some (.int .i64 k) := by rw [hZ]; exact two_c0 (heap_alloc_new w (.cells #[.int .i64 k, .int .i64 v] 31))
  have n1 : Z.cell? ⟨w.heap.size, 1, none⟩ = some (.int .i64 v) := by rw [hZ]; exact two_c1 (heap_alloc_new w (.cells #[.int .i64 k, .int .i64 v] 31))
  obtain ⟨p, hO, hp⟩ := h1.cO
  have kO := cell_of_one hO
  have kF := cell_of_one h1.cF
  have HH := Lib.hid (And.intro h1 (And.intro hO (And.intro hp hk)))
  have HF := Lib.hid (fun W (hW : Below Z.heap.size Z W) => hf k v W (h1.bel.trans (hW.mono h1.bel.size)))
  have HP := Lib.hid (fun W (hW : Below Z.heap.size Z W) => Put_any B W p (eo fu xs) k (fu k v) (Nat.le_trans h1.hB (Nat.le_trans h1.bel.size hW.size)) (hp.up hW) (eo_ok fu xs h1.ks) hk (by have := eo_cnt fu xs; omega))
  obtain ⟨fv, hfv⟩ : ∃ y, y = fu k v := ⟨_, rfl⟩
  rw [← hfv] at HF HP
  have HF : Hid (∀ W, Below Z.heap.size Z W → Calls Try.prog 18 (#[.int .i64 k, .int .i64 v, .pointer a1, .pointer a2]) W fun e W' => e = .returned (.int .i64 fv) ∧ Below W.heap.size W W') := Lib.hid (fun W hW => by simpa using HF.out W hW)
  have HV := Lib.hid hfv
  have HZ := Lib.hid hZ
  clear h hb1 h1 hO hp hk hf hu hfv hZ
  go_enter Try.func36, Try.ntmps36
  go_wp2_with fail
  rw [← HZ.out]
  refine grow.wp_grow_last 10 _ [grow.kEq (.agg #[.pointer p]), grow.kEq (.pointer (some ⟨w.heap.size, 0, none⟩)), grow.kEq (.int .i64 k), grow.kEq (.func (.func 18) #[] #[.pointer a1, .pointer a2]), grow.kEq (.pointer (some ⟨w.heap.size, 0, none⟩)), grow.kEq (.int .i64 k), grow.kEq (.pointer (some ⟨w.heap.size, 1, none⟩)), grow.kEq (.int .i64 v), grow.kEq (.int .i64 fv), kMap B (some (oput (eo fu xs) (tk k) fv))] rfl rfl rfl (by kernel_rfl) (by kernel_rfl) (by kernel_rfl) (by kernel_rfl) (by kernel_rfl) ?step ?fin
  case step =>
    refine grow.EachL.cons ?_ ?_
    · intro A W hB hs hJ K hK
      have s0 := hs 1 (by kernel_rfl)
      simp at s0
      have kk := upc hB kO
      rw [if_pos (by rfl)]
      clear hs hJ
      go_simp
      exact hK _ _ (Below.refl _ _) rfl
    refine grow.EachL.cons ?_ ?_
    · intro A W hB hs hJ K hK
      have s0 := hs 3 (by kernel_rfl)
      simp at s0
      rw [if_pos (by rfl)]
      clear hs hJ
      go_simp
      exact hK _ _ (Below.refl _ _) rfl
    refine grow.EachL.cons ?_ ?_
    · intro A W hB hs hJ K hK
      have s0 : A.tmps.getD 5 undef = .pointer (some ⟨w.heap.size, 0, none⟩) := hJ 1 5 (by kernel_rfl) (by kernel_rfl)
      simp at s0
      have kk := upc hB n0
      rw [if_pos (by rfl)]
      clear hs hJ
      go_simp
      exact hK _ _ (Below.refl _ _) rfl
    refine grow.EachL.cons ?_ ?_
    · intro A W hB hs hJ K hK
      have s0 := hs 2 (by kernel_rfl)
      simp at s0
      have kk := upc hB kF
      rw [if_pos (by rfl)]
      clear hs hJ
      go_simp
      exact hK _ _ (Below.refl _ _) rfl
    refine grow.EachL.cons ?_ ?_
    · intro A W hB hs hJ K hK
      have s0 := hs 3 (by kernel_rfl)
      simp at s0
      rw [if_pos (by rfl)]
      clear hs hJ
      go_simp
      exact hK _ _ (Below.refl _ _) rfl
    refine grow.EachL.cons ?_ ?_
    · intro A W hB hs hJ K hK
      have s0 : A.tmps.getD 8 undef = .pointer (some ⟨w.heap.size, 0, none⟩) := hJ 4 8 (by kernel_rfl) (by kernel_rfl)
      simp at s0
      have kk := upc hB n0
      rw [if_pos (by rfl)]
      clear hs hJ
      go_simp
      exact hK _ _ (Below.refl _ _) rfl
    refine grow.EachL.cons ?_ ?_
    · intro A W hB hs hJ K hK
      have s0 := hs 3 (by kernel_rfl)
      simp at s0
      rw [if_pos (by rfl)]
      clear hs hJ
      go_simp
      exact hK _ _ (Below.refl _ _) rfl
    refine grow.EachL.cons ?_ ?_
    · intro A W hB hs hJ K hK
      have s0 : A.tmps.getD 10 undef = .pointer (some ⟨w.heap.size, 1, none⟩) := hJ 6 10 (by kernel_rfl) (by kernel_rfl)
      simp at s0
      have kk := upc hB n1
      rw [if_pos (by rfl)]
      clear hs hJ
      go_simp
      exact hK _ _ (Below.refl _ _) rfl
    refine grow.EachL.cons ?_ ?_
    · intro A W hB hs hJ K hK
      have s0 : A.tmps.getD 7 undef = .func (.func 18) #[] #[.pointer a1, .pointer a2] := hJ 3 7 (by kernel_rfl) (by kernel_rfl)
      simp at s0
      have s1 : A.tmps.getD 9 undef = .int .i64 k := hJ 5 9 (by kernel_rfl) (by kernel_rfl)
      simp at s1
      have s2 : A.tmps.getD 11 undef = .int .i64 v := hJ 7 11 (by kernel_rfl) (by kernel_rfl)
      simp at s2
      rw [if_pos (by rfl)]
      clear hs hJ
      go_simp
      refine (HF.out W hB).mono ?_
      rintro e W2 ⟨rfl, hb2⟩
      exact hK _ _ hb2 rfl
    refine grow.EachL.cons ?_ ?_
    · intro A W hB hs hJ K hK
      have s0 : A.tmps.getD 4 undef = .agg #[.pointer p] := hJ 0 4 (by kernel_rfl) (by kernel_rfl)
      simp at s0
      have s1 : A.tmps.getD 6 undef = .int .i64 k := hJ 2 6 (by kernel_rfl) (by kernel_rfl)
      simp at s1
      have s2 : A.tmps.getD 12 undef = .int .i64 fv := hJ 8 12 (by kernel_rfl) (by kernel_rfl)
      simp at s2
      rw [if_pos (by rfl)]
      clear hs hJ
      go_simp
      go_at_call 9
      refine (HP.out W hB).mono ?_
      rintro e W2 ⟨p3, rfl, hp3, hb3⟩
      exact hK _ _ hb3 ⟨p3, rfl, hp3⟩
    exact grow.EachL.nil
  case fin =>
    intro f W hB hF
    have f0 : f 0 = .agg #[.pointer p] := hF 0 (by decide)
    have f1 : f 1 = .pointer (some ⟨w.heap.size, 0, none⟩) := hF 1 (by decide)
    have f2 : f 2 = .int .i64 k := hF 2 (by decide)
    have f3 : f 3 = .func (.func 18) #[] #[.pointer a1, .pointer a2] := hF 3 (by decide)
    have f4 : f 4 = .pointer (some ⟨w.heap.size, 0, none⟩) := hF 4 (by decide)
    have f5 : f 5 = .int .i64 k := hF 5 (by decide)
    have f6 : f 6 = .pointer (some ⟨w.heap.size, 1, none⟩) := hF 6 (by decide)
    have f7 : f 7 = .int .i64 v := hF 7 (by decide)
    have f8 : f 8 = .int .i64 fv := hF 8 (by decide)
    obtain ⟨q_9, f9, hq_9⟩ := hF 9 (by decide)
    clear hF
    intro A hA
    simp only [grow.puts, Act.put, List.getElem?_toArray, List.getElem?_cons_zero, List.getElem?_cons_succ, Option.bind_some, List.setIfInBounds_toArray, List.set_cons_zero, List.set_cons_succ, f0, f1, f2, f3, f4, f5, f6, f7, f8, f9] at hA
    subst hA
    have c0 := upc hB kO
    have f0 := free_of_one (upb hB HH.out.2.1)
    have HN : Hid (EI O F B 18 #[.pointer a1, .pointer a2] fu w0 (xs ++ [(k, v)]) (W.setCell ⟨O, 0, none⟩ (.pointer q_9))) := Lib.hid ((HH.out.1.up hB).next HH.out.2.2.2 (by rw [← HV.out]; exact hq_9))
    clear hq_9 n0 n1 kO kF HP HF HH HV
    go_simp
    go_wp2_with fail
    go_end0
    exact ⟨rfl, HN.out⟩

theorem each_vis3 (O F B : Nat) (a1 a2 : Option Addr) (fu : Int → Int → Int) (w0 : World) (hf : Fun w0 18 #[.pointer a1, .pointer a2] fu) : VisK 36 #[.pointer (some ⟨O, 0, none⟩), .pointer (some ⟨F, 0, none⟩)] (fun x => B ≤ x) w0 8796093021999 I64 (EI O F B 18 #[.pointer a1, .pointer a2] fu w0) :=
  ⟨fun _ _ h => h.bel.size, fun _ _ h x _ hlt => h.bel.block x hlt, fun _ _ _ h hb => h.up hb, fun xs k v W h hk hM => each_one3 O F B a1 a2 fu w0 hf xs k v W h hk hM⟩
set_option maxRecDepth 100000 in
set_option maxHeartbeats 4000000 in
theorem Each_any3 (B : Nat) (a1 a2 : Option Addr) (fu : Int → Int → Int) (w : World) (hf : Fun w 18 #[.pointer a1, .pointer a2] fu) (p : Option Addr) (o : Option PT) (h : HO B w p o) (ho : OOk o) (hB : B ≤ w.heap.size) (hc : ocnt o ≤ 8796093021999) :
    Calls Try.prog 17 #[.agg #[.pointer p], .func (.func 18) #[] #[.pointer a1, .pointer a2]] w (RetE B w fu o) := by
  obtain ⟨L, hq, hs, _, _⟩ := h
  have hlen : L.length ≤ 8796093021999 := by rw [hs.len ho]; exact hc
  obtain ⟨Z, hZ⟩ : ∃ Z, Z = ((((w.alloc (.cells #[.pointer p] 25)).alloc (.cells #[.func (.func 18) #[] #[.pointer a1, .pointer a2]] 36)).alloc (.cells #[.pointer none] 25)).alloc (.cells #[.pointer none] 25)) := ⟨_, rfl⟩
  obtain ⟨Y, hY⟩ : ∃ Y, Y = (((w.alloc (.cells #[.pointer p] 25)).alloc (.cells #[.func (.func 18) #[] #[.pointer a1, .pointer a2]] 36)).alloc (.cells #[.pointer none] 25)) := ⟨_, rfl⟩
  have hT : ET 18 #[.pointer a1, .pointer a2] p w Y Z := by rw [hZ, hY]; exact ET.of _ _ _ _
  have HT := Lib.hid hT
  have HZ := Lib.hid hZ
  have hES : ES 18 #[.pointer a1, .pointer a2] p w Z := by rw [hZ]; exact ES.of _ _ _ _
  have HES := Lib.hid hES
  have hE0 : EI (w.heap.size + 3) (w.heap.size + 1) B 18 #[.pointer a1, .pointer a2] fu Y [] Z := ⟨hT.b2, by have := hT.sz; omega, by omega, by have := hT.sz; omega, ⟨none, hES.c3, HO.nil _ _⟩, hES.c1, fun p hp => by cases hp⟩
  have HW : Hid (Calls Try.prog 31 #[.pointer p, .func (.func 36) #[] #[.pointer (some ⟨w.heap.size + 3, 0, none⟩), .pointer (some ⟨w.heap.size + 1, 0, none⟩)]] Z fun e w' => e = .returned (.tuple #[]) ∧ EI (w.heap.size + 3) (w.heap.size + 1) B 18 #[.pointer a1, .pointer a2] fu Y L w') := by
    rcases hq with ⟨rfl, rfl⟩ | ⟨b, rfl, hN⟩
    · refine Lib.hid ((walk_noneE _ _).mono ?_)
      rintro e w' ⟨rfl, rfl⟩
      exact ⟨rfl, hE0⟩
    · refine Lib.hid ?_
      have h := kwalk_any (w.heap.size + 3) (w.heap.size + 1) (fun x => B ≤ x) Y 8796093021999 I64 _ (each_vis3 (w.heap.size + 3) (w.heap.size + 1) B a1 a2 fu Y (hf.up hT.bel)) (by decide) 7 b L [] Z (hN.up hT.bel) hE0 (by simp; omega) hs.rng
      simpa using h
  have kz := cell_of_one hES.c0
  have HS := Lib.hid (And.intro hs ho)
  clear hq hs ho hlen hZ hES hE0 hf hT hY
  go_enter Try.func17, Try.ntmps17
  go_wp2_with fail
  rw [← HZ.out]
  go_wp2_with fail
  refine HW.out.mono ?_
  rintro e w1 ⟨rfl, hI⟩
  obtain ⟨q, hcO, hq⟩ := hI.cO
  have k3 := cell_of_one hcO
  have h2 : w1.heap[w.heap.size + 2]? = some (.cells #[.pointer none] 25 (0, 0)) := (hI.bel.block _ (by have := HT.out.sz; omega)).trans HT.out.c2
  have c2 := cell_of_one h2
  have f2 := free_of_one h2
  have k4 := cell_of_one (one_setCell (u := .pointer q) h2)
  have HR : Hid (RetE B w fu o (.returned (.agg #[.pointer q])) (w1.setCell ⟨w.heap.size + 2, 0, none⟩ (.pointer q))) := Lib.hid ⟨q, eo fu L, rfl, HO.store (k := w.heap.size + 2) (off := 0) h2 (by decide) hq, ⟨eo_ok fu L HS.out.1.rng, by rw [← HS.out.1.len HS.out.2]; exact eo_cnt fu L, fun k hk => eo_lk HS.out.1 hk⟩, (HT.out.bel.trans (hI.bel.mono HT.out.bel.size)).setCell (p := ⟨w.heap.size + 2, 0, none⟩) (by show _ ≤ w.heap.size + 2; omega) _⟩
  clear hI hcO hq h2 HW HT kz HS
  go_wp2_with fail
  exact bodyPost_ret (v := .agg #[.pointer q]) (by simp only [results, Try.results17]; simp [go_sem, k4]) rfl HR.out
end Go.Proofs.Ytenaddjnaeebbaa.hamt
