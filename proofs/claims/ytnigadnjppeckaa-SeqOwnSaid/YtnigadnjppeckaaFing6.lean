/- finger: Ints. -/
import Derived.Test.YtnigadnjppeckaaFing5
import Derived.Test.YtnigadnjppeckaaCat
namespace Go.Proofs.Ytnigadnjppeckaa.finger
open Go.RowKit Go

theorem dep_bound (ts : List FT) : ∃ d, ∀ t ∈ ts, t.dep ≤ d := by
  induction ts with
  | nil => exact ⟨0, fun t h => by simp at h⟩
  | cons t ts ih =>
    obtain ⟨d, hd⟩ := ih
    refine ⟨d + t.dep, fun u hu => ?_⟩
    rcases List.mem_cons.1 hu with rfl | h
    · omega
    · have := hd u h
      omega
theorem walk_all (O W base B : Nat) (w0 : World) (ts : List FT) (v : Value) (w : World) (xs : List Int) (h : DigR w0 B v ts) (hs : St W O base w0 xs w) (hn : xs.length + (intsOf ts).length ≤ 17592186044416) :
    Calls Try.prog 43 #[v, .pointer (some ⟨O, 0, none⟩), .pointer (some ⟨W, 0, none⟩)] w (RetSt W O base w0 w (xs ++ intsOf ts)) := by
  obtain ⟨d, hd⟩ := dep_bound ts
  exact walk_any O W base B w0 d ts v w xs hd h hs hn
def gL (W L : Nat) : Value := .func (.func 44) #[] #[.pointer (some ⟨W, 0, none⟩), .pointer (some ⟨L, 0, none⟩)]
def SL (W O L base : Nat) (w0 : World) (xs : List Int) (w : World) : Prop := St W O base w0 xs w ∧ w.heap[L]? = some (.cells #[gL W L] 96 (0, 0))
def RetSL (W O L base : Nat) (w0 : World) (xs : List Int) (e : Ending) (w' : World) : Prop := e = .returned (.tuple #[]) ∧ SL W O L base w0 xs w'
set_option maxRecDepth 100000 in
set_option maxHeartbeats 4000000 in
theorem levels_step (O W L base B : Nat) (w0 : World) (hL : L < base) (hne : L ≠ O) (ls rs : List FT) (ms : List Int) (b : Nat) (v0 v1 v2 v3 v4 vl vr : Value) (pm : Option Addr)
    (hc : w0.heap[b]? = some (.cells #[v0, v1, v2, v3, v4, vl, vr, .pointer pm] 98 (0, 0))) (hl : DigR w0 B vl ls) (hr : DigR w0 B vr rs) (w : World) (xs : List Int)
    (ih : ∀ (w : World) (xs : List Int), SL W O L base w0 xs w → xs.length + ms.length ≤ 17592186044416 → Calls Try.prog 44 #[.pointer pm, .pointer (some ⟨W, 0, none⟩), .pointer (some ⟨L, 0, none⟩)] w (RetSL W O L base w0 (xs ++ ms)))
    (hs : SL W O L base w0 xs w) (hn : xs.length + (intsOf ls ++ (ms ++ intsOf rs)).length ≤ 17592186044416) :
    Calls Try.prog 44 #[.pointer (some ⟨b, 0, none⟩), .pointer (some ⟨W, 0, none⟩), .pointer (some ⟨L, 0, none⟩)] w (RetSL W O L base w0 (xs ++ (intsOf ls ++ (ms ++ intsOf rs)))) := by
  simp only [List.length_append] at hn
  have hc8 : ∀ W', Below w0.heap.size w0 W' → W'.cell? ⟨b, 5, none⟩ = some vl ∧ W'.cell? ⟨b, 6, none⟩ = some vr ∧ W'.cell? ⟨b, 7, none⟩ = some (.pointer pm) := fun W' h => (eight_cells (upb h hc)).2.2.2.2.2
  obtain ⟨c5, c6, c7⟩ := hc8 w hs.1.bel
  have kW := cell_of_one hs.1.cW
  unfold fW at kW
  have kL := cell_of_one hs.2
  unfold gL at kL
  have HC8 := Lib.hid hc8
  have H1 := Lib.hid (walk_all O W base B w0 ls vl (w.drewN 1) xs hl (hs.1.drewN 1) (by omega))
  have HR := Lib.hid (fun w' ys h h' => walk_all O W base B w0 rs vr w' ys hr h h')
  have IH := Lib.hid ih
  have Hs := Lib.hid hs.2
  clear hc hl hr ih hs hc8
  go_enter Try.func44, Try.ntmps44
  go_wp2_with fail
  go_region_held3 (fun w' => w'.cell? ⟨W, 0, none⟩ = some (.func (.func 43) #[] #[.pointer (some ⟨O, 0, none⟩), .pointer (some ⟨W, 0, none⟩)]) ∧ w'.cell? ⟨b, 5, none⟩ = some vl) (go_keep)
    (first | (go_at_call 43; refine H1.out.mono ?_; rintro e w1 ⟨rfl, hs1, hk1⟩; have kW1 := cell_of_one hs1.cW; unfold fW at kW1; have hL1 := hk1 L _ hL hne Hs.out; have kL1 := cell_of_one hL1; unfold gL at kL1; obtain ⟨c51, c61, c71⟩ := HC8.out w1 hs1.bel))
  have H2 := Lib.hid (IH.out (w1.drewN 1) (xs ++ intsOf ls) ⟨hs1.drewN 1, hL1⟩ (by simp; omega))
  clear kW kL c5 c6 c7 hs1 hk1 hL1 H1 Hs
  go_wp2_with fail
  go_region_held3 (fun w' => w'.cell? ⟨L, 0, none⟩ = some (.func (.func 44) #[] #[.pointer (some ⟨W, 0, none⟩), .pointer (some ⟨L, 0, none⟩)]) ∧ w'.cell? ⟨b, 7, none⟩ = some (.pointer pm)) (go_keep)
    (first | (go_at_call 44; refine H2.out.mono ?_; rintro e w2 ⟨rfl, hs2⟩; have kW2 := cell_of_one hs2.1.cW; unfold fW at kW2; have kL2 := cell_of_one hs2.2; unfold gL at kL2; obtain ⟨c52, c62, c72⟩ := HC8.out w2 hs2.1.bel))
  have H3 := Lib.hid (HR.out (w2.drewN 1) (xs ++ intsOf ls ++ ms) (hs2.1.drewN 1) (by simp; omega))
  have Hs2 := Lib.hid hs2.2
  clear kW1 kL1 c51 c61 c71 hs2 H2
  go_wp2_with fail
  go_region_held3 (fun w' => w'.cell? ⟨W, 0, none⟩ = some (.func (.func 43) #[] #[.pointer (some ⟨O, 0, none⟩), .pointer (some ⟨W, 0, none⟩)]) ∧ w'.cell? ⟨b, 6, none⟩ = some vr) (go_keep)
    (first | (go_at_call 43; refine H3.out.mono ?_; rintro e w3 ⟨rfl, hs3, hk3⟩; have kW3 := cell_of_one hs3.cW; unfold fW at kW3; have hL3 := hk3 L _ hL hne Hs2.out; have c63 := (HC8.out w3 hs3.bel).2.1))
  go_wp2_with fail
  go_end0
  exact ⟨rfl, by simpa [List.append_assoc] using hs3, hL3⟩
set_option maxHeartbeats 1000000 in
theorem levels_nil (O W L base : Nat) (w0 : World) (w : World) (xs : List Int) (hs : SL W O L base w0 xs w) :
    Calls Try.prog 44 #[.pointer none, .pointer (some ⟨W, 0, none⟩), .pointer (some ⟨L, 0, none⟩)] w (RetSL W O L base w0 (xs ++ [])) := by
  go_enter Try.func44, Try.ntmps44
  go_wp2_with fail
  go_end0
  exact ⟨rfl, by simpa using hs⟩
set_option maxHeartbeats 1000000 in
theorem levels_any (O W L base B : Nat) (w0 : World) (hL : L < base) (hne : L ≠ O) : ∀ (lt : LT) (p : Option Addr) (w : World) (xs : List Int), Lv w0 B p lt → SL W O L base w0 xs w → xs.length + lt.ints.length ≤ 17592186044416 →
    Calls Try.prog 44 #[.pointer p, .pointer (some ⟨W, 0, none⟩), .pointer (some ⟨L, 0, none⟩)] w (RetSL W O L base w0 (xs ++ lt.ints))
  | .nil, p, w, xs, h, hs, hn => by
    obtain rfl : p = none := h
    exact levels_nil O W L base w0 w xs hs
  | .one t, p, w, xs, h, hs, hn => by
    obtain ⟨b, n, s, l, m, z, vl, rfl, _, hc, hd, _⟩ := h
    have h1 := levels_step O W L base B w0 hL hne [t] [] [] b _ _ _ _ _ vl _ none hc hd.reads (DigR.nil _ _) w xs (fun w xs hs _ => levels_nil O W L base w0 w xs hs) hs (by simpa [intsOf, LT.ints] using hn)
    simpa [intsOf, LT.ints] using h1
  | .deep ls mid rs, p, w, xs, h, hs, hn => by
    obtain ⟨b, n, s, l, m, z, vl, vr, pm, rfl, _, hc, h1, h2, h3⟩ := h
    exact levels_step O W L base B w0 hL hne ls rs mid.ints b _ _ _ _ _ vl vr pm hc h1.reads h2.reads w xs (fun w xs hs hn => levels_any O W L base B w0 hL hne mid pm w xs h3 hs hn) hs hn
theorem start (w : World) (o : Obj) : SL (w.heap.size + 2) (w.heap.size + 1) (w.heap.size + 3) (w.heap.size + 4) w [] ((((w.alloc o).alloc (.cells #[.slice none 0 0] 22)).alloc (.cells #[fW (w.heap.size + 2) (w.heap.size + 1)] 91)).alloc (.cells #[gL (w.heap.size + 2) (w.heap.size + 3)] 96)) := by
  refine ⟨⟨belowTrans (belowTrans (belowTrans (belowAlloc _ _) (belowAlloc _ _)) (belowAlloc _ _)) (belowAlloc _ _), by omega, by omega, by omega, by omega, by omega, by simp, ?_, .slice none 0 0, ?_, World.ownsRow_nil _ _ _ _⟩, ?_⟩
  · rw [Below.heap_alloc _ _ _ (by simp)]
    have := heap_alloc_new ((w.alloc o).alloc (.cells #[Value.slice none 0 0] 22)) (.cells #[fW (w.heap.size + 2) (w.heap.size + 1)] 91)
    simpa using this
  · rw [Below.heap_alloc _ _ _ (by simp), Below.heap_alloc _ _ _ (by simp)]
    have := heap_alloc_new (w.alloc o) (.cells #[Value.slice none 0 0] 22)
    simpa using this
  · have := heap_alloc_new (((w.alloc o).alloc (.cells #[Value.slice none 0 0] 22)).alloc (.cells #[fW (w.heap.size + 2) (w.heap.size + 1)] 91)) (.cells #[gL (w.heap.size + 2) (w.heap.size + 3)] 96)
    simpa using this
set_option maxHeartbeats 1000000 in
theorem ints_any (B : Nat) (w : World) (p : Option Addr) (t : LT) (h : Lv w B p t) (hn : t.ints.length ≤ 17592186044416) :
    Calls Try.prog 12 #[.agg #[.pointer p]] w (RetI 3 w t.ints) := by
  have hw := levels_any (w.heap.size + 1) (w.heap.size + 2) (w.heap.size + 3) (w.heap.size + 4) B w (by omega) (by omega) t p _ [] h (start w (.cells #[.pointer p] 26)) (by simpa using hn)
  unfold fW gL at hw
  go_enter Try.func12, Try.ntmps12
  go_wp2_with fail
  refine hw.mono ?_
  rintro e w1 ⟨rfl, hs⟩
  obtain ⟨v, kO, ho⟩ := hs.1.done
  have Ho := Lib.hid ho
  have hB := hs.1.bel
  clear hs ho
  go_wp2_with fail
  go_ret
  exact RetI.mk (by simpa [OwnI] using Ho.out) hB
end Go.Proofs.Ytnigadnjppeckaa.finger
