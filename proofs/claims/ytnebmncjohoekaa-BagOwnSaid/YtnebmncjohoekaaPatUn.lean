/- What is united, against the reference's lists; rows side by side. -/
import Derived.Test.YtnebmncjohoekaaPatTells
namespace Go.Proofs.Ytnebmncjohoekaa
open Go.RowKit

/-! ### the plain law -/
theorem keyed_length (l : List (Int × Int)) (k v : Int) : (keyed l k v).length ≤ l.length + 1 := by
  have h := less_more k l l.length
  rw [kept_all (Nat.le_refl _)] at h
  unfold keyed
  simp only [List.length_append, List.length_cons]
  omega
def uni (ys l : List (Int × Int)) : List (Int × Int) := l.foldl (fun acc p => keyed acc p.1 p.2) ys
theorem uni_rising (l : List (Int × Int)) : ∀ ys, RisingI ys → RisingI (uni ys l) := by
  induction l with
  | nil => intro ys h; exact h
  | cons p t ih => intro ys h; exact ih _ (keyed_rising h _ _)
theorem uni_length (l : List (Int × Int)) : ∀ ys, (uni ys l).length ≤ ys.length + l.length := by
  induction l with
  | nil => intro ys; exact Nat.le_refl _
  | cons p t ih =>
    intro ys
    have h1 := ih (keyed ys p.1 p.2)
    have h2 := keyed_length ys p.1 p.2
    simp only [List.length_cons]
    show (uni (keyed ys p.1 p.2) t).length ≤ _
    omega
theorem valued_uni (k : Int) (l : List (Int × Int)) : ∀ ys, RisingI l → valued (uni ys l) k = (valued l k).or (valued ys k) := by
  induction l with
  | nil => intro ys _; rfl
  | cons p t ih =>
    intro ys h
    show valued (uni (keyed ys p.1 p.2) t) k = _
    rw [ih _ h.2, valued_keyed]
    simp only [valued]
    by_cases e : p.1 = k
    · have hn : valued t k = none := valued_none fun q hq => by have := h.1 q hq; omega
      simp [e, hn]
    · rw [if_neg (Ne.symm e), if_neg e]
theorem uni_snoc (ys l : List (Int × Int)) (j : Nat) (h : j < l.length) : uni ys (l.take (j + 1)) = keyed (uni ys (l.take j)) (l.getD j (0, 0)).1 (l.getD j (0, 0)).2 := by
  unfold uni
  rw [List.take_succ_eq_append_getElem h, List.foldl_append]
  simp [List.getD_eq_getElem?_getD, h]
def hasK (ys : List (Int × Int)) (p : Int × Int) : Bool := (valued ys p.1).isSome
def notK (ys : List (Int × Int)) (p : Int × Int) : Bool := !(valued ys p.1).isSome
theorem pat.told_union {x y : Option pat.PT} (hx : pat.OOk x) (hy : pat.OOk y) : pat.told (pat.ounion x y) = uni (pat.told y) (pat.told x) := by
  obtain ⟨h1, h2⟩ := pat.ounion_spec hx hy
  have hr : ∀ l : List (Int × Int), (∀ p ∈ l, pat.I64 p.1) → ∀ ys, (∀ p ∈ ys, pat.I64 p.1) → ∀ p ∈ uni ys l, pat.I64 p.1 := by
    intro l
    induction l with
    | nil => intro _ ys h; exact h
    | cons p t ih =>
      intro hl ys h
      exact ih (fun q hq => hl q (List.mem_cons_of_mem _ hq)) _ (pat.keyed_range h (hl p List.mem_cons_self))
  refine pat.told_eq h1 (uni_rising _ _ (pat.told_rising hy)) (hr _ (pat.told_range hx) _ (pat.told_range hy)) fun k hk => ?_
  rw [h2, valued_uni k _ _ (pat.told_rising hx), pat.valued_told hx hk, pat.valued_told hy hk, pat.oget_eq hx, pat.oget_eq hy]
theorem pat.told_inter {x y : Option pat.PT} (hx : pat.OOk x) (hy : pat.OOk y) : pat.told (pat.osifted y true x) = (pat.told x).filter (hasK (pat.told y)) := by
  obtain ⟨h1, h2⟩ := pat.osifted_spec (x := x) (y := y) true hx
  refine pat.told_eq h1 ((pat.told_rising hx).filter _) (fun p hp => pat.told_range hx p (List.mem_filter.1 hp).1) fun k hk => ?_
  rw [h2, valued_filter (hasK (pat.told y)) (fun j => (valued (pat.told y) j).isSome) (fun _ => rfl), pat.valued_told hy hk, pat.valued_told hx hk, pat.oget_eq hx]
theorem pat.told_diff {x y : Option pat.PT} (hx : pat.OOk x) (hy : pat.OOk y) : pat.told (pat.osifted y false x) = (pat.told x).filter (notK (pat.told y)) := by
  obtain ⟨h1, h2⟩ := pat.osifted_spec (x := x) (y := y) false hx
  refine pat.told_eq h1 ((pat.told_rising hx).filter _) (fun p hp => pat.told_range hx p (List.mem_filter.1 hp).1) fun k hk => ?_
  rw [h2, valued_filter (notK (pat.told y)) (fun j => !(valued (pat.told y) j).isSome) (fun _ => rfl), pat.valued_told hy hk, pat.valued_told hx hk, pat.oget_eq hx]
  cases pat.oget y (pat.tk k) <;> simp

/-! ### rows side by side -/
def Aside (u v : Value) : Prop := ∀ b, u.ownBlock = some b → v.ownBlock ≠ some b
theorem Aside.nil (v : Value) : Aside (.slice none 0 0) v := fun _ h => by cases h
theorem Aside.symm {u v : Value} (h : Aside u v) : Aside v u := fun b h1 h2 => h b h2 h1
theorem Aside.new {w w' : World} {B D : Nat} {u v : Value} {xs ys : List (Int × Int)} (hu : OwnP w' D u xs) (hD : w.heap.size ≤ D) (hv : OwnP w B v ys) : Aside u v := fun b h1 h2 => by
  have := (hu.block b h1).1
  have := (hv.block b h2).2
  omega
theorem Aside.app {w : World} {B g H c n : Nat} {u v : Value} {ys : List (Int × Int)} (h : Aside v u) (hu : OwnP w B u ys) (hg : v.ownBlock = some g ∨ g = H) (hH : w.heap.size ≤ H) : Aside (.slice (some ⟨g, 0, none⟩) n c) u := fun b h1 h2 => by
  have e : g = b := by simpa [Value.ownBlock] using h1
  subst e
  rcases hg with hg | hg
  · exact h g hg h2
  · have := (hu.block g h2).2
    omega
theorem OwnP.off {w w1 : World} {B : Nat} {u v : Value} {ys : List (Int × Int)} {o : Obj} (hu : OwnP w B u ys) (h : Aside v u) (hg : (w.alloc o).grownBy w1 v.ownBlock) : OwnP w1 B u ys := by
  refine ⟨hu.1, ?_⟩
  rcases hu.2 with h' | ⟨g, cap, cur, rfl, hB, hc, r⟩
  · exact .inl h'
  · have hlt := (Array.getElem?_eq_some_iff.1 hc).1
    refine .inr ⟨g, cap, cur, rfl, hB, ?_, r⟩
    refine ((hg.block g (by simp; omega) ?_).trans (Below.heap_alloc w o g hlt)).trans hc
    intro e
    exact h g e.symm rfl
theorem pat.HP.keep {B : Nat} {T : List Nat} {w w' : World} (hk : KeepT T w w') (ht : 59 ∉ T) : ∀ {t : pat.PT} {b : Nat}, pat.HP B w b t → pat.HP B w' b t
  | .leaf _ _, _, ⟨hB, h⟩ => ⟨hB, hk _ _ _ _ h ht⟩
  | .node _ _ _ _, _, ⟨hB, bl, br, h, hl, hr⟩ => ⟨hB, bl, br, hk _ _ _ _ h ht, pat.HP.keep hk ht hl, pat.HP.keep hk ht hr⟩
theorem pat.HO.keep {B : Nat} {T : List Nat} {w w' : World} (hk : KeepT T w w') (ht : 59 ∉ T) {p : Option Addr} {o : Option pat.PT} (h : pat.HO B w p o) : pat.HO B w' p o := by
  cases o with
  | none => exact h
  | some t => obtain ⟨b, e, h⟩ := h; exact ⟨b, e, pat.HP.keep hk ht h⟩
theorem belowGrown {B : Nat} {w w1 : World} {D : Nat} {u : Value} {xs : List (Int × Int)} {o : Obj} {w0 : World} (hb : Below D w0 w) (hD : D ≤ w.heap.size) (hu : OwnP w B u xs) (hB : D ≤ B) (hg : (w.alloc o).grownBy w1 u.ownBlock) : Below D w0 w1 :=
  Below.grown (hb.alloc hD o) hg (by simp; omega) (fun k hk => by have := (hu.block k hk).1; omega)

namespace pat
/-- two maps in two boxes -/
structure Duo (w : World) (G : Nat) (x y : Option PT) (W : World) (p q : Option Addr) : Prop where
  bel : Below w.heap.size w W
  g : w.heap.size ≤ G
  b0 : W.heap[G]? = some (.cells #[.pointer p] 25 (0, 0))
  b1 : W.heap[G + 1]? = some (.cells #[.pointer q] 25 (0, 0))
  h0 : HO w.heap.size W p x
  h1 : HO w.heap.size W q y
theorem Duo.up {w : World} {G : Nat} {x y : Option PT} {W W' : World} {p q : Option Addr} (h : Duo w G x y W p q) (hb : Below W.heap.size W W') : Duo w G x y W' p q :=
  ⟨h.bel.trans (hb.mono h.bel.size), h.g, upb hb h.b0, upb hb h.b1, h.h0.up hb, h.h1.up hb⟩
theorem Duo.set0 {w : World} {G : Nat} {x y x' : Option PT} {W : World} {p q p' : Option Addr} (h : Duo w G x y W p q) (hp : HO w.heap.size W p' x') : Duo w G x' y (W.setCell ⟨G, 0, none⟩ (.pointer p')) p' q :=
  ⟨belowSet (a := ⟨G, 0, none⟩) h.bel (by have := h.g; show w.heap.size ≤ G; omega) _, h.g, one_setCell h.b0, two_setCell_far h.b1 (by omega), HO.store (k := G) (off := 0) h.b0 (by decide) hp, HO.store (k := G) (off := 0) h.b0 (by decide) h.h1⟩
theorem Duo.set1 {w : World} {G : Nat} {x y y' : Option PT} {W : World} {p q p' : Option Addr} (h : Duo w G x y W p q) (hp : HO w.heap.size W p' y') : Duo w G x y' (W.setCell ⟨G + 1, 0, none⟩ (.pointer p')) p p' :=
  ⟨belowSet (a := ⟨G + 1, 0, none⟩) h.bel (by have := h.g; show w.heap.size ≤ G + 1; omega) _, h.g, two_setCell_far h.b0 (by omega), one_setCell h.b1, HO.store (k := G + 1) (off := 0) h.b1 (by decide) h.h0, HO.store (k := G + 1) (off := 0) h.b1 (by decide) hp⟩
theorem Duo.row0 {w : World} {G : Nat} {x y : Option PT} {W : World} {p q : Option Addr} (h : Duo w G x y W p q) {B : Nat} {v u : Value} {xs : List (Int × Int)} (ho : OwnP W B v xs) : OwnP (W.setCell ⟨G, 0, none⟩ u) B v xs :=
  ho.keep (T := [25]) (KeepT.set (a := ⟨G, 0, none⟩) h.b0 (by simp) _) (by decide)
theorem Duo.row1 {w : World} {G : Nat} {x y : Option PT} {W : World} {p q : Option Addr} (h : Duo w G x y W p q) {B : Nat} {v u : Value} {xs : List (Int × Int)} (ho : OwnP W B v xs) : OwnP (W.setCell ⟨G + 1, 0, none⟩ u) B v xs :=
  ho.keep (T := [25]) (KeepT.set (a := ⟨G + 1, 0, none⟩) h.b1 (by simp) _) (by decide)
theorem Duo.app {w : World} {G : Nat} {x y : Option PT} {W w1 : World} {p q : Option Addr} (h : Duo w G x y W p q) {u : Value} {xs : List (Int × Int)} (hu : OwnP W w.heap.size u xs) {o : Obj} (hg : (W.alloc o).grownBy w1 u.ownBlock) : Duo w G x y w1 p q := by
  have hk : KeepT [31] W w1 := KeepT.grown (hown := by have h := hu; unfold OwnP at h; exact h) hg
  exact ⟨belowGrown h.bel h.bel.size hu (Nat.le_refl _) hg, h.g, hk _ _ _ _ h.b0 (by decide), hk _ _ _ _ h.b1 (by decide), h.h0.keep hk (by decide), h.h1.keep hk (by decide)⟩

/-- the third loop: what stands in memory after j rounds -/
structure Third (w : World) (G : Nat) (x y : Option PT) (xs ys : List (Int × Int)) (vx vy : Value) (j : Nat) (vu vi vd : Value) (W : World) : Prop where
  du : ∃ p q, Duo w G x y W p q
  rx : OwnP W w.heap.size vx xs
  ry : OwnP W w.heap.size vy ys
  ru : OwnP W w.heap.size vu (uni ys (xs.take j))
  ri : OwnP W w.heap.size vi (kept (hasK ys) xs j)
  rd : OwnP W w.heap.size vd (kept (notK ys) xs j)
  ix : Aside vi vx
  iy : Aside vi vy
  iu : Aside vi vu
  id : Aside vi vd
  dx : Aside vd vx
  dy : Aside vd vy
  du' : Aside vd vu
theorem Third.bel {w : World} {G : Nat} {x y : Option PT} {xs ys : List (Int × Int)} {vx vy : Value} {j : Nat} {vu vi vd : Value} {W : World} (h : Third w G x y xs ys vx vy j vu vi vd W) : Below w.heap.size w W := by
  obtain ⟨p, q, h⟩ := h.du; exact h.bel
/-- ahead of the append: the union's round is done, the two others are not -/
structure Thirdu (w : World) (G : Nat) (x y : Option PT) (xs ys : List (Int × Int)) (vx vy : Value) (j : Nat) (vu vi vd : Value) (W : World) : Prop where
  du : ∃ p q, Duo w G x y W p q
  rx : OwnP W w.heap.size vx xs
  ry : OwnP W w.heap.size vy ys
  ru : OwnP W w.heap.size vu (uni ys (xs.take (j + 1)))
  ri : OwnP W w.heap.size vi (kept (hasK ys) xs j)
  rd : OwnP W w.heap.size vd (kept (notK ys) xs j)
  ix : Aside vi vx
  iy : Aside vi vy
  iu : Aside vi vu
  id : Aside vi vd
  dx : Aside vd vx
  dy : Aside vd vy
  du' : Aside vd vu
theorem Third.uni {w : World} {G : Nat} {x y : Option PT} {xs ys : List (Int × Int)} {vx vy : Value} {j : Nat} {vu vi vd : Value} {W : World} (h : Third w G x y xs ys vx vy j vu vi vd W) (hj : j < xs.length) {W' : World} {v : Value}
    (hb : Below W.heap.size W W') {D : Nat} (hD : W.heap.size ≤ D) (hv : OwnP W' D v (keyed (uni ys (xs.take j)) (xs.getD j (0, 0)).1 (xs.getD j (0, 0)).2)) : Thirdu w G x y xs ys vx vy j v vi vd W' := by
  obtain ⟨p, q, hd⟩ := h.du
  refine ⟨⟨p, q, hd.up hb⟩, h.rx.up hb, h.ry.up hb, ?_, h.ri.up hb, h.rd.up hb, h.ix, h.iy, (Aside.new hv hD h.ri).symm, h.id, h.dx, h.dy, (Aside.new hv hD h.rd).symm⟩
  rw [uni_snoc _ _ _ hj]
  exact hv.lower (Nat.le_trans hd.bel.size hD)
theorem Thirdu.yes {w : World} {G : Nat} {x y : Option PT} {xs ys : List (Int × Int)} {vx vy : Value} {j : Nat} {vu vi vd : Value} {W : World} (h : Thirdu w G x y xs ys vx vy j vu vi vd W) {y1 y2 : Int} (hj : j < xs.length) (hy : (y1, y2) = xs.getD j (0, 0))
    (ht : hasK ys (y1, y2) = true) {W' : World} {o : Obj} {g c H n : Nat} (hown : W'.ownsRow w.heap.size 31 2 (.slice (some ⟨g, 0, none⟩) n c) ((kept (hasK ys) xs j).length + 1) (cellsP (kept (hasK ys) xs j) ++ [.int .i64 y1, .int .i64 y2]))
    (hg : (W.alloc o).grownBy W' vi.ownBlock) (hl : vi.ownBlock = some g ∨ g = H) (hH : W.heap.size ≤ H) : Third w G x y xs ys vx vy (j + 1) vu (.slice (some ⟨g, 0, none⟩) n c) vd W' := by
  obtain ⟨p, q, hd⟩ := h.du
  refine ⟨⟨p, q, hd.app h.ri hg⟩, h.rx.off h.ix hg, h.ry.off h.iy hg, h.ru.off h.iu hg, ?_, ?_, h.ix.app h.rx hl hH, h.iy.app h.ry hl hH, h.iu.app h.ru hl hH, h.id.app h.rd hl hH, h.dx, h.dy, h.du'⟩
  · rw [kept_yes hj hy ht]
    unfold OwnP
    rw [cellsP_append, List.length_append]
    exact hown
  · rw [kept_no (t := notK ys) hj hy (by simp only [notK, hasK] at *; simp [ht])]
    exact h.rd.off h.id hg
theorem Thirdu.no {w : World} {G : Nat} {x y : Option PT} {xs ys : List (Int × Int)} {vx vy : Value} {j : Nat} {vu vi vd : Value} {W : World} (h : Thirdu w G x y xs ys vx vy j vu vi vd W) {y1 y2 : Int} (hj : j < xs.length) (hy : (y1, y2) = xs.getD j (0, 0))
    (ht : hasK ys (y1, y2) = false) {W' : World} {o : Obj} {g c H n : Nat} (hown : W'.ownsRow w.heap.size 31 2 (.slice (some ⟨g, 0, none⟩) n c) ((kept (notK ys) xs j).length + 1) (cellsP (kept (notK ys) xs j) ++ [.int .i64 y1, .int .i64 y2]))
    (hg : (W.alloc o).grownBy W' vd.ownBlock) (hl : vd.ownBlock = some g ∨ g = H) (hH : W.heap.size ≤ H) : Third w G x y xs ys vx vy (j + 1) vu vi (.slice (some ⟨g, 0, none⟩) n c) W' := by
  obtain ⟨p, q, hd⟩ := h.du
  refine ⟨⟨p, q, hd.app h.rd hg⟩, h.rx.off h.dx hg, h.ry.off h.dy hg, h.ru.off h.du' hg, ?_, ?_, h.ix, h.iy, h.iu, (h.id.symm.app h.ri hl hH).symm, h.dx.app h.rx hl hH, h.dy.app h.ry hl hH, h.du'.app h.ru hl hH⟩
  · rw [kept_no hj hy ht]
    exact h.ri.off h.id.symm hg
  · rw [kept_yes (t := notK ys) hj hy (by simp only [notK, hasK] at *; simp [ht])]
    unfold OwnP
    rw [cellsP_append, List.length_append]
    exact hown
end pat
end Go.Proofs.Ytnebmncjohoekaa
