/- Package finger: things and levels, in plain words and in memory. No function of the program is named here. -/
import Derived.Test.YtnigadnjppeckaaTwo
import Derived.Test.YtnigadnjppeckaaRows
namespace Go.Proofs.Ytnigadnjppeckaa.finger
open Go.RowKit Go

/-- things: a number, or three things -/
inductive FT where
  | leaf (x : Int)
  | grp (a b c : FT)
def FT.ints : FT → List Int
  | .leaf x => [x]
  | .grp a b c => a.ints ++ (b.ints ++ c.ints)
def intsOf : List FT → List Int
  | [] => []
  | t :: ts => t.ints ++ intsOf ts
inductive LT where
  | nil
  | one (t : FT)
  | deep (l : List FT) (m : LT) (r : List FT)
def LT.ints : LT → List Int
  | .nil => []
  | .one t => t.ints
  | .deep l m r => intsOf l ++ (m.ints ++ intsOf r)
def LT.Ok : LT → Prop
  | .nil => True
  | .one _ => True
  | .deep l m r => l.length ≤ 4 ∧ r.length ≤ 4 ∧ m.Ok
def pushR : LT → FT → LT
  | .nil, t => .one t
  | .one a, t => .deep [a] .nil [t]
  | .deep l m [a, b, c, d], t => .deep l (pushR m (.grp a b c)) [d, t]
  | .deep l m r, t => .deep l m (r ++ [t])
theorem intsOf_append (l r : List FT) : intsOf (l ++ r) = intsOf l ++ intsOf r := by
  induction l with
  | nil => rfl
  | cons t l ih => simp [intsOf, ih]
theorem pushR_few {l r : List FT} {m : LT} {t : FT} (h : r.length < 4) : pushR (.deep l m r) t = .deep l m (r ++ [t]) := by
  match r, h with
  | [], _ => rfl
  | [_], _ => rfl
  | [_, _], _ => rfl
  | [_, _, _], _ => rfl
  | _ :: _ :: _ :: _ :: _, h => simp at h; omega
theorem push_ints : ∀ (l : LT) (t : FT), l.Ok → (pushR l t).ints = l.ints ++ t.ints ∧ (pushR l t).Ok
  | .nil, t, _ => ⟨by simp [pushR, LT.ints], trivial⟩
  | .one a, t, _ => ⟨by simp [pushR, LT.ints, intsOf], by simp [pushR, LT.Ok]⟩
  | .deep l m r, t, h => by
    by_cases hr : r.length < 4
    · rw [pushR_few hr]
      refine ⟨?_, h.1, ?_, h.2.2⟩
      · simp [LT.ints, intsOf_append, intsOf]
      · simp; omega
    · have h4 : r.length = 4 := by have := h.2.1; omega
      match r, h4 with
      | [a, b, c, d], _ =>
        obtain ⟨h1, h2⟩ := push_ints m (.grp a b c) h.2.2
        refine ⟨?_, h.1, ?_, ?_⟩
        · simp [pushR, LT.ints, intsOf, h1, FT.ints]
        · simp
        · exact h2

/-- p leads to the thing t: all its blocks lie from B on -/
def Th (W : World) (B : Nat) : Option Addr → FT → Prop
  | p, .leaf x => ∃ b s l m z, p = some ⟨b, 0, none⟩ ∧ B ≤ b ∧ W.heap[b]? = some (.cells #[.int .i64 1, .int .i64 s, .int .i64 l, .int .i64 m, .int .i64 z, .int .i64 x, .slice none 0 0] 95 (0, 0))
  | p, .grp t1 t2 t3 => ∃ b n s l m z x kb cap, ∃ (cur : Array Value) (p1 p2 p3 : Option Addr), p = some ⟨b, 0, none⟩ ∧ B ≤ b ∧ W.heap[b]? = some (.cells #[.int .i64 n, .int .i64 s, .int .i64 l, .int .i64 m, .int .i64 z, .int .i64 x, .slice (some ⟨kb, 0, none⟩) 3 cap] 95 (0, 0)) ∧
      B ≤ kb ∧ W.heap[kb]? = some (.cells cur 93 (0, 0)) ∧ cur[0]? = some (.pointer p1) ∧ cur[1]? = some (.pointer p2) ∧ cur[2]? = some (.pointer p3) ∧ Th W B p1 t1 ∧ Th W B p2 t2 ∧ Th W B p3 t3
theorem Th.up {W W' : World} {B : Nat} (h : Below W.heap.size W W') : ∀ {t : FT} {p : Option Addr}, Th W B p t → Th W' B p t
  | .leaf _, _, ⟨b, s, l, m, z, hp, hB, hc⟩ => ⟨b, s, l, m, z, hp, hB, upb h hc⟩
  | .grp _ _ _, _, ⟨b, n, s, l, m, z, x, kb, cap, cur, p1, p2, p3, hp, hB, hc, hk, hkc, h1, h2, h3, t1, t2, t3⟩ =>
    ⟨b, n, s, l, m, z, x, kb, cap, cur, p1, p2, p3, hp, hB, upb h hc, hk, upb h hkc, h1, h2, h3, Th.up h t1, Th.up h t2, Th.up h t3⟩
/-- what is from B on and is no Tree's box stays -/
def Fr (W W' : World) (B : Nat) : Prop := ∀ b cs ty, B ≤ b → ty ≠ 26 → W.heap[b]? = some (.cells cs ty (0, 0)) → W'.heap[b]? = some (.cells cs ty (0, 0))
/-- as long as nothing from B on is changed -/
theorem Th.frame {W W' : World} {B : Nat} (h : Fr W W' B) : ∀ {t : FT} {p : Option Addr}, Th W B p t → Th W' B p t
  | .leaf _, _, ⟨b, s, l, m, z, hp, hB, hc⟩ => ⟨b, s, l, m, z, hp, hB, h b _ _ hB (by decide) hc⟩
  | .grp _ _ _, _, ⟨b, n, s, l, m, z, x, kb, cap, cur, p1, p2, p3, hp, hB, hc, hk, hkc, h1, h2, h3, t1, t2, t3⟩ =>
    ⟨b, n, s, l, m, z, x, kb, cap, cur, p1, p2, p3, hp, hB, h b _ _ hB (by decide) hc, hk, h kb _ _ hk (by decide) hkc, h1, h2, h3, Th.frame h t1, Th.frame h t2, Th.frame h t3⟩
theorem Th.cells {W : World} {B : Nat} : ∀ {t : FT} {p : Option Addr}, Th W B p t → ∃ b n s l m z x k, p = some ⟨b, 0, none⟩ ∧ B ≤ b ∧ W.heap[b]? = some (.cells #[.int .i64 n, .int .i64 s, .int .i64 l, .int .i64 m, .int .i64 z, .int .i64 x, k] 95 (0, 0)) ∧ (∀ y, t = .leaf y → n = 1 ∧ x = y ∧ k = .slice none 0 0)
  | .leaf x, _, ⟨b, s, l, m, z, hp, hB, hc⟩ => ⟨b, 1, s, l, m, z, x, _, hp, hB, hc, fun y hy => ⟨rfl, by cases hy; rfl, rfl⟩⟩
  | .grp _ _ _, _, ⟨b, n, s, l, m, z, x, kb, cap, cur, p1, p2, p3, hp, hB, hc, _⟩ => ⟨b, n, s, l, m, z, x, _, hp, hB, hc, fun y hy => by cases hy⟩

/-- v is a row of pointers to these things -/
def Dig (W : World) (B : Nat) (v : Value) (ts : List FT) : Prop :=
  ∃ kb cap, ∃ cur : Array Value, v = .slice (some ⟨kb, 0, none⟩) ts.length cap ∧ ts.length ≤ cap ∧ B ≤ kb ∧ W.heap[kb]? = some (.cells cur 93 (0, 0)) ∧ ∀ (i : Nat) (t : FT), ts[i]? = some t → ∃ p : Option Addr, cur[i]? = some (Value.pointer p) ∧ Th W B p t
theorem Dig.up {W W' : World} {B : Nat} {v : Value} {ts : List FT} (h : Dig W B v ts) (hb : Below W.heap.size W W') : Dig W' B v ts := by
  obtain ⟨kb, cap, cur, hv, hlc, hB, hc, ht⟩ := h
  exact ⟨kb, cap, cur, hv, hlc, hB, upb hb hc, fun i t hi => by obtain ⟨p, h1, h2⟩ := ht i t hi; exact ⟨p, h1, h2.up hb⟩⟩
theorem Dig.frame {W W' : World} {B : Nat} {v : Value} {ts : List FT} (h : Dig W B v ts) (hf : Fr W W' B) : Dig W' B v ts := by
  obtain ⟨kb, cap, cur, hv, hlc, hB, hc, ht⟩ := h
  exact ⟨kb, cap, cur, hv, hlc, hB, hf kb _ _ hB (by decide) hc, fun i t hi => by obtain ⟨p, h1, h2⟩ := ht i t hi; exact ⟨p, h1, h2.frame hf⟩⟩
/-- p leads to the level l -/
def Lv (W : World) (B : Nat) : Option Addr → LT → Prop
  | p, .nil => p = none
  | p, .one t => ∃ b n s l m z vl, p = some ⟨b, 0, none⟩ ∧ B ≤ b ∧ W.heap[b]? = some (.cells #[.int .i64 n, .int .i64 s, .int .i64 l, .int .i64 m, .int .i64 z, vl, .slice none 0 0, .pointer none] 98 (0, 0)) ∧ Dig W B vl [t] ∧ ∀ x, t = .leaf x → n = 1
  | p, .deep ls mid rs => ∃ b n s l m z vl vr pm, p = some ⟨b, 0, none⟩ ∧ B ≤ b ∧ W.heap[b]? = some (.cells #[.int .i64 n, .int .i64 s, .int .i64 l, .int .i64 m, .int .i64 z, vl, vr, .pointer pm] 98 (0, 0)) ∧ Dig W B vl ls ∧ Dig W B vr rs ∧ Lv W B pm mid
theorem Lv.up {W W' : World} {B : Nat} (h : Below W.heap.size W W') : ∀ {l : LT} {p : Option Addr}, Lv W B p l → Lv W' B p l
  | .nil, _, hp => hp
  | .one _, _, ⟨b, n, s, l, m, z, vl, hp, hB, hc, hd, h1⟩ => ⟨b, n, s, l, m, z, vl, hp, hB, upb h hc, hd.up h, h1⟩
  | .deep _ _ _, _, ⟨b, n, s, l, m, z, vl, vr, pm, hp, hB, hc, h1, h2, h3⟩ => ⟨b, n, s, l, m, z, vl, vr, pm, hp, hB, upb h hc, h1.up h, h2.up h, Lv.up h h3⟩
theorem Lv.frame {W W' : World} {B : Nat} (h : Fr W W' B) : ∀ {l : LT} {p : Option Addr}, Lv W B p l → Lv W' B p l
  | .nil, _, hp => hp
  | .one _, _, ⟨b, n, s, l, m, z, vl, hp, hB, hc, hd, h1⟩ => ⟨b, n, s, l, m, z, vl, hp, hB, h b _ _ hB (by decide) hc, hd.frame h, h1⟩
  | .deep _ _ _, _, ⟨b, n, s, l, m, z, vl, vr, pm, hp, hB, hc, h1, h2, h3⟩ => ⟨b, n, s, l, m, z, vl, vr, pm, hp, hB, h b _ _ hB (by decide) hc, h1.frame h, h2.frame h, Lv.frame h h3⟩
def RetTh (w : World) (B : Nat) (t : FT) (e : Ending) (w' : World) : Prop := ∃ p, e = .returned (.pointer p) ∧ Th w' B p t ∧ Below w.heap.size w w'
def RetLv (w : World) (B : Nat) (l : LT) (e : Ending) (w' : World) : Prop := ∃ p, e = .returned (.pointer p) ∧ Lv w' B p l ∧ Below w.heap.size w w'
end Go.Proofs.Ytnigadnjppeckaa.finger
