/- Tries in memory: nodes, maps from bytes to nodes; what a look into a map gives, and what is left of a map that is written. -/
import Derived.Test.YteglhcpochcopaaTrieP
import Derived.Test.YteglhcpochcopaaMore
import Derived.Test.YteglhcpochcopaaProg
import Derived.Maps.RangeRun
import Derived.Shelf.SlMaps.Clone
namespace Go.Proofs.Yteglhcpochcopaa.trie
open Go.RowKit

def bv (c : UInt8) : Value := .int .u8 (c.toNat : Int)
def sv (s : Wd) : Value := .string ⟨s.toArray⟩
theorem bv_inj {a b : UInt8} (h : bv a = bv b) : a = b := by
  unfold bv at h
  injection h with _ h
  exact toNat_inj' (by omega)
/-- what the entries of a map lead to -/
structure Ents (es : Array MapEntry) (f : UInt8 → Option Addr) : Prop where
  of : ∀ x ∈ es.toList, ∃ c a, x.key = bv c ∧ x.val = .pointer (some a) ∧ f c = some a
  has : ∀ c a, f c = some a → ∃ x ∈ es.toList, x.key = bv c
theorem Ents.keys {es : Array MapEntry} {f : UInt8 → Option Addr} (h : Ents es f) : ∀ x ∈ es.toList, MapKept.IsKey (.int .u8) x.key := by
  intro x hx
  obtain ⟨c, a, hk, _⟩ := h.of x hx
  rw [hk]
  rfl
def MapAt (w : World) (f : UInt8 → Option Addr) : Option Nat → Prop
  | none => ∀ c, f c = none
  | some kb => ∃ es clock, w.heap[kb]? = some (.map es clock) ∧ MapKept.Stamped es clock ∧ Ents es f
def nodeC (v : Option Int) (n : Int) (mo : Option Nat) : Array Value := #[.int .i64 (v.getD 0), .int .i64 n, .bool v.isSome, .map mo]
def In (w : World) : TT → Option Addr → Prop
  | .nil, p => p = none
  | .node v k, p => ∃ b mo f, p = some ⟨b, 0, none⟩ ∧ w.heap[b]? = some (.cells (nodeC v (cnt (.node v k) : Nat) mo) 50 (0, 0)) ∧ MapAt w f mo ∧ ∀ c, In w (k c) (f c)

/-- what must stay for a trie to stay -/
def Stays (w w' : World) : Prop := (∀ (b : Nat) c z, w.heap[b]? = some (Obj.cells c 50 z) → w'.heap[b]? = some (Obj.cells c 50 z)) ∧ ∀ (b : Nat) es cl, w.heap[b]? = some (Obj.map es cl) → w'.heap[b]? = some (Obj.map es cl)
theorem Stays.of {w w' : World} (h : Below w.heap.size w w') : Stays w w' := ⟨fun _ _ _ hb => upb h hb, fun _ _ _ hb => upb h hb⟩
theorem MapAt.stays {w w' : World} {f : UInt8 → Option Addr} {mo : Option Nat} (hs : Stays w w') (h : MapAt w f mo) : MapAt w' f mo := by
  cases mo with
  | none => exact h
  | some kb => obtain ⟨es, cl, hb, h1, h2⟩ := h; exact ⟨es, cl, hs.2 _ _ _ hb, h1, h2⟩
theorem MapAt.up {w w' : World} {f : UInt8 → Option Addr} {mo : Option Nat} (hs : Below w.heap.size w w') (h : MapAt w f mo) : MapAt w' f mo := h.stays (.of hs)
theorem In.stays {w w' : World} (hs : Stays w w') : ∀ {t : TT} {p : Option Addr}, In w t p → In w' t p
  | .nil, _, h => h
  | .node _ _, _, ⟨b, mo, f, e, hb, hm, hk⟩ => ⟨b, mo, f, e, hs.1 _ _ _ hb, hm.stays hs, fun c => In.stays hs (hk c)⟩
theorem In.up {w w' : World} {t : TT} {p : Option Addr} (h : In w t p) (hs : Below w.heap.size w w') : In w' t p := h.stays (.of hs)
theorem In.isnil {w : World} {t : TT} (h : In w t none) : t = .nil := by
  cases t with
  | nil => rfl
  | node v k => obtain ⟨b, mo, f, e, _⟩ := h; cases e

/-- what a call that hands back a trie leaves -/
def RetT (w : World) (t : TT) (e : Ending) (w' : World) : Prop := ∃ p, e = .returned (.pointer p) ∧ In w' t p ∧ Below w.heap.size w w'

/-- m[c] -/
theorem look {w : World} {f : UInt8 → Option Addr} {mo : Option Nat} (h : MapAt w f mo) (c : UInt8) : (Instr.lookup 48 (.map mo) (bv c) false).run Try.prog w = .ok (.pointer (f c)) w := by
  have hk : MapKept.IsKey (.int .u8) (bv c) := rfl
  have hu : Try.prog.underlying 48 = some (.map 5 24) := Try.underlying48
  cases mo with
  | none =>
    rw [h c]
    simp [Instr.lookup, run_underlying hu, MapKept.run_checkKey Try.underlying5 hk, MapKept.run_findKey (l := []) Try.underlying5 (show Instr.findNow (.int .u8) (bv c) [] 0 = some none from rfl), Result.andThen]
  | some kb =>
    obtain ⟨es, cl, hb, hst, he⟩ := h
    rcases MapKept.findNow_spec hk es.toList 0 he.keys with ⟨h1, h2⟩ | ⟨j, e, h1, h2, h3⟩
    · have hf : f c = none := by
        cases hfc : f c with
        | none => rfl
        | some a => obtain ⟨x, hx, e⟩ := he.has c a hfc; exact absurd e (h2 x hx)
      rw [hf]
      simp [Instr.lookup, run_underlying hu, MapKept.run_getObj_map hb, MapKept.run_checkKey Try.underlying5 hk, MapKept.run_findKey Try.underlying5 h1, Result.andThen]
    · obtain ⟨c', a, e1, e2, e3⟩ := he.of e (List.mem_of_getElem? h2)
      have hc : c' = c := bv_inj (by rw [← e1, h3])
      subst hc
      rw [e3]
      simp [Instr.lookup, run_underlying hu, MapKept.run_getObj_map hb, MapKept.run_checkKey Try.underlying5 hk, MapKept.run_findKey Try.underlying5 h1, e2, Result.andThen]

def updO (f : UInt8 → Option Addr) (c : UInt8) (p : Option Addr) (d : UInt8) : Option Addr := if d = c then p else f d
/-- m[c] = a -/
theorem update {w : World} {f : UInt8 → Option Addr} {kb : Nat} (h : MapAt w f (some kb)) (c : UInt8) (a : Addr) : ∃ o, (Instr.mapUpdate 48 (.map (some kb)) (bv c) (.pointer (some a))).run Try.prog w = .ok () (ChangeMaps.setBlock w kb o) ∧
    ∀ w' : World, w'.heap[kb]? = some o → MapAt w' (updO f c (some a)) (some kb) := by
  have hk : MapKept.IsKey (.int .u8) (bv c) := rfl
  have hu : Try.prog.underlying 48 = some (.map 5 24) := Try.underlying48
  obtain ⟨es, cl, hb, hst, he⟩ := h
  rcases MapKept.findNow_spec hk es.toList 0 he.keys with ⟨h1, h2⟩ | ⟨j, e, h1, h2, h3⟩
  · refine ⟨.map (es.push { key := bv c, val := .pointer (some a), born := cl }) (cl + 1), ?_, fun w' hw' => ⟨_, _, hw', MapKept.stamped_push hst h2, ⟨?_, ?_⟩⟩⟩
    · simp [ChangeMaps.setBlock, Instr.mapUpdate, run_underlying hu, MapKept.run_getObj_map hb, MapKept.run_checkKey Try.underlying5 hk, MapKept.run_findKey Try.underlying5 h1, MapKept.run_setObj_map _ hb, Result.andThen]
    · intro x hx
      simp only [Array.toList_push, List.mem_append, List.mem_singleton] at hx
      rcases hx with hx | rfl
      · obtain ⟨c', a', e1, e2, e3⟩ := he.of x hx
        refine ⟨c', a', e1, e2, ?_⟩
        have : c' ≠ c := fun e => h2 x hx (by rw [e1, e])
        simp [updO, this, e3]
      · exact ⟨c, a, rfl, rfl, by simp [updO]⟩
    · intro d a' hd
      unfold updO at hd
      by_cases hdc : d = c
      · subst hdc
        exact ⟨{ key := bv d, val := .pointer (some a), born := cl }, by simp, rfl⟩
      · rw [if_neg hdc] at hd
        obtain ⟨x, hx, e⟩ := he.has d a' hd
        exact ⟨x, by simp at hx ⊢; exact .inl hx, e⟩
  · have hj : es[j]? = some e := by simpa using h2
    have hkey : ∀ e', es[j]? = some e' → ({ e' with key := bv c, val := .pointer (some a) } : MapEntry).key = e'.key := fun e' he' => by rw [hj] at he'; cases he'; exact h3.symm
    refine ⟨.map (es.modify j fun e => { e with key := bv c, val := .pointer (some a) }) cl, ?_, fun w' hw' => ⟨_, _, hw', MapKept.stamped_modify hst _ _ (fun _ _ => rfl) (fun e' _ he' => hkey e' he'), ⟨?_, ?_⟩⟩⟩
    · simp [ChangeMaps.setBlock, Instr.mapUpdate, run_underlying hu, MapKept.run_getObj_map hb, MapKept.run_checkKey Try.underlying5 hk, MapKept.run_findKey Try.underlying5 h1, hj, h3, MapKept.run_keyThatStays hk, MapKept.run_setObj_map _ hb, Result.andThen]
    · intro x hx
      rw [Array.mem_toList_iff, Array.mem_iff_getElem?] at hx
      obtain ⟨i, hi⟩ := hx
      rw [Array.getElem?_modify] at hi
      split at hi
      · rename_i hij
        subst hij
        rw [hj] at hi
        simp at hi
        subst hi
        exact ⟨c, a, rfl, rfl, by simp [updO]⟩
      · rename_i hij
        have hx : x ∈ es.toList := by rw [Array.mem_toList_iff, Array.mem_iff_getElem?]; exact ⟨i, hi⟩
        obtain ⟨c', a', e1, e2, e3⟩ := he.of x hx
        refine ⟨c', a', e1, e2, ?_⟩
        have : c' ≠ c := fun e' => by
          subst e'
          have hnd := hst.2.2
          have hl1 : i < es.toList.length := by simpa using (Array.getElem?_eq_some_iff.1 hi).1
          have hl2 : j < es.toList.length := by simpa using (Array.getElem?_eq_some_iff.1 hj).1
          have e1' : (es.toList.map (·.key))[i]? = (es.toList.map (·.key))[j]? := by simp [hi, hj, e1, h3]
          have := (List.getElem?_inj (by simpa using hl1) hnd).1 e1'
          exact hij this.symm
        simp [updO, this, e3]
    · intro d a' hd
      unfold updO at hd
      have hmk : (es.modify j fun e => { e with key := bv c, val := .pointer (some a) }).toList.map (·.key) = es.toList.map (·.key) := MapKept.modify_keys j _ hkey
      have hin : ∀ d, (∃ x ∈ es.toList, x.key = bv d) → ∃ x ∈ (es.modify j fun e => { e with key := bv c, val := .pointer (some a) }).toList, x.key = bv d := by
        rintro d ⟨x, hx, e⟩
        have hm : bv d ∈ es.toList.map (·.key) := List.mem_map.2 ⟨x, hx, e⟩
        rw [← hmk] at hm
        obtain ⟨y, hy, e'⟩ := List.mem_map.1 hm
        exact ⟨y, hy, e'⟩
      by_cases hdc : d = c
      · subst hdc
        exact hin _ ⟨e, List.mem_of_getElem? h2, h3⟩
      · rw [if_neg hdc] at hd
        exact hin _ (he.has d a' hd)
/-- delete(m, c) -/
theorem delete_run {w : World} {f : UInt8 → Option Addr} {kb : Nat} (h : MapAt w f (some kb)) (c : UInt8) : ∃ o, (∀ ty, (Builtin.delete_ #[48, 5] ty #[.map (some kb), bv c]).run Try.prog w = .ok (.tuple #[]) (ChangeMaps.setBlock w kb o)) ∧
    ∀ w' : World, w'.heap[kb]? = some o → MapAt w' (updO f c none) (some kb) := by
  have hk : MapKept.IsKey (.int .u8) (bv c) := rfl
  have hu : Try.prog.underlying 48 = some (.map 5 24) := Try.underlying48
  obtain ⟨es, cl, hb, hst, he⟩ := h
  rcases MapKept.findNow_spec hk es.toList 0 he.keys with ⟨h1, h2⟩ | ⟨j, e, h1, h2, h3⟩
  · refine ⟨.map es cl, ?_, fun w' hw' => ⟨_, _, hw', hst, ⟨?_, ?_⟩⟩⟩
    · intro ty; simp [ChangeMaps.setBlock, Builtin.delete_, run_underlying hu, MapKept.run_getObj_map hb, MapKept.run_checkKey Try.underlying5 hk, MapKept.run_findKey Try.underlying5 h1, MapKept.run_setObj_map _ hb, Result.andThen]
    · intro x hx
      obtain ⟨c', a', e1, e2, e3⟩ := he.of x hx
      refine ⟨c', a', e1, e2, ?_⟩
      have : c' ≠ c := fun e => h2 x hx (by rw [e1, e])
      simp [updO, this, e3]
    · intro d a' hd
      unfold updO at hd
      by_cases hdc : d = c
      · rw [if_pos hdc] at hd; cases hd
      · rw [if_neg hdc] at hd; exact he.has d a' hd
  · have hj : es[j]? = some e := by simpa using h2
    have hjl : j < es.size := (Array.getElem?_eq_some_iff.1 hj).1
    have hel : (es.eraseIdxIfInBounds j).toList = es.toList.eraseIdx j := by
      unfold Array.eraseIdxIfInBounds
      rw [dif_pos hjl, Array.toList_eraseIdx]
    have hne : ∀ x ∈ es.toList.eraseIdx j, x.key ≠ bv c := by
      intro x hx e'
      rw [List.mem_eraseIdx_iff_getElem?] at hx
      obtain ⟨i, hij, hi⟩ := hx
      have hl1 : i < es.toList.length := (List.getElem?_eq_some_iff.1 hi).1
      have e1' : (es.toList.map (·.key))[i]? = (es.toList.map (·.key))[j]? := by rw [List.getElem?_map, List.getElem?_map, hi, h2]; simp [h3, e']
      exact hij ((List.getElem?_inj (by simpa using hl1) hst.2.2).1 e1')
    refine ⟨.map (es.eraseIdxIfInBounds j) cl, ?_, fun w' hw' => ⟨_, _, hw', MapKept.stamped_erase hst _, ⟨?_, ?_⟩⟩⟩
    · intro ty; simp [ChangeMaps.setBlock, Builtin.delete_, run_underlying hu, MapKept.run_getObj_map hb, MapKept.run_checkKey Try.underlying5 hk, MapKept.run_findKey Try.underlying5 h1, MapKept.run_setObj_map _ hb, Result.andThen]
    · intro x hx
      rw [hel] at hx
      obtain ⟨c', a', e1, e2, e3⟩ := he.of x (List.mem_of_mem_eraseIdx hx)
      refine ⟨c', a', e1, e2, ?_⟩
      have : c' ≠ c := fun e => hne x hx (by rw [e1, e])
      simp [updO, this, e3]
    · intro d a' hd
      unfold updO at hd
      by_cases hdc : d = c
      · rw [if_pos hdc] at hd; cases hd
      · rw [if_neg hdc] at hd
        obtain ⟨x, hx, e'⟩ := he.has d a' hd
        refine ⟨x, ?_, e'⟩
        rw [hel, List.mem_eraseIdx_iff_getElem?]
        obtain ⟨i, hi⟩ := List.mem_iff_getElem?.1 hx
        refine ⟨i, ?_, hi⟩
        rintro rfl
        rw [h2] at hi
        cases hi
        exact hdc (bv_inj (by rw [← e', h3]))

/-- the sum over what has come out of a range -/
def sumSeen (g : MapEntry → Nat) : List MapEntry → Array Nat → Nat
  | [], _ => 0
  | x :: l, seen => (if seen.contains x.born then g x else 0) + sumSeen g l seen
theorem sumSeen_other (g : MapEntry → Nat) (seen : Array Nat) (b : Nat) : ∀ (es : List MapEntry), b ∉ es.map (·.born) → sumSeen g es (seen.push b) = sumSeen g es seen
  | [], _ => rfl
  | x :: l, h => by
    have hx : (x.born == b) = false := by
      cases hc : x.born == b with
      | false => rfl
      | true => exact absurd (List.mem_cons.2 (Or.inl (beq_iff_eq.1 hc).symm)) h
    have ih := sumSeen_other g seen b l (fun e => h (List.mem_cons.2 (Or.inr e)))
    simp only [sumSeen, contains_push, hx, Bool.or_false, ih]
theorem sumSeen_push (g : MapEntry → Nat) (seen : Array Nat) (e : MapEntry) (hs : seen.contains e.born = false) : ∀ (es : List MapEntry), (es.map (·.born)).Nodup → e ∈ es → sumSeen g es (seen.push e.born) = sumSeen g es seen + g e
  | x :: l, hn, he => by
    have hn' : x.born ∉ l.map (·.born) ∧ (l.map (·.born)).Nodup := List.nodup_cons.1 hn
    rcases List.mem_cons.1 he with rfl | h
    · simp only [sumSeen, contains_push, hs, beq_self_eq_true, Bool.or_true, if_true, Bool.false_eq_true, if_false, sumSeen_other g seen e.born l hn'.1]
      omega
    · have hx : (x.born == e.born) = false := by
        cases hc : x.born == e.born with
        | false => rfl
        | true => exact absurd (by rw [beq_iff_eq.1 hc]; exact List.mem_map.2 ⟨e, h, rfl⟩) hn'.1
      simp only [sumSeen, contains_push, hx, Bool.or_false, sumSeen_push g seen e hs l hn'.2 h]
      omega
theorem sumSeen_full (g : MapEntry → Nat) (seen : Array Nat) : ∀ (es : List MapEntry), (∀ x ∈ es, seen.contains x.born = true) → sumSeen g es seen = (es.map g).sum
  | [], _ => rfl
  | x :: l, h => by
    simp only [sumSeen, h x (List.mem_cons.2 (Or.inl rfl)), if_true, List.map_cons, List.sum_cons, sumSeen_full g seen l (fun y hy => h y (List.mem_cons.2 (Or.inr hy)))]
theorem sumSeen_none (g : MapEntry → Nat) : ∀ (es : List MapEntry), sumSeen g es #[] = 0
  | [] => rfl
  | x :: l => by
    have : (#[] : Array Nat).contains x.born = false := by simp
    simp only [sumSeen, this, Bool.false_eq_true, if_false, sumSeen_none g l]
/-- the byte of an entry -/
def kbyte (x : MapEntry) : UInt8 := match x.key with
  | .int _ n => UInt8.ofNat n.toNat
  | _ => 0
theorem kbyte_of {x : MapEntry} {c : UInt8} (h : x.key = bv c) : kbyte x = c := by
  unfold kbyte
  rw [h]
  show UInt8.ofNat (c.toNat : Int).toNat = c
  simp
/-- all that a map's nodes hold -/
theorem sum_ents {w : World} {es : Array MapEntry} {cl : Nat} {f : UInt8 → Option Addr} {k : UInt8 → TT} (hst : MapKept.Stamped es cl) (he : Ents es f) (hk : ∀ c, In w (k c) (f c)) :
    (es.toList.map fun x => cnt (k (kbyte x))).sum = (bytes.map fun c => cnt (k c)).sum := by
  have e : (es.toList.map fun x => cnt (k (kbyte x))) = (es.toList.map kbyte).map fun c => cnt (k c) := by simp
  rw [e]
  refine sum_keys ?_ _ fun c hc => ?_
  · have h := hst.2.2
    unfold List.Nodup at h ⊢
    rw [List.pairwise_map] at h ⊢
    refine h.imp_of_mem ?_
    intro a b ha hb hab e
    obtain ⟨c, _, e1, _⟩ := he.of a ha
    obtain ⟨d, _, e2, _⟩ := he.of b hb
    rw [kbyte_of e1, kbyte_of e2] at e
    exact hab (by rw [e1, e2, e])
  · have hf : f c = none := by
      cases hfc : f c with
      | none => rfl
      | some a =>
        obtain ⟨x, hx, e⟩ := he.has c a hfc
        exact absurd (List.mem_map.2 ⟨x, hx, kbyte_of e⟩) hc
    have h := hk c
    rw [hf] at h
    rw [h.isnil, cnt_nil]
theorem nodeC0 {w : World} {b : Nat} {v0 v1 v2 v3 : Value} {t : Nat} (h : w.heap[b]? = some (.cells #[v0, v1, v2, v3] t (0, 0))) : w.cell? ⟨b, 0, none⟩ = some v0 := by simp [World.cell?, h]
theorem nodeC1 {w : World} {b : Nat} {v0 v1 v2 v3 : Value} {t : Nat} (h : w.heap[b]? = some (.cells #[v0, v1, v2, v3] t (0, 0))) : w.cell? ⟨b, 1, none⟩ = some v1 := by simp [World.cell?, h]
theorem nodeC2 {w : World} {b : Nat} {v0 v1 v2 v3 : Value} {t : Nat} (h : w.heap[b]? = some (.cells #[v0, v1, v2, v3] t (0, 0))) : w.cell? ⟨b, 2, none⟩ = some v2 := by simp [World.cell?, h]
theorem nodeC3 {w : World} {b : Nat} {v0 v1 v2 v3 : Value} {t : Nat} (h : w.heap[b]? = some (.cells #[v0, v1, v2, v3] t (0, 0))) : w.cell? ⟨b, 3, none⟩ = some v3 := by simp [World.cell?, h]
theorem nodeF {w : World} {b o : Nat} {c : Array Value} {t : Nat} (h : w.heap[b]? = some (.cells c t (0, 0))) : w.frozen? ⟨b, o, none⟩ = false := by simp [World.frozen?, h]
theorem nodeSet {w : World} {b o : Nat} {c : Array Value} {t : Nat} {u : Value} (h : w.heap[b]? = some (.cells c t (0, 0))) : (w.setCell ⟨b, o, none⟩ u).heap[b]? = some (.cells (c.setIfInBounds o u) t (0, 0)) := by
  simp [World.setCell, Array.getElem?_modify, h]
end Go.Proofs.Yteglhcpochcopaa.trie
