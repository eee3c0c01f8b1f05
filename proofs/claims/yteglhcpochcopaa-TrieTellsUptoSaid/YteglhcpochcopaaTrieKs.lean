/- slices.AppendSeq, Collect, Sort, Sorted over the keys of a trie's map: they come rising. -/
import Derived.Test.YteglhcpochcopaaTrieKy
import Derived.Test.YteglhcpochcopaaRowW
import Derived.Test.YteglhcpochcopaaSrtS
import Derived.Maps.AppendAt
namespace Go.Proofs.Yteglhcpochcopaa.trie
open Go.RowKit Go.Shelf

attribute [local go_sem] Oper.semAt_some

theorem infoU8 : (Try.prog.info? 5).map (fun i => (i.zero, i.size, i.bytes)) = some (some (.int .u8 0), 1, 1) := by kernel_rfl
theorem bytes_length : bytes.length = 256 := by unfold bytes; simp
theorem keys_few {w : World} {f : UInt8 → Option Addr} {mo : Option Nat} (h : MapAt w f mo) : MapN w mo ≤ 256 := by
  cases mo with
  | none => exact Nat.zero_le _
  | some kb =>
    obtain ⟨es, cl, hb, hst, he⟩ := h
    have e : MapN w (some kb) = es.size := by unfold MapN; simp only; rw [hb]
    rw [e]
    have hn : (es.toList.map kbyte).Nodup := by
      have h := hst.2.2
      unfold List.Nodup at h ⊢
      rw [List.pairwise_map] at h ⊢
      refine h.imp_of_mem ?_
      intro a b ha hb hab e
      obtain ⟨c, _, e1, _⟩ := he.of a ha
      obtain ⟨d, _, e2, _⟩ := he.of b hb
      rw [kbyte_of e1, kbyte_of e2] at e
      exact hab (by rw [e1, e2, e])
    have h1 := sum_keys hn (fun c => if c ∈ es.toList.map kbyte then 1 else 0) (fun c hc => if_neg hc)
    have h2 : ∀ l : List UInt8, (l.map fun c => if c ∈ es.toList.map kbyte then 1 else 0).sum ≤ l.length := by
      intro l
      induction l with
      | nil => exact Nat.le_refl _
      | cons x l ih => simp only [List.map_cons, List.sum_cons, List.length_cons]; split <;> omega
    have h3 : ∀ l : List UInt8, (∀ c ∈ l, c ∈ es.toList.map kbyte) → (l.map fun c => if c ∈ es.toList.map kbyte then 1 else 0).sum = l.length := by
      intro l
      induction l with
      | nil => intro _; rfl
      | cons x l ih =>
        intro hl
        simp only [List.map_cons, List.sum_cons, List.length_cons]
        rw [if_pos (hl x (List.mem_cons_self ..)), ih fun c hc => hl c (List.mem_cons_of_mem _ hc)]
        omega
    have h4 := h2 bytes
    rw [bytes_length] at h4
    have h5 := h3 (es.toList.map kbyte) fun c hc => hc
    rw [h1, List.length_map, Array.length_toList] at h5
    omega

/-- the keys of a map -/
def KeysOf (f : UInt8 → Option Addr) (ys : List UInt8) : Prop := ys.Nodup ∧ ∀ c, c ∈ ys ↔ f c ≠ none
set_option maxRecDepth 100000 in
set_option maxHeartbeats 4000000 in
theorem appendSeq_any (w0 w : World) (hb0 : Below w0.heap.size w0 w) (Bn : Nat) (mo : Option Nat) (f : UInt8 → Option Addr) (hBn : w.cell? ⟨Bn, 0, none⟩ = some (.map mo)) (hm : MapAt w f mo) :
    Calls Try.prog 35 #[.slice none 0 0, .func (.func 33) #[] #[.pointer (some ⟨Bn, 0, none⟩)]] w fun e w' =>
      ∃ v ys, e = .returned v ∧ KeysOf f ys ∧ w'.ownsRow w0.heap.size 5 1 v ys.length (ys.map bv) ∧ Below w0.heap.size w0 w' := by
  obtain ⟨i0, hi, hz0, hz1, hz2⟩ := info_parts infoU8
  have hsw := hb0.size
  have hfew := keys_few (hm.up (belowAlloc w (.cells #[.slice none 0 0] 55)))
  refine (callsIn_wide (n := 5)).1 ?_
  refine callsIn_of_wp_marks Try.func35 rfl trivial ?_ rfl
  simp only [Try.ntmps35, List.size_toArray, List.length_cons, List.length_nil, Nat.reduceAdd, Nat.reduceSub, Array.replicate_succ, Array.replicate_zero, List.push_toArray, List.append_toArray, List.nil_append, List.cons_append]
  gi_wp2
  have hbW := hb0.alloc hsw (.cells #[.slice none 0 0] 55)
  have hv0 := Boxed.new w 55 (.slice none 0 0)
  have hBn1 := upc (belowAlloc w (.cells #[.slice none 0 0] 55)) hBn
  have hm1 := hm.up (belowAlloc w (.cells #[.slice none 0 0] 55))
  refine wpIn_rangeFunc_ownF rfl (by omega) (gf := 33) (lb := #[.pointer (some ⟨Bn, 0, none⟩)]) (by simp [go_sem]) trivial (enters_of Try.func33 (by kernel_rfl) rfl)
    (keys_stops Fence.wide _ trivial rfl (by omega) Bn _ mo f hBn1 hm1) walksK_t walksK_b (Below.refl _ _) (fun _ => rfl)
    (fun pre W => (∃ v, Boxed W w.heap.size 55 v ∧ W.ownsRow w0.heap.size 5 1 v pre.length (pre.map bv) ∧ True) ∧ Below w0.heap.size w0 W) (fun _ _ _ => False)
    (OwnFrom.and (Own.from (holdsRow_own w0.heap.size w.heap.size 55 5 1 (fun pre : List UInt8 => pre.length) (fun pre => pre.map bv) (fun _ _ => True)) _) (ownFrom_below (Nat.le_refl _) (by simp; omega))) (fun _ _ _ _ _ hs _ _ => hs)
    ⟨⟨_, hv0, World.ownsRow_nil _ _ _ _, trivial⟩, hbW⟩
    (fun x => { tmps := #[.slice none 0 0, .func (.func 33) #[] #[.pointer (some ⟨Bn, 0, none⟩)], .pointer (some ⟨w.heap.size, 0, none⟩), undef, .slice none 0 0, bv x, .func (.func 33) #[] #[.pointer (some ⟨Bn, 0, none⟩)], bv x, undef, undef, undef, undef, undef], defers := [] }) ?assign ?body ?done ?stop
  case assign =>
    intro l x W K hK
    gi_wp2
    exact hK
  case body =>
    rintro l pre x W ⟨⟨v, hv, hrow, _⟩, hB⟩ hlen
    have hcell := hv.cell
    have hsz := hB.size
    have hl2 : pre.length < 256 := Nat.lt_of_lt_of_le hlen hfew
    unfold bv
    gi_wp2_with (gi_at_builtin; refine wpListIn_append_own _ rfl _ _ 55 rfl w0.heap.size 5 i0 (.int .u8 0) 1 1 Try.underlying55 hi hz0 hz1 hz2 rfl (by decide) _ _ _ rfl (hrow.alloc _) ⟨W.heap.size, 0, none⟩ 1 1 [bv x] rfl rfl (cell_one_new _ _ _) (by simp [Value.oneCell', bv]) (by unfold maxLen; omega) (by omega) (by simp; omega) ?_; intro v' w1 hown' hgrow _; obtain ⟨g', cap', rfl⟩ := ownsRow_succ hown'; obtain ⟨hv1, hv2, hr2, hk2, hb2⟩ := hv.appended (by decide) hrow hB.size hsw hown' hgrow; have hc1 := hv1.cell; have hf1 := hv1.frozen)
    unfold bv at hr2
    exact ⟨hk2, hk2.walks, ⟨_, hv2, by simpa using hr2, trivial⟩, hB.trans hb2⟩
  case done =>
    rintro D ys W hD hys ⟨⟨v, hv, hrow, _⟩, hB⟩ hK
    have hc := hv.cell
    gi_wp2
    refine ⟨by simp, .inl ⟨_, _, rfl, run_takeDeferred hK, ?_⟩⟩
    exact ⟨_, results_tmp rfl _ _ _, v, ys, rfl, hys, ownsRow_putObj hrow _ hK rfl, hB.trans (belowK_b (w := w0) (Nat.le_refl _) W D _ _ (by simp at hD; omega) hK rfl rfl)⟩
  case stop =>
    rintro D c pre W _ _ h _
    exact h.elim
set_option maxHeartbeats 1000000 in
theorem collect_any (w0 w : World) (hb0 : Below w0.heap.size w0 w) (Bn : Nat) (mo : Option Nat) (f : UInt8 → Option Addr) (hBn : w.cell? ⟨Bn, 0, none⟩ = some (.map mo)) (hm : MapAt w f mo) :
    Calls Try.prog 31 #[.func (.func 33) #[] #[.pointer (some ⟨Bn, 0, none⟩)]] w fun e w' =>
      ∃ v ys, e = .returned v ∧ KeysOf f ys ∧ w'.ownsRow w0.heap.size 5 1 v ys.length (ys.map bv) ∧ Below w0.heap.size w0 w' := by
  have HA := Lib.hid (appendSeq_any w0 w hb0 Bn mo f hBn hm)
  clear hb0 hBn hm
  go_enter Try.func31, Try.ntmps31
  go_wp2_with fail
  refine HA.out.mono ?_
  rintro e w1 ⟨v, ys, rfl, hk, ho, hb⟩
  have H1 := Lib.hid (And.intro hk (And.intro ho hb))
  clear hk ho hb
  go_wp2_with fail
  go_ret
  exact ⟨v, ys, rfl, H1.out.1, H1.out.2.1, H1.out.2.2⟩
end Go.Proofs.Yteglhcpochcopaa.trie
