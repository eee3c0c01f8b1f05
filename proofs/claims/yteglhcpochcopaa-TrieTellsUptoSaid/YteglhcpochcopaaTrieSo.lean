/- slices.Sort and Sorted over the keys of a trie's map: they come rising. -/
import Derived.Test.YteglhcpochcopaaTrieKs
import Derived.Test.YteglhcpochcopaaSrtS
import Derived.Test.YteglhcpochcopaaSrtX
namespace Go.Proofs.Yteglhcpochcopaa.trie
open Go.RowKit
open Go.Sort (PermIn SortedIn)
open srt (Rw On lt)

theorem Bq (w : World) : Below w.heap.size w w := Below.refl _ _
set_option maxHeartbeats 1000000 in
theorem ins_nil (w : World) : Calls Try.prog 38 #[.slice none 0 0, .int .i64 0, .int .i64 0] w fun e w' => e = .returned (.tuple #[]) ∧ w = w' := by
  go_enter Try.func38, Try.ntmps38
  go_wp2_with fail
  refine wp_loop_rounds 1 ?_
  rw [rounds_succ]
  go_wp2_with fail
  go_end0
  exact ⟨rfl, rfl⟩
set_option maxHeartbeats 1000000 in
theorem pdq_nil (w : World) : Calls Try.prog 36 #[.slice none 0 0, .int .i64 0, .int .i64 0, .int .i64 0] w fun e w' => e = .returned (.tuple #[]) ∧ Below w.heap.size w w' := by
  have HC := Lib.hid (fun W => ins_nil W)
  go_enter Try.func36, Try.ntmps36
  go_wp2_with fail
  refine wp_loop_rounds 1 ?_
  rw [rounds_succ]
  go_wp2_with fail
  refine (HC.out _).mono ?_
  rintro e w1 ⟨rfl, rfl⟩
  go_wp2_with fail
  (try simp only [Exit.inBlock, Exit.then])
  refine bodyPost_ret (results_none rfl _ _ _) rfl ?_
  exact ⟨rfl, Below.refl _ _⟩
set_option maxHeartbeats 1000000 in
theorem sort_nil (w : World) : Calls Try.prog 32 #[.slice none 0 0] w fun e w' => e = .returned (.tuple #[]) ∧ Below w.heap.size w w' := by
  have HL : Hid (∀ W, Calls Try.prog 37 #[.int .u64 ((0 : Nat) : Int)] W fun e w' => e = .returned (.int .i64 (0 : Nat)) ∧ W = w') := Lib.hid (fun W => srt.len_any 0 W (by decide))
  have HC := Lib.hid (fun W => pdq_nil W)
  go_enter Try.func32, Try.ntmps32
  go_wp2_with fail
  refine (HL.out _).mono ?_
  rintro e w1 ⟨rfl, rfl⟩
  go_wp2_with fail
  refine (HC.out _).mono ?_
  rintro e w2 ⟨rfl, hb⟩
  have HB := Lib.hid hb
  clear hb
  go_wp2_with fail
  go_end0
  exact ⟨rfl, HB.out⟩
set_option maxHeartbeats 1000000 in
theorem sort_any (w : World) (b n c : Nat) (d : Array Nat) (h : Rw w b d) (hn : d.size = n) (hb : n ≤ 256) :
    Calls Try.prog 32 #[.slice (some ⟨b, 0, none⟩) n c] w fun e w' => ∃ d', e = .returned (.tuple #[]) ∧ PermIn 0 n d d' ∧ SortedIn lt 0 n d' ∧ On b w w' ∧ Rw w' b d' := by
  have HL := Lib.hid (fun W => srt.len_any n W (by omega))
  have hk : Lib.bitLen n ≤ 100 := by
    rcases Nat.eq_zero_or_pos n with h0 | h0
    · subst h0; decide
    · have h1 := (srt.pow_len n h0 (by omega)).1
      omega
  obtain ⟨k, hkk⟩ : ∃ k, k = Lib.bitLen n := ⟨_, rfl⟩
  rw [← hkk] at HL hk
  have HC := Lib.hid (fun W (hW : Below w.heap.size w W) => srt.pdq_any n W b n c 0 n k d (by omega) (h.up hW) hn (by omega) (by omega) (by omega) hk (Or.inl rfl))
  have w1 : IntKind.u64.wrap (n : Int) = (n : Int) := by rw [IntKind.wrap_u64]; omega
  clear hkk h hn hk
  go_enter Try.func32, Try.ntmps32
  go_wp2_with fail
  refine (HL.out _).mono ?_
  rintro e w1 ⟨rfl, rfl⟩
  go_wp2_with fail
  refine (HC.out _ (Bq _)).mono ?_
  rintro e w2 ⟨d', rfl, h1, h2, h3, h4⟩
  have HB := Lib.hid (And.intro h1 (And.intro h2 (And.intro h3 h4)))
  clear h1 h2 h3 h4
  go_wp2_with fail
  go_end0
  exact ⟨d', rfl, HB.out.1, HB.out.2.1, HB.out.2.2.1, HB.out.2.2.2⟩

theorem keys_le {f : UInt8 → Option Addr} {ys : List UInt8} (h : KeysOf f ys) : ys.length ≤ 256 := by
  have h2 : (ys.map UInt8.toNat).Nodup := by
    have hn := h.1
    unfold List.Nodup at hn ⊢
    rw [List.pairwise_map]
    exact hn.imp fun h e => h (UInt8.toNat_inj.1 e)
  have h3 : (ys.map UInt8.toNat) ⊆ List.range 256 := by
    intro x hx
    obtain ⟨c, _, rfl⟩ := List.mem_map.1 hx
    exact List.mem_range.2 c.toNat_lt
  have h4 := h2.length_le_of_subset h3
  simpa using h4

/-- numbers that rise -/
def Rising (ks : List UInt8) : Prop := ks.Pairwise fun a b => a.toNat < b.toNat
theorem sorted_list {ys : List UInt8} {d d' : Array Nat} (hd : d = (ys.map UInt8.toNat).toArray) (hn : ys.Nodup) (hp : PermIn 0 ys.length d d') (hs : SortedIn lt 0 ys.length d') :
    ∃ ks : List UInt8, ks.length = ys.length ∧ (∀ c, c ∈ ks ↔ c ∈ ys) ∧ Rising ks ∧ d' = (ks.map UInt8.toNat).toArray := by
  have hz : d.size = ys.length := by rw [hd]; simp
  have hz' : d'.size = ys.length := hp.1.trans hz
  have h1 : d'.toList.Perm (ys.map UInt8.toNat) := by
    have h := hp.2.2
    have e1 : d'.extract 0 ys.length = d' := by rw [← hz']; simp
    have e2 : d.extract 0 ys.length = d := by rw [← hz]; simp
    rw [e1, e2, hd] at h
    simpa using h
  have hb : ∀ x ∈ d'.toList, (UInt8.ofNat x).toNat = x := by
    intro x hx
    obtain ⟨c, _, rfl⟩ := List.mem_map.1 (h1.mem_iff.1 hx)
    simp
  have hpk : (d'.toList.map UInt8.ofNat).Perm ys := by
    have h := h1.map UInt8.ofNat
    have e : (ys.map UInt8.toNat).map UInt8.ofNat = ys := by
      rw [List.map_map]
      conv => rhs; rw [← List.map_id ys]
      exact List.map_congr_left fun c _ => by simp
    rwa [e] at h
  have hm : (d'.toList.map UInt8.ofNat).map UInt8.toNat = d'.toList := by
    rw [List.map_map]
    conv => rhs; rw [← List.map_id d'.toList]
    exact List.map_congr_left fun x hx => hb x hx
  refine ⟨d'.toList.map UInt8.ofNat, hpk.length_eq, fun c => hpk.mem_iff, ?_, by rw [hm]⟩
  have hnd : (d'.toList.map UInt8.ofNat).Nodup := hpk.nodup_iff.2 hn
  have hnd' : d'.toList.Nodup := h1.nodup_iff.2 (by
    unfold List.Nodup at hn ⊢
    rw [List.pairwise_map]
    exact hn.imp fun h e => h (UInt8.toNat_inj.1 e))
  unfold Rising
  rw [List.pairwise_map, List.pairwise_iff_getElem]
  intro i j hi hj hij
  rw [hb _ (List.getElem_mem hi), hb _ (List.getElem_mem hj)]
  have hi' : i < d'.size := by simpa using hi
  have hj' : j < d'.size := by simpa using hj
  have h2 := hs i j (Nat.zero_le _) hij (by omega)
  have h3 : ¬ d'[j]! < d'[i]! := by simpa [lt] using h2
  rw [getElem!_pos d' i hi', getElem!_pos d' j hj'] at h3
  have h4 : d'[i] ≠ d'[j] := by
    have := (List.pairwise_iff_getElem.1 hnd') i j hi hj hij
    simpa using this
  simp only [Array.getElem_toList]
  omega

/-- a slice of bytes in a block from B on, its cells these -/
def Bytes (w : World) (B : Nat) (v : Value) (ks : List UInt8) : Prop :=
  ∃ a c, v = .slice a ks.length c ∧ (ks = [] ∨ ∃ g, a = some ⟨g, 0, none⟩ ∧ B ≤ g ∧ g < w.heap.size ∧ ∀ i (h : i < ks.length), w.cell? ⟨g, i, none⟩ = some (bv ks[i]))
theorem Bytes.up {w w' : World} {B : Nat} {v : Value} {ks : List UInt8} (h : Bytes w B v ks) (hb : Below w.heap.size w w') : Bytes w' B v ks := by
  obtain ⟨a, c, e, h⟩ := h
  refine ⟨a, c, e, ?_⟩
  rcases h with h | ⟨g, e, h1, h2, h3⟩
  · exact .inl h
  · exact .inr ⟨g, e, h1, Nat.lt_of_lt_of_le h2 hb.size, fun i hi => upc hb (h3 i hi)⟩
theorem rwOf {w : World} {base : Nat} {v : Value} {ys : List UInt8} (h : w.ownsRow base 5 1 v ys.length (ys.map bv)) :
    (v = .slice none 0 0 ∧ ys = []) ∨ ∃ g cap, v = .slice (some ⟨g, 0, none⟩) ys.length cap ∧ base ≤ g ∧ Rw w g (ys.map UInt8.toNat).toArray := by
  rcases h.2 with ⟨h1, h2⟩ | ⟨g, cap, cur, e, h1, h2, h3, h4, h5, h6⟩
  · exact .inl ⟨h1, List.eq_nil_of_length_eq_zero h2⟩
  · refine .inr ⟨g, cap, e, h1, (Array.getElem?_eq_some_iff.1 h2).1, fun i hi => ?_, fun i => ?_⟩
    · have hi' : i < ys.length := by simpa using hi
      obtain ⟨g', cap', e', _, _, hc⟩ := rowCell h (by omega)
      rw [e] at e'
      cases e'
      have := hc i (bv ys[i]) (by simp [hi'])
      rw [this]
      simp [bv, srt.nv, hi']
    · unfold World.frozen?
      rw [h2]
      simp
set_option maxHeartbeats 1000000 in
theorem sorted_any (w0 : World) (Bn : Nat) (mo : Option Nat) (f : UInt8 → Option Addr) (hBn : w0.cell? ⟨Bn, 0, none⟩ = some (.map mo)) (hm : MapAt w0 f mo) :
    Calls Try.prog 28 #[.func (.func 33) #[] #[.pointer (some ⟨Bn, 0, none⟩)]] w0 fun e w' =>
      ∃ v ks, e = .returned v ∧ Rising ks ∧ (∀ c, c ∈ ks ↔ f c ≠ none) ∧ Bytes w' w0.heap.size v ks ∧ Below w0.heap.size w0 w' := by
  have HA := Lib.hid (collect_any w0 w0 (Below.refl _ _) Bn mo f hBn hm)
  have HF := Lib.hid (keys_few hm)
  clear hBn hm
  go_enter Try.func28, Try.ntmps28
  go_wp2_with fail
  refine HA.out.mono ?_
  rintro e w1 ⟨v, ys, rfl, hk, ho, hb⟩
  have H1 := Lib.hid (And.intro hk (And.intro ho hb))
  rcases rwOf ho with ⟨rfl, rfl⟩ | ⟨g, cap, rfl, hg, hr⟩
  · clear hk ho hb HA
    go_wp2_with fail
    refine (sort_nil _).mono ?_
    rintro e w2 ⟨rfl, hb⟩
    have H2 := Lib.hid hb
    clear hb
    go_wp2_with fail
    go_ret
    exact ⟨_, [], rfl, List.Pairwise.nil, H1.out.1.2, ⟨none, 0, rfl, .inl rfl⟩, belowTrans H1.out.2.2 H2.out⟩
  · have HC := Lib.hid (sort_any w1 g ys.length cap _ hr (by simp) (keys_le hk))
    clear hk ho hb hr HA
    go_wp2_with fail
    refine HC.out.mono ?_
    rintro e w2 ⟨d', rfl, h1, h2, h3, h4⟩
    have H2 := Lib.hid (And.intro h1 (And.intro h2 (And.intro h3 h4)))
    clear h1 h2 h3 h4 HC
    go_wp2_with fail
    go_ret
    obtain ⟨h1, h2, h3, h4⟩ := H2.out
    obtain ⟨ks, e1, e2, e3, e4⟩ := sorted_list rfl H1.out.1.1 h1 h2
    refine ⟨_, ks, rfl, e3, fun c => (e2 c).trans (H1.out.1.2 c), ⟨_, cap, by rw [e1]; rfl, .inr ⟨g, rfl, hg, h4.lt, fun i hi => ?_⟩⟩, h3.to H1.out.2.2 hg⟩
    have := h4.c i (by rw [e4]; simpa using hi)
    rw [this, e4]
    simp [bv, srt.nv, hi]
end Go.Proofs.Yteglhcpochcopaa.trie
