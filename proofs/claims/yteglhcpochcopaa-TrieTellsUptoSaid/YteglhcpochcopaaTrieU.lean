/- trie.node.under and size. -/
import Derived.Test.YteglhcpochcopaaTriePut
namespace Go.Proofs.Yteglhcpochcopaa.trie
open Go.RowKit

def strLen : Value → Nat
  | .string b => b.size
  | _ => 0
theorem strLen_sv (s : Wd) : strLen (sv s) = s.length := by show s.toArray.size = s.length; simp
theorem size_any (w : World) (t : TT) (p : Option Addr) (h : In w t p) : Calls Try.prog 22 #[.pointer p] w fun e w' => e = .returned (.int .i64 (cnt t : Nat)) ∧ w = w' := by
  cases t with
  | nil =>
    obtain rfl : p = none := h
    have e : cnt .nil = 0 := cnt_nil
    rw [e]
    clear e
    go_enter Try.func22, Try.ntmps22
    go_wp2_with fail
    go_ret
    exact ⟨rfl, rfl⟩
  | node v k =>
    obtain ⟨b, mo, f, rfl, hb, _⟩ := h
    have c1 := nodeC1 hb
    obtain ⟨n, hn⟩ : ∃ n, n = cnt (.node v k) := ⟨_, rfl⟩
    rw [← hn] at c1 ⊢
    clear hb hn
    go_enter Try.func22, Try.ntmps22
    go_wp2_with fail
    go_ret
    exact ⟨rfl, rfl⟩
set_option maxRecDepth 100000 in
set_option maxHeartbeats 4000000 in
theorem under_any (w : World) (t : TT) (p : Option Addr) (s : Wd) (h : In w t p) :
    Calls Try.prog 21 #[.pointer p, sv s] w (RetT w (under t s)) := by
  obtain ⟨T, hT⟩ : ∃ T, T = under t s := ⟨_, rfl⟩
  rw [← hT]
  have H0 : Hid (In w t p ∧ under t s = T ∧ Below w.heap.size w w) := Lib.hid ⟨h, hT.symm, Below.refl _ _⟩
  obtain ⟨x0, hx0⟩ : ∃ x, x = sv s := ⟨_, rfl⟩
  have HX := Lib.hid hx0
  rw [← hx0]
  clear h hx0 hT
  go_enter Try.func21, Try.ntmps21
  go_wp2_with fail
  go_loopw [0, 1] (fun tv xv wr => ∃ (t' : TT) (p' : Option Addr) (s' : Wd), tv = .pointer p' ∧ xv = sv s' ∧ Hid (In w t' p' ∧ under t' s' = T ∧ Below w.heap.size w wr)) (fun _ xv _ => strLen xv)
  case atStart => exact ⟨t, p, s, rfl, HX.out, H0⟩
  case round =>
    obtain ⟨t', p', s', rfl, rfl, HS⟩ := hrel
    clear H0
    cases t' with
    | nil =>
      obtain rfl : p' = none := HS.out.1
      have hu : T = .nil := by rw [← HS.out.2.1, under_nil]
      have HU := Lib.hid hu
      clear hu
      go_wp2_with fail
      go_ret
      rw [HU.out]
      exact ⟨none, rfl, rfl, HS.out.2.2⟩
    | node v k =>
      obtain ⟨b, mo, f, rfl, hb, hm, hk⟩ := HS.out.1
      cases s' with
      | nil =>
        have he := sv_neq_nil
        have hgd := fun x y => sv_guard .neq 9 x y [] { data := #[] }
        obtain ⟨xs, hxs⟩ : ∃ xs, xs = sv [] := ⟨_, rfl⟩
        simp only [← hxs] at he hgd ⊢
        clear hb hm hk hxs
        go_wp2_with fail
        go_ret
        rw [← HS.out.2.1]
        exact ⟨_, rfl, HS.out.1.up HS.out.2.2, HS.out.2.2⟩
      | cons c s' =>
        have he := sv_neq_cons c s'
        have hgd := fun x y => sv_guard .neq 9 x y (c :: s') { data := #[] }
        have hix := sv_idx c s'
        have hsl := sv_tail c s'
        have hL1 := strLen_sv (c :: s')
        have hL2 := strLen_sv s'
        obtain ⟨xs, hxs⟩ : ∃ xs, xs = sv (c :: s') := ⟨_, rfl⟩
        obtain ⟨ys, hys⟩ : ∃ ys, ys = sv s' := ⟨_, rfl⟩
        obtain ⟨cv, hcv⟩ : ∃ cv, cv = bv c := ⟨_, rfl⟩
        have hlk : ∀ W, Below w.heap.size w W → (Instr.lookup 48 (.map mo) cv false).run Try.prog W = .ok (.pointer (f c)) W := fun W hW => by rw [hcv]; exact look (hm.up hW) c
        simp only [← hxs] at he hgd hix hsl hL1 ⊢
        simp only [← hys] at hsl hL2
        simp only [← hcv] at hix
        have hl1 := hlk wr HS.out.2.2
        have hl2 := hlk wr.drew HS.out.2.2.drew
        have HN : Hid (In w (k c) (f c) ∧ under (k c) s' = T ∧ Below w.heap.size w wr.drew) := Lib.hid ⟨hk c, by rw [← HS.out.2.1]; rfl, HS.out.2.2.drew⟩
        have HY := Lib.hid hys
        have c3 := nodeC3 (upb HS.out.2.2 hb)
        obtain ⟨pk, hpk⟩ : ∃ pk, pk = f c := ⟨_, rfl⟩
        simp only [← hpk] at hl1 hl2 HN
        clear hb hm hk hxs hys hcv hlk hpk
        go_wp2_with fail
        go_still_tail 7, (by kernel_rfl)
        change wpList _ _ _ _ _ wr.drew
        go_wp2_with fail
        go_roundw
        case rel => exact ⟨k c, pk, s', rfl, HY.out, HN⟩
        case measure => rw [hL1, hL2]; simp
end Go.Proofs.Yteglhcpochcopaa.trie
