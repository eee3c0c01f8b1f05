/- Package hamt: contracts that name numbers; what regions keep of maps. -/
import Derived.Test.YtenaddjnaeebbaaHamtPairs
import Derived.Test.YtenaddjnaeebbaaKnown
import Derived.Test.YtenaddjnaeebbaaPatG
namespace Go.Proofs.Ytenaddjnaeebbaa.hamt
open Go.RowKit
open pat (PT OOk ocnt olist oput odrop oget tk I64 tk_lt tk_inj lk told telled Yes i64_lit fill fill_snoc fill_ok fill_cnt oput_spec odrop_spec oget_eq told_ext told_length cnt_oput_le cnt_odrop_le cnt_drop_has known known_ok known_get known_cnt kRow kOwnR Row PT.cnt Ok)
/-- what is known of a map's value -/
def kMap (B : Nat) (o : Option PT) : grow.Kept := ⟨fun v W => ∃ p, v = .agg #[.pointer p] ∧ HO B W p o, fun _ _ _ hb ⟨p, e, h⟩ => ⟨p, e, h.up hb⟩⟩
theorem Len_num (B : Nat) (w : World) (p : Option Addr) (o : Option PT) (k : Nat) (h : HO B w p o) (hk : ocnt o = k) :
    Calls Try.prog 10 #[.agg #[.pointer p]] w fun e w' => e = .returned (.int .i64 (k : Nat)) ∧ Below w.heap.size w w' := by
  subst hk
  exact Len_any B w p o h
end Go.Proofs.Ytenaddjnaeebbaa.hamt
