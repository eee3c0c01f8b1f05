/- Package hamt by the names that the texts of maps use. -/
import Derived.Test.YtenaddjnaeebbaaHamtG
namespace Go.Proofs.Ytenaddjnaeebbaa.hamt
open Go.RowKit
open pat (PT OOk ocnt oput tk I64 tk_lt told oput_spec cnt_oput_le told_length)
def putI (o : Option PT) (k v : Int) : Option PT := some (oput o (tk k) v)
theorem put_ok {o : Option PT} (h : OOk o) {k : Int} (hk : I64 k) (v : Int) : OOk (putI o k v) := (oput_spec h (tk_lt hk) v).1
theorem put_cnt {o : Option PT} (_h : OOk o) {k : Int} (_hk : I64 k) (v : Int) : ocnt (putI o k v) ≤ ocnt o + 1 := cnt_oput_le o _ v
theorem put_one : ocnt (putI none 5 7) = 1 := rfl
theorem told_len {o : Option PT} (_h : OOk o) : (told o).length = ocnt o := told_length o
end Go.Proofs.Ytenaddjnaeebbaa.hamt
