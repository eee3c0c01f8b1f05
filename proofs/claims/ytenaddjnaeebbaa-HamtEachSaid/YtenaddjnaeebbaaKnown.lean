/- The map of 'pated': plain. -/
import Derived.Test.YtenaddjnaeebbaaPatL
namespace Go.Proofs.Ytenaddjnaeebbaa.pat
open Go.RowKit

/-- the map of 'pated' -/
def known : Option PT := some (oput (some (.leaf (tk 5) 7)) (tk (-3)) 9)
theorem known_ok : OOk known := (oput_spec (o := some (.leaf (tk 5) 7)) (tk_lt (i64_lit (by decide) (by decide))) (tk_lt (i64_lit (by decide) (by decide))) 9).1
theorem known_get : oget known (tk 5) = some 7 := by
  rw [oget_eq known_ok, known, olist, (oput_spec (o := some (.leaf (tk 5) 7)) (tk_lt (i64_lit (by decide) (by decide))) (tk_lt (i64_lit (by decide) (by decide))) 9).2]
  decide
theorem known_cnt : ocnt known = 2 := by
  have e : known = some (both (.leaf (tk 5) 7) (.leaf (tk (-3)) 9)) := by
    show some (put (.leaf (tk 5) 7) (tk (-3)) 9) = _
    rw [show put (.leaf (tk 5) 7) (tk (-3)) 9 = both (.leaf (tk 5) 7) (.leaf (tk (-3)) 9) from if_neg (by decide)]
  rw [e]
  exact cnt_both _ _
end Go.Proofs.Ytenaddjnaeebbaa.pat
