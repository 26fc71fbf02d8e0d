/- The contract of shift, as BoundI asks for it. -/
import Derived.Test.YthknlonelbfpaaaShift
import Derived.Test.YthknlonelbfpaaaHighC
namespace Go.Proofs.Ythknlonelbfpaaa
theorem shift_ok : ShiftC := fun A B c d h wd a b G M gr w hx hy gd ha hb hM => shift_any A B c d h wd a b G M gr w hx hy gd ha hb hM
end Go.Proofs.Ythknlonelbfpaaa
