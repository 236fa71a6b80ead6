/- The depth to which the plain functions that call themselves go. No condition. -/
import Derived.Test.YtekmmbgbhjeoaaaSxK
set_option linter.unusedVariables false
set_option linter.unusedSimpArgs false
namespace Go.Sx
/-- deeper than any call of this program goes -/
@[irreducible] def fuel : Nat := 1099511627776
theorem fuel_gt : 1000000000 < fuel := by unfold fuel; decide
end Go.Sx
