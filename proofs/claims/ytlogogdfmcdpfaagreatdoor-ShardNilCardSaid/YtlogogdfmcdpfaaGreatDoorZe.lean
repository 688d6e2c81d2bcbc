/-
The fixed calls answer true.
-/
import Derived.Test.YtlogogdfmcdpfaaGreatDoorZd
set_option linter.all false
namespace Go.Z
open Go Go.Am Go.Proofs

theorem known_ev : evF E 100000 (.call 20 []) .leaf 0 fin = true := by kernel_rfl
end Go.Z
