/-
A closed fact.
-/
import Derived.Test.YtlogogdfmcdpfaaGreatDoorRows
import Derived.Test.YtlogogdfmcdpfaaGreatDoorChecked
import Derived.SevenTiedAt
import Derived.ProofKit
set_option linter.all false
namespace Go.Z
open Go Go.Proofs Go.Proofs.YtlogogdfmcdpfaaGreatDoor
set_option maxRecDepth 100000
theorem Fa : (Rows.shardNilRow.inPlace == Tryz.prog.inPlace 11) = true := by kernel_rfl
end Go.Z
