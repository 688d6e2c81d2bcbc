/-
The closed facts.
-/
import Derived.Test.YtlogogdfmcdpfaaGreatDoorFa
import Derived.Test.YtlogogdfmcdpfaaGreatDoorFb
import Derived.Test.YtlogogdfmcdpfaaGreatDoorFc
import Derived.Test.YtlogogdfmcdpfaaGreatDoorFd
import Derived.Test.YtlogogdfmcdpfaaGreatDoorRows
import Derived.Test.YtlogogdfmcdpfaaGreatDoorChecked
import Derived.SevenTiedAt
import Derived.ProofKit
set_option linter.all false
namespace Go.Z
open Go Go.Proofs Go.Proofs.YtlogogdfmcdpfaaGreatDoor
set_option maxRecDepth 100000
theorem closed : joinedFacts Tryz.prog 11 Tryz.f11 Rows.shardNilSpec Rows.shardNilRow = true := by
  unfold joinedFacts
  simp only [Bool.and_eq_true]
  repeat' apply And.intro
  all_goals first
    | (with_reducible exact Fa)
    | (with_reducible exact Fb)
    | (with_reducible exact Fc)
    | (with_reducible exact Fd)
    | kernel_rfl
end Go.Z

namespace Go.Z
open Go Go.Proofs Go.Proofs.YtlogogdfmcdpfaaGreatDoor
set_option maxRecDepth 100000
theorem q3 : Tryz.f11.isInstance Tryz.prog Rows.shardNilRow.origin Rows.shardNilRow.targs := of_decide_eq_true (by kernel_rfl)
theorem q4 : Tryz.f11.isWrapper Tryz.prog Rows.shardNilRow.wrapper Rows.shardNilRow.mainSum := by unfold Func.isWrapper; first | (rw [if_pos (by decide +kernel)]; kernel_rfl) | (rw [if_neg (by decide +kernel)]; exact ⟨rfl, rfl⟩)
end Go.Z
