/-
  Closed facts of the card.
-/
import Derived.Test.YthlkeifhdihihaaGreatDoorRows
import Derived.KernelRfl
import GoSem.ClaimSeven
import Derived.SevenTiedAt
set_option linter.unusedVariables false
set_option linter.unusedSimpArgs false
set_option maxRecDepth 100000
namespace Go.Proofs.YthlkeifhdihihaaGreatDoor
open Go
theorem cardWf : Rows.shardNoneRow.wfByText (OpenSpec.ofChange Rows.shardNoneSpec) = true := by kernel_rfl
theorem cardMain : Tryz.pinned.checked.prog.mainIs = some (true, "c68a3953c4e7e6bfa20b7259f63b85811575e48fa719d55c9ac906464e454549".toList) := by kernel_rfl
theorem cardNamed : Tryz.prog.funcNamed "cubbyhole/cubbyholelaw43.ShardNone" = some 6 := by kernel_rfl
theorem cardWants : Tryz.prog.wantsStandIn 50 = false := by kernel_rfl
end Go.Proofs.YthlkeifhdihihaaGreatDoor
