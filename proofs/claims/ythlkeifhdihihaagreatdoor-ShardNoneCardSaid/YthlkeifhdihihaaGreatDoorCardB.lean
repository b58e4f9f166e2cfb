/-
  A closed fact of the card.
-/
import Derived.Test.YthlkeifhdihihaaGreatDoorRows
import Derived.KernelRfl
import GoSem.ClaimSeven
import Derived.SevenTiedAt
set_option linter.unusedVariables false
set_option linter.unusedSimpArgs false
set_option maxRecDepth 100000
namespace Go.Proofs.YthlkeifhdihihaaGreatDoor
open Go
theorem cardGoes : false = Rows.shardNoneRow.goesBy Tryz.pinned.checked.prog := by kernel_rfl
end Go.Proofs.YthlkeifhdihihaaGreatDoor
