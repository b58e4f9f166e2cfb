/-
  A closed fact of the row.
-/
import Derived.Test.YthlkeifhdihihaaGreatDoorRows
import Derived.KernelRfl
set_option linter.unusedVariables false
set_option linter.unusedSimpArgs false
set_option maxRecDepth 100000
namespace Go.Proofs.YthlkeifhdihihaaGreatDoor
open Go
theorem factNamed : (Rows.shardNoneRow.named == Tryz.prog.varsNamed 6) = true := by kernel_rfl
end Go.Proofs.YthlkeifhdihihaaGreatDoor
