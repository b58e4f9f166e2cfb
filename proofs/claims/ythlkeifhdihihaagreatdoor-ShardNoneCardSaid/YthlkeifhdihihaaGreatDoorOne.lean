/- The owner among one name, run by the kernel. -/
import Derived.Test.YthlkeifhdihihaaGreatDoorKnow
set_option linter.unusedVariables false
set_option linter.unusedSimpArgs false
namespace Cub
open Own
set_option maxRecDepth 1000000
/-- 'one' among names. -/
def one : V := .str [111, 110, 101]
noncomputable def gOwn : MSt := ⟨T.leaf.put 64 (some (.ro (ofL [one]))), 65⟩
def isOne (v : V) : Bool := match v with
  | .tuple [.str [111, 110, 101], .int .i64 0] => true
  | _ => false
theorem owner_run : endsIn isOne (runL tab sm1 [15, 14, 11, 10, 7, 6, 4, 1, 0] ⟨.call 63 [.slice (some (64, 0)) 1 (.is 1), .int .i64 64, .int .u64 77, .str [97, 110, 121]], [], gOwn⟩) = true := by decide +kernel
end Cub
