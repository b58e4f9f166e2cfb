/-
  The row's closed facts together.
-/
import Derived.Test.YthlkeifhdihihaaGreatDoorFactA
import Derived.Test.YthlkeifhdihihaaGreatDoorFactB
import Derived.Test.YthlkeifhdihihaaGreatDoorFactC
import Derived.Test.YthlkeifhdihihaaGreatDoorFactD
import Derived.Test.YthlkeifhdihihaaGreatDoorFactE
import Derived.JoinedOf
set_option linter.unusedVariables false
set_option linter.unusedSimpArgs false
set_option maxRecDepth 100000
namespace Go.Proofs.YthlkeifhdihihaaGreatDoor
open Go
theorem closed : joinedFacts Tryz.prog 6 Tryz.f6 Rows.shardNoneSpec Rows.shardNoneRow = true := by
  unfold joinedFacts
  rw [factWf, factLaidOut, factMapsRowed, factParams, factTie, factStops, factStops2, factKnobs, factKnobs2, factInPlace, factUnfollowed, factRecurses, factNamed, factMaps, factIfaces, factMapsOut, factLoops, factWideKeys, factVars, factResults,
    factIfacesOut, factLoopsOut, factPlainKeys, factShort, factHeard, factMayEnter, factLifted, factMake, if_pos (show Rows.shardNoneRow.domain.isEmpty = true from rfl), show (Rows.shardNoneRow.kinds == []) = true from rfl, factPinned, factVeiled, factVeiledFits]
  rfl
end Go.Proofs.YthlkeifhdihihaaGreatDoor
