/-
  Closed facts of the row.
-/
import Derived.Test.YthlkeifhdihihaaGreatDoorRows
import Derived.KernelRfl
import Derived.JoinedOf
set_option linter.unusedVariables false
set_option linter.unusedSimpArgs false
set_option maxRecDepth 100000
namespace Go.Proofs.YthlkeifhdihihaaGreatDoor
open Go
theorem factWf : Rows.shardNoneRow.wf (OpenSpec.ofChange Rows.shardNoneSpec) = true := by kernel_rfl
theorem factLaidOut : laidOutB Tryz.prog = true := by kernel_rfl
theorem factMapsRowed : mapsRowed Tryz.prog = true := by kernel_rfl
theorem factParams : Tryz.f6.params.all (Tryz.prog.readableRec ·) = true := by kernel_rfl
theorem factTie : namedTie Tryz.prog Rows.shardNoneRow.named Rows.shardNoneSpec.vars = true := by kernel_rfl
theorem factStops : (Rows.shardNoneRow.stops == []) = true := by kernel_rfl
theorem factStops2 : (Tryz.prog.stops == []) = true := by kernel_rfl
theorem factKnobs : (Rows.shardNoneRow.knobs == []) = true := by kernel_rfl
theorem factKnobs2 : (Tryz.prog.stopKnobs == []) = true := by kernel_rfl
theorem factMaps : (Rows.shardNoneRow.maps == (Tryz.f6.params.toList ++ Rows.shardNoneSpec.plain.varTypes Tryz.prog).any (Tryz.prog.mapsRec ·)) = true := by kernel_rfl
theorem factIfaces : (Rows.shardNoneRow.ifaces == (Tryz.f6.params.toList ++ Rows.shardNoneSpec.plain.varTypes Tryz.prog).any (Tryz.prog.ifacesRec ·)) = true := by kernel_rfl
theorem factMapsOut : (Rows.shardNoneRow.mapsOut == Tryz.prog.mapsAmong Tryz.f6.resultTypes.toList) = true := by kernel_rfl
theorem factLoops : (Rows.shardNoneRow.loops == (Tryz.f6.params.toList ++ Rows.shardNoneSpec.plain.varTypes Tryz.prog).any (Tryz.prog.loopsFrom ·)) = true := by kernel_rfl
theorem factWideKeys : (Rows.shardNoneRow.wideKeys == ((Tryz.f6.params.toList ++ Rows.shardNoneSpec.plain.varTypes Tryz.prog) ++ Tryz.f6.resultTypes.toList).any (Tryz.prog.wideKeysFrom ·)) = true := by kernel_rfl
theorem factVars : Rows.shardNoneSpec.vars.all (Tryz.prog.varReadable ·) = true := by kernel_rfl
theorem factResults : Tryz.f6.resultTypes.all (fun t => Tryz.prog.readableRec t && decide (t < Tryz.prog.types.size)) = true := by kernel_rfl
theorem factIfacesOut : (Rows.shardNoneRow.ifacesOut == Tryz.f6.resultTypes.toList.any (Tryz.prog.ifacesRec ·)) = true := by kernel_rfl
theorem factLoopsOut : (Rows.shardNoneRow.loopsOut == Tryz.f6.resultTypes.toList.any (Tryz.prog.loopsFrom ·)) = true := by kernel_rfl
theorem factPlainKeys : (Rows.shardNoneRow.plainKeys == Tryz.prog.plainKeys) = true := by kernel_rfl
theorem factShort : Rows.shardNoneRow.shortTexts.isNone = true := by kernel_rfl
theorem factHeard : Tryz.prog.stopsHeard = true := by kernel_rfl
theorem factMayEnter : Tryz.prog.mayEnter = true := by kernel_rfl
theorem factLifted : (Rows.shardNoneRow.lifted == Tryz.prog.liftsFinal) = true := by kernel_rfl
theorem factMake : (Tryz.prog.make == some Rows.shardNoneRow.make) = true := by kernel_rfl
theorem factKinds : (Rows.shardNoneRow.kinds == (if Rows.shardNoneRow.domain.isEmpty then [] else Tryz.f6.params.toList.map fun t => match Tryz.prog.underlying t with | some (.int k) => some k | _ => none)) = true := by kernel_rfl
theorem factPinned : (Rows.shardNoneRow.pinned == Rows.shardNoneRow.pinnedBy) = true := by kernel_rfl
theorem factVeiled : (Rows.shardNoneRow.veiled == ((Tryz.f6.params.toList ++ Rows.shardNoneSpec.plain.varTypes Tryz.prog) ++ Tryz.f6.resultTypes.toList).any (Tryz.prog.veiledRec ·)) = true := by kernel_rfl
theorem factVeiledFits : Rows.shardNoneRow.veiledFits Tryz.prog Tryz.f6.params.toList ((Tryz.f6.params.toList ++ Rows.shardNoneSpec.plain.varTypes Tryz.prog) ++ Tryz.f6.resultTypes.toList) = true := by kernel_rfl
end Go.Proofs.YthlkeifhdihihaaGreatDoor
