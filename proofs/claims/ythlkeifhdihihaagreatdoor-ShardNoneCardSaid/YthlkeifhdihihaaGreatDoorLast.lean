/-
  The law ShardNone of layer 43 returns true for every call, and leaves its argument as it was.
  Conditions: those of the given statement alone (the three listed variables start as the program's text lays them).
-/
import Derived.Test.YthlkeifhdihihaaGreatDoorRow
import Derived.Test.YthlkeifhdihihaaGreatDoorCardA
import Derived.Test.YthlkeifhdihihaaGreatDoorCardB
import Derived.Test.YthlkeifhdihihaaGreatDoorCardC
import Derived.Test.YthlkeifhdihihaaGreatDoorTie
import Derived.Test.YthlkeifhdihihaaGreatDoorCards
import Derived.ProofKit
import Derived.LaidMore
import Derived.LaidLaws
import Derived.OpenShut
import Derived.Stop.Joined
import Derived.SevenTiedAt
import Derived.Lib.SmallJoins
set_option linter.unusedVariables false
set_option linter.unusedSimpArgs false
set_option maxRecDepth 100000
namespace Go.Proofs.YthlkeifhdihihaaGreatDoor
open Go Go.ChangeShapes Go.WideShapes Go.ChangeAt Go.WideMaps Go.WideElems Go.RowKit
open Cub (V St)

theorem shardNone_holds : Rows.ShardNoneCardSaid :=
  Claim7.holds_tied_plain_at .later [] [.data, .data, .data] true (true, "c68a3953c4e7e6bfa20b7259f63b85811575e48fa719d55c9ac906464e454549") false
    shardNone_row (fun _ h => by cases h) cardWf (fun _ h => by cases h) shardNone_row_tie rfl ⟨rfl, rfl⟩ cardMain rfl
    (fun f fn hf hfn => by
      obtain rfl : f = 6 := Option.some.inj (cardNamed.symm.trans hf) |>.symm
      obtain rfl : fn = Tryz.f6 := (Option.some.inj (Tryz.func6.symm.trans hfn)).symm
      exact ⟨cardLooks, fun j t ht => by
        rw [Tryz.params6] at ht
        have h3 : t = 50 := by
          rcases j with _ | j
          · simpa using ht.symm
          · simp at ht
        subst h3
        exact cardWants⟩)
    cardGoes
#print axioms shardNone_holds
end Go.Proofs.YthlkeifhdihihaaGreatDoor
