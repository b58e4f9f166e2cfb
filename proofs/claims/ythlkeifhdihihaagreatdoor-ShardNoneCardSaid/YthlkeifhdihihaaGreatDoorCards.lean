/-
  DERIVED. GIVEN WITH THE SEED: THE CARDS: each row of YthlkeifhdihihaaGreatDoorRows.lean that lists a variable, with what it lists TIED to the program's text (the seventh form; the later family's looks); each row that meets fmt, with fmt's text TOLD by the authors' own Lean function (tested against real Go, not proved from fmt's source: count such statements apart). THE CARD IS WHAT COUNTS. Prove the row's statement (the work); the ties are given (YthlkeifhdihihaaGreatDoorTie.lean); close each card by the builder's one call (the guide's Derived/Test/ToyasCard.lean, 'card_holds'). Laid BY PROGRAM, IN A SANDBOX (cutbox-door.mjs). By AI agents, Wed Nov 11 2026. No macro, syntax, notation, axiom, sorry.
-/
import Derived.Test.YthlkeifhdihihaaGreatDoorRows
import GoSem.ClaimSeven
namespace Go.Proofs.YthlkeifhdihihaaGreatDoor
namespace Rows

/-- THE TIED CARD OF 'cubbyholelaw43.ShardOwners'. -/
def shardOwnersCard : Claim7 := { stood := { row := shardOwnersRow, standIns := [], harness := (true, "c68a3953c4e7e6bfa20b7259f63b85811575e48fa719d55c9ac906464e454549"), looks := false }, kinds := [], alts := [], laidByText := true, laidKinds := [.data, .data, .data], laidTests := true, laidLooks := .later }
def ShardOwnersCardSaid : Prop := Claim7.holds Tryz.pinned (.plain (OpenSpec.ofChange shardOwnersSpec)) shardOwnersCard

/-- THE TIED CARD OF 'cubbyholelaw43.ShardFulls'. -/
def shardFullsCard : Claim7 := { stood := { row := shardFullsRow, standIns := [], harness := (true, "c68a3953c4e7e6bfa20b7259f63b85811575e48fa719d55c9ac906464e454549"), looks := false }, kinds := [], alts := [], laidByText := true, laidKinds := [.data, .data, .data], laidTests := true, laidLooks := .later }
def ShardFullsCardSaid : Prop := Claim7.holds Tryz.pinned (.plain (OpenSpec.ofChange shardFullsSpec)) shardFullsCard

/-- THE TIED CARD OF 'cubbyholelaw43.ShardHolds'. -/
def shardHoldsCard : Claim7 := { stood := { row := shardHoldsRow, standIns := [], harness := (true, "c68a3953c4e7e6bfa20b7259f63b85811575e48fa719d55c9ac906464e454549"), looks := false }, kinds := [], alts := [], laidByText := true, laidKinds := [.data, .data, .data], laidTests := true, laidLooks := .later }
def ShardHoldsCardSaid : Prop := Claim7.holds Tryz.pinned (.plain (OpenSpec.ofChange shardHoldsSpec)) shardHoldsCard

/-- THE TIED CARD OF 'cubbyholelaw43.ShardNone'. -/
def shardNoneCard : Claim7 := { stood := { row := shardNoneRow, standIns := [], harness := (true, "c68a3953c4e7e6bfa20b7259f63b85811575e48fa719d55c9ac906464e454549"), looks := false }, kinds := [], alts := [], laidByText := true, laidKinds := [.data, .data, .data], laidTests := true, laidLooks := .later }
def ShardNoneCardSaid : Prop := Claim7.holds Tryz.pinned (.plain (OpenSpec.ofChange shardNoneSpec)) shardNoneCard

/-- THE TIED CARD OF 'cubbyholelaw43.ShardPlays'. -/
def shardPlaysCard : Claim7 := { stood := { row := shardPlaysRow, standIns := [], harness := (true, "c68a3953c4e7e6bfa20b7259f63b85811575e48fa719d55c9ac906464e454549"), looks := false }, kinds := [], alts := [], laidByText := true, laidKinds := [.data, .data, .data], laidTests := true, laidLooks := .later }
def ShardPlaysCardSaid : Prop := Claim7.holds Tryz.pinned (.plain (OpenSpec.ofChange shardPlaysSpec)) shardPlaysCard

/-- THE SECOND FORM's CARD OF 'cubbyholelaw43.ShardOwners'. -/
def shardOwnersUptoCard : Claim7 := { stood := { row := shardOwnersUptoRow, standIns := [], harness := (true, "c68a3953c4e7e6bfa20b7259f63b85811575e48fa719d55c9ac906464e454549"), looks := false }, kinds := [], alts := [], laidByText := true, laidKinds := [.data, .data, .data], laidTests := true, laidLooks := .later }
def ShardOwnersUptoCardSaid : Prop := Claim7.holds Tryz.pinned (.plain (OpenSpec.upto shardOwnersSpec)) shardOwnersUptoCard

/-- THE SECOND FORM's CARD OF 'cubbyholelaw43.ShardFulls'. -/
def shardFullsUptoCard : Claim7 := { stood := { row := shardFullsUptoRow, standIns := [], harness := (true, "c68a3953c4e7e6bfa20b7259f63b85811575e48fa719d55c9ac906464e454549"), looks := false }, kinds := [], alts := [], laidByText := true, laidKinds := [.data, .data, .data], laidTests := true, laidLooks := .later }
def ShardFullsUptoCardSaid : Prop := Claim7.holds Tryz.pinned (.plain (OpenSpec.upto shardFullsSpec)) shardFullsUptoCard

/-- THE SECOND FORM's CARD OF 'cubbyholelaw43.ShardHolds'. -/
def shardHoldsUptoCard : Claim7 := { stood := { row := shardHoldsUptoRow, standIns := [], harness := (true, "c68a3953c4e7e6bfa20b7259f63b85811575e48fa719d55c9ac906464e454549"), looks := false }, kinds := [], alts := [], laidByText := true, laidKinds := [.data, .data, .data], laidTests := true, laidLooks := .later }
def ShardHoldsUptoCardSaid : Prop := Claim7.holds Tryz.pinned (.plain (OpenSpec.upto shardHoldsSpec)) shardHoldsUptoCard

/-- THE SECOND FORM's CARD OF 'cubbyholelaw43.ShardNone'. -/
def shardNoneUptoCard : Claim7 := { stood := { row := shardNoneUptoRow, standIns := [], harness := (true, "c68a3953c4e7e6bfa20b7259f63b85811575e48fa719d55c9ac906464e454549"), looks := false }, kinds := [], alts := [], laidByText := true, laidKinds := [.data, .data, .data], laidTests := true, laidLooks := .later }
def ShardNoneUptoCardSaid : Prop := Claim7.holds Tryz.pinned (.plain (OpenSpec.upto shardNoneSpec)) shardNoneUptoCard

/-- THE SECOND FORM's CARD OF 'cubbyholelaw43.ShardPlays'. -/
def shardPlaysUptoCard : Claim7 := { stood := { row := shardPlaysUptoRow, standIns := [], harness := (true, "c68a3953c4e7e6bfa20b7259f63b85811575e48fa719d55c9ac906464e454549"), looks := false }, kinds := [], alts := [], laidByText := true, laidKinds := [.data, .data, .data], laidTests := true, laidLooks := .later }
def ShardPlaysUptoCardSaid : Prop := Claim7.holds Tryz.pinned (.plain (OpenSpec.upto shardPlaysSpec)) shardPlaysUptoCard
end Rows
end Go.Proofs.YthlkeifhdihihaaGreatDoor
