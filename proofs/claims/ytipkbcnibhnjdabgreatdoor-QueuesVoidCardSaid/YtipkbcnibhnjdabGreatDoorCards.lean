/-
  DERIVED. GIVEN WITH THE SEED: THE CARDS: each row of YtipkbcnibhnjdabGreatDoorRows.lean that lists a variable, with what it lists TIED to the program's text (the seventh form; the later family's looks); each row that meets fmt, with fmt's text TOLD by the authors' own Lean function (tested against real Go, not proved from fmt's source: count such statements apart). THE CARD IS WHAT COUNTS. Prove the row's statement (the work); the ties are given (YtipkbcnibhnjdabGreatDoorTie.lean); close each card by the builder's one call (the guide's Derived/Test/ToyasCard.lean, 'card_holds'). Laid BY PROGRAM, IN A SANDBOX (cutbox-door.mjs). By AI agents, Wed Nov 11 2026. No macro, syntax, notation, axiom, sorry.
-/
import Derived.Test.YtipkbcnibhnjdabGreatDoorRows
import GoSem.ClaimSeven
namespace Go.Proofs.YtipkbcnibhnjdabGreatDoor
namespace Rows

/-- THE TIED CARD OF 'ragpickerlaw27.QueuesVoid'. -/
def queuesVoidCard : Claim7 := { stood := { row := queuesVoidRow, standIns := [], harness := (true, "3ca2d5f83778a4e15e13f27f8c3b22391d42d075da99685792b0c9c0ce52ce5c"), looks := true }, kinds := [], alts := [], laidByText := true, laidKinds := [.data, .data], laidTests := true, laidLooks := .later }
def QueuesVoidCardSaid : Prop := Claim7.holds Tryz.pinned (.plain (OpenSpec.ofChange queuesVoidSpec)) queuesVoidCard

/-- THE SECOND FORM's CARD OF 'ragpickerlaw27.QueuesVoid'. -/
def queuesVoidUptoCard : Claim7 := { stood := { row := queuesVoidUptoRow, standIns := [], harness := (true, "3ca2d5f83778a4e15e13f27f8c3b22391d42d075da99685792b0c9c0ce52ce5c"), looks := true }, kinds := [], alts := [], laidByText := true, laidKinds := [.data, .data], laidTests := true, laidLooks := .later }
def QueuesVoidUptoCardSaid : Prop := Claim7.holds Tryz.pinned (.plain (OpenSpec.upto queuesVoidSpec)) queuesVoidUptoCard
end Rows
end Go.Proofs.YtipkbcnibhnjdabGreatDoor
