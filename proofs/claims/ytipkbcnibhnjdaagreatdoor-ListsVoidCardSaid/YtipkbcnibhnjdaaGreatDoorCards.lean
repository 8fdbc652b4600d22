/-
  DERIVED. GIVEN WITH THE SEED: THE CARDS: each row of YtipkbcnibhnjdaaGreatDoorRows.lean that lists a variable, with what it lists TIED to the program's text (the seventh form; the later family's looks); each row that meets fmt, with fmt's text TOLD by the authors' own Lean function (tested against real Go, not proved from fmt's source: count such statements apart). THE CARD IS WHAT COUNTS. Prove the row's statement (the work); the ties are given (YtipkbcnibhnjdaaGreatDoorTie.lean); close each card by the builder's one call (the guide's Derived/Test/ToyasCard.lean, 'card_holds'). Laid BY PROGRAM, IN A SANDBOX (cutbox-door.mjs). By AI agents, Wed Nov 11 2026. No macro, syntax, notation, axiom, sorry.
-/
import Derived.Test.YtipkbcnibhnjdaaGreatDoorRows
import GoSem.ClaimSeven
namespace Go.Proofs.YtipkbcnibhnjdaaGreatDoor
namespace Rows

/-- THE TIED CARD OF 'ragpickerlaw26.ListsVoid'. -/
def listsVoidCard : Claim7 := { stood := { row := listsVoidRow, standIns := [], harness := (true, "a2e1f81c66dcbeac6ca732fb928b20d86f9c9c1b3224ede2da6d5cc0ea2fafc8"), looks := true }, kinds := [], alts := [], laidByText := true, laidKinds := [.data], laidTests := true, laidLooks := .later }
def ListsVoidCardSaid : Prop := Claim7.holds Tryz.pinned (.plain (OpenSpec.ofChange listsVoidSpec)) listsVoidCard

/-- THE SECOND FORM's CARD OF 'ragpickerlaw26.ListsVoid'. -/
def listsVoidUptoCard : Claim7 := { stood := { row := listsVoidUptoRow, standIns := [], harness := (true, "a2e1f81c66dcbeac6ca732fb928b20d86f9c9c1b3224ede2da6d5cc0ea2fafc8"), looks := true }, kinds := [], alts := [], laidByText := true, laidKinds := [.data], laidTests := true, laidLooks := .later }
def ListsVoidUptoCardSaid : Prop := Claim7.holds Tryz.pinned (.plain (OpenSpec.upto listsVoidSpec)) listsVoidUptoCard
end Rows
end Go.Proofs.YtipkbcnibhnjdaaGreatDoor
