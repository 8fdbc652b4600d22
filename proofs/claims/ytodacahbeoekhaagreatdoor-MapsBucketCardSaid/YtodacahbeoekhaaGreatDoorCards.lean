/-
  DERIVED. GIVEN WITH THE SEED: THE CARDS: each row of YtodacahbeoekhaaGreatDoorRows.lean that lists a variable, with what it lists TIED to the program's text (the seventh form; the later family's looks); each row that meets fmt, with fmt's text TOLD by the authors' own Lean function (tested against real Go, not proved from fmt's source: count such statements apart). THE CARD IS WHAT COUNTS. Prove the row's statement (the work); the ties are given (YtodacahbeoekhaaGreatDoorTie.lean); close each card by the builder's one call (the guide's Derived/Test/ToyasCard.lean, 'card_holds'). Laid BY PROGRAM, IN A SANDBOX (cutbox-door.mjs). By AI agents, Wed Nov 11 2026. No macro, syntax, notation, axiom, sorry.
-/
import Derived.Test.YtodacahbeoekhaaGreatDoorRows
import GoSem.ClaimSeven
namespace Go.Proofs.YtodacahbeoekhaaGreatDoor
namespace Rows

/-- THE TIED CARD OF 'ragpickerlaw28.MapsBucket'. -/
def mapsBucketCard : Claim7 := { stood := { row := mapsBucketRow, standIns := [], harness := (true, "4bb64c6c085ab2a69430ce57194d2d93000894b345db7cf9a61b216f9852883f"), looks := true }, kinds := [], alts := [], laidByText := true, laidKinds := [.data], laidTests := true, laidLooks := .later }
def MapsBucketCardSaid : Prop := Claim7.holds Tryz.pinned (.plain (OpenSpec.ofChange mapsBucketSpec)) mapsBucketCard

/-- THE SECOND FORM's CARD OF 'ragpickerlaw28.MapsBucket'. -/
def mapsBucketUptoCard : Claim7 := { stood := { row := mapsBucketUptoRow, standIns := [], harness := (true, "4bb64c6c085ab2a69430ce57194d2d93000894b345db7cf9a61b216f9852883f"), looks := true }, kinds := [], alts := [], laidByText := true, laidKinds := [.data], laidTests := true, laidLooks := .later }
def MapsBucketUptoCardSaid : Prop := Claim7.holds Tryz.pinned (.plain (OpenSpec.upto mapsBucketSpec)) mapsBucketUptoCard
end Rows
end Go.Proofs.YtodacahbeoekhaaGreatDoor
