/-
The chapter's examples, bit 1.
-/
import Derived.Test.YtipkbcnibhnjdabGreatDoorQvL
set_option linter.unusedVariables false
set_option linter.unusedSimpArgs false
namespace Go.Proofs.YtipkbcnibhnjdabGreatDoor
open Go Go.Ev
set_option maxRecDepth 1000000
theorem lives1 (c : List AV) : isTrue (F.callN (E1 c true) 2000 (q 5) [] ⟨.lf, .h⟩) = true := by kernel_rfl
end Go.Proofs.YtipkbcnibhnjdabGreatDoor
