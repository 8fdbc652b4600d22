/-
The chapter's examples, the first row's mode odd.
-/
import Derived.Test.YtodacahbeoekhaaGreatDoorMbM
namespace Go.Proofs.YtodacahbeoekhaaGreatDoor
open Go Go.Ev
set_option maxRecDepth 1000000
theorem lives1 (p : List AV) : isTrue (F.callN (E1 p true) 2000 (q 8) [] ⟨.lf, .h⟩) = true := by kernel_rfl
end Go.Proofs.YtodacahbeoekhaaGreatDoor
