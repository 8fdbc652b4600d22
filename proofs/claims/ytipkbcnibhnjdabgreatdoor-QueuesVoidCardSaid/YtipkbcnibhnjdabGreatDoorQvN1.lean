/-
Where there is no queue, bit 1.
-/
import Derived.Test.YtipkbcnibhnjdabGreatDoorQvL
import Derived.Test.YtipkbcnibhnjdabGreatDoorQvMab
set_option linter.unusedVariables false
set_option linter.unusedSimpArgs false
namespace Go.Proofs.YtipkbcnibhnjdabGreatDoor
open Go Go.Ev
set_option maxRecDepth 1000000
theorem noq1 (c : List AV) (x : Int) : ∃ H', callN (E1 c true) 2000 (q 20) [.int .u64 x] ⟨.lf, .h⟩ = some (.bool true, H') := by
  obtain ⟨H', h, _⟩ := seen (mk0_for .lf _) (E := E1 c true) (n := 2000) (f := q 20) (args := [.int .u64 x]) (H := ⟨.lf, .h⟩) [] (hs := []) (v := .bool true) (ob := []) (os := []) (by kernel_rfl) trivial
  exact ⟨H', h⟩
end Go.Proofs.YtipkbcnibhnjdabGreatDoor
