/-
The chapter's examples: the phase is stable, in HP.
-/
import Derived.Test.YtipkbcnibhnjdabGreatDoorQvMab
import Derived.Test.YtipkbcnibhnjdabGreatDoorEvJI
set_option linter.unusedVariables false
set_option linter.unusedSimpArgs false
namespace Go.Proofs.YtipkbcnibhnjdabGreatDoor
open Go Go.Ev
set_option maxRecDepth 1000000

def stable : List AV := [.agg [z8 0, z8 2, z8 0, zu 0]]
def modeV (b : Bool) : AV := .int .u8 (.ofNat (match b with | true => 2 | false => 0))
noncomputable def S1 (b : Bool) : Tr (List AV → Hp → Option (AV × Hp)) := Tr.put .lf (q 187) (some (oneSum stable (modeV b)))
noncomputable def E1 (c : List AV) (b : Bool) : Env := ⟨code, meths, [(0, h0), (1, g0), (2, c)], S1 b⟩
end Go.Proofs.YtipkbcnibhnjdabGreatDoor
