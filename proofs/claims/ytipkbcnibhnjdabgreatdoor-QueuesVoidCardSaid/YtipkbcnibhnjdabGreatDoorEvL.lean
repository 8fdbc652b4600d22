/-
Short words for printed instructions.
-/
import Derived.Test.YtipkbcnibhnjdabGreatDoorEvC
set_option linter.unusedVariables false
set_option linter.unusedSimpArgs false
namespace Go.Ev
def q (n : Nat) : Pos := Pos.ofNat n
def T (n : Nat) : XO := .t (q n)
def C (k : IntKind) (n : Int) : XO := .c (.int k n)
def I (d : Nat) (p : XP) : XI := ⟨some (q d), none, p⟩
def N (p : XP) : XI := ⟨none, none, p⟩
def J (d g : Nat) (b : Bool) (p : XP) : XI := ⟨some (q d), some (q g, b), p⟩
def K (g : Nat) (b : Bool) (p : XP) : XI := ⟨none, some (q g, b), p⟩
def z64 (n : Int) : AV := .int .i64 n
def zu (n : Int) : AV := .int .u64 n
def z8 (n : Int) : AV := .int .u8 n
def z32 (n : Int) : AV := .int .u32 n
end Go.Ev
