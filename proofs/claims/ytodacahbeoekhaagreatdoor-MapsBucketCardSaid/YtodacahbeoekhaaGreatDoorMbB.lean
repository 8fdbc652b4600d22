/-
Both buckets of a key, as expressions.
-/
import Derived.Test.YtodacahbeoekhaaGreatDoorMbM
namespace Go.Proofs.YtodacahbeoekhaaGreatDoor
open Go Go.Ev
set_option maxRecDepth 1000000
def sumX (x : Int) : Nat → Int
  | 0 => .ofNat 0
  | i + 1 => wrapF .i64 (sumX x i + wrapF .i64 (wrapF .u8 (divP x (min (8 * i) 64))))
def bX (x : Int) (b : Nat) : Int := wrapF .i64 ((sumX x 8).tmod (.ofNat b) + .ofNat 1)
def halfX (x : Int) : Nat → Int
  | 0 => x
  | j + 1 => wrapF .u64 ((halfX x j).tdiv (.ofNat 2))
def bitX (x : Int) (j : Nat) : Int := (halfX x j).tmod (.ofNat 2)
def fieldX (x : Int) (lo : Nat) : Nat → Int
  | 0 => .ofNat 0
  | s + 1 => wrapF .u64 (wrapF .u64 (.ofNat 2 * fieldX x lo s) + bitX x (lo + 7 - s))
def sumR (x : Int) : Nat → Int
  | 0 => .ofNat 0
  | i + 1 => wrapF .u64 (sumR x i + fieldX x (8 * i) 8)
def rX (x : Int) (b : Nat) : Int := wrapF .i64 (wrapF .i64 ((sumR x 8).tmod (wrapF .u64 (.ofNat b))) + .ofNat 1)

theorem b1 (p : List AV) (x : Int) : F.callN (E0 p) 60 (q 5) [.int .u64 x, .int .i64 (.ofNat 1)] ⟨.lf, .h⟩ = some (.int .i64 (bX x 1), ⟨.lf, .h⟩) := by kernel_rfl
theorem b8 (p : List AV) (x : Int) : F.callN (E0 p) 60 (q 5) [.int .u64 x, .int .i64 (.ofNat 8)] ⟨.lf, .h⟩ = some (.int .i64 (bX x 8), ⟨.lf, .h⟩) := by kernel_rfl
theorem r8 (p : List AV) (x : Int) : F.callN (E0 p) 200 (q 6) [.int .u64 x, .int .i64 (.ofNat 8)] ⟨.lf, .h⟩ = some (.int .i64 (rX x 8), ⟨.lf, .h⟩) := by kernel_rfl
end Go.Proofs.YtodacahbeoekhaaGreatDoor
