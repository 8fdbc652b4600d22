/-
MapsBucket of no buckets, of too many.
-/
import Derived.Test.YtodacahbeoekhaaGreatDoorMbL0
import Derived.Test.YtodacahbeoekhaaGreatDoorMbL1
namespace Go.Proofs.YtodacahbeoekhaaGreatDoor
open Go Go.Ev
set_option maxRecDepth 1000000
theorem lives_true (p : List AV) (b : Bool) : ∃ H', callN (E1 p b) 2000 (q 8) [] ⟨.lf, .h⟩ = some (.bool true, H') := by
  rw [← F.callN_eq]
  cases b
  · exact isTrue_some (lives0 p)
  · exact isTrue_some (lives1 p)
noncomputable def S2 (b : Bool) : Tr (List AV → Hp → Option (AV × Hp)) := Tr.put (S1 b) (q 8) (some (oneSum [] (.bool true)))
noncomputable def E2 (p : List AV) (b : Bool) : Env := { E0 p with sums := S2 b }
theorem E2_ok {m : Nat} (hm : m < 256) (w : Bool) (n : Int) (x : AV) (l : List AV) : EnvOK Tryz.prog names (E2 (ph m w n x l) (low m)) := by
  obtain ⟨H', h⟩ := lives_true (ph m w n x l) (low m)
  exact (E1_ok hm w n x l).sum _ (all_put (E1_ok hm w n x l).sums (oneSum_ok (E1_ok hm w n x l) h rfl rfl))

/-- the function at a key and a number -/
noncomputable def run (p : List AV) (b : Bool) (k : Int) (n : Int) : Option (AV × Hp) := F.callN (E2 p b) 100 (q 4) [.int .u64 k, .int .i64 n] ⟨.lf, .h⟩
theorem neg_true (p : List AV) (b : Bool) (k : Int) (n : Nat) : isTrue (run p b k (.negSucc n)) = true := by kernel_rfl
theorem zero_true (p : List AV) (b : Bool) (k : Int) : isTrue (run p b k (.ofNat 0)) = true := by kernel_rfl
theorem many_true (p : List AV) (b : Bool) (k : Int) (n : Nat) : isTrue (run p b k (.ofNat (n + 9))) = true := by kernel_rfl
end Go.Proofs.YtodacahbeoekhaaGreatDoor
