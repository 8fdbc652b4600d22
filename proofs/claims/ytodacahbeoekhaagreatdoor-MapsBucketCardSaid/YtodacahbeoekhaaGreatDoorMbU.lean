/-
MapsBucket of one to eight buckets.
-/
import Derived.Test.YtodacahbeoekhaaGreatDoorMbT
import Derived.Test.YtodacahbeoekhaaGreatDoorMbW
import Derived.Test.YtodacahbeoekhaaGreatDoorEvI
namespace Go.Proofs.YtodacahbeoekhaaGreatDoor
open Go Go.Ev
set_option maxRecDepth 1000000

theorem b2 (p : List AV) (x : Int) : F.callN (E0 p) 60 (q 5) [.int .u64 x, .int .i64 (.ofNat 2)] ⟨.lf, .h⟩ = some (.int .i64 (bX x 2), ⟨.lf, .h⟩) := by kernel_rfl
theorem b3 (p : List AV) (x : Int) : F.callN (E0 p) 60 (q 5) [.int .u64 x, .int .i64 (.ofNat 3)] ⟨.lf, .h⟩ = some (.int .i64 (bX x 3), ⟨.lf, .h⟩) := by kernel_rfl
theorem b4 (p : List AV) (x : Int) : F.callN (E0 p) 60 (q 5) [.int .u64 x, .int .i64 (.ofNat 4)] ⟨.lf, .h⟩ = some (.int .i64 (bX x 4), ⟨.lf, .h⟩) := by kernel_rfl
theorem b5 (p : List AV) (x : Int) : F.callN (E0 p) 60 (q 5) [.int .u64 x, .int .i64 (.ofNat 5)] ⟨.lf, .h⟩ = some (.int .i64 (bX x 5), ⟨.lf, .h⟩) := by kernel_rfl
theorem b6 (p : List AV) (x : Int) : F.callN (E0 p) 60 (q 5) [.int .u64 x, .int .i64 (.ofNat 6)] ⟨.lf, .h⟩ = some (.int .i64 (bX x 6), ⟨.lf, .h⟩) := by kernel_rfl
theorem b7 (p : List AV) (x : Int) : F.callN (E0 p) 60 (q 5) [.int .u64 x, .int .i64 (.ofNat 7)] ⟨.lf, .h⟩ = some (.int .i64 (bX x 7), ⟨.lf, .h⟩) := by kernel_rfl
theorem r1 (p : List AV) (x : Int) : F.callN (E0 p) 200 (q 6) [.int .u64 x, .int .i64 (.ofNat 1)] ⟨.lf, .h⟩ = some (.int .i64 (rX x 1), ⟨.lf, .h⟩) := by kernel_rfl
theorem r2 (p : List AV) (x : Int) : F.callN (E0 p) 200 (q 6) [.int .u64 x, .int .i64 (.ofNat 2)] ⟨.lf, .h⟩ = some (.int .i64 (rX x 2), ⟨.lf, .h⟩) := by kernel_rfl
theorem r3 (p : List AV) (x : Int) : F.callN (E0 p) 200 (q 6) [.int .u64 x, .int .i64 (.ofNat 3)] ⟨.lf, .h⟩ = some (.int .i64 (rX x 3), ⟨.lf, .h⟩) := by kernel_rfl
theorem r4 (p : List AV) (x : Int) : F.callN (E0 p) 200 (q 6) [.int .u64 x, .int .i64 (.ofNat 4)] ⟨.lf, .h⟩ = some (.int .i64 (rX x 4), ⟨.lf, .h⟩) := by kernel_rfl
theorem r5 (p : List AV) (x : Int) : F.callN (E0 p) 200 (q 6) [.int .u64 x, .int .i64 (.ofNat 5)] ⟨.lf, .h⟩ = some (.int .i64 (rX x 5), ⟨.lf, .h⟩) := by kernel_rfl
theorem r6 (p : List AV) (x : Int) : F.callN (E0 p) 200 (q 6) [.int .u64 x, .int .i64 (.ofNat 6)] ⟨.lf, .h⟩ = some (.int .i64 (rX x 6), ⟨.lf, .h⟩) := by kernel_rfl
theorem r7 (p : List AV) (x : Int) : F.callN (E0 p) 200 (q 6) [.int .u64 x, .int .i64 (.ofNat 7)] ⟨.lf, .h⟩ = some (.int .i64 (rX x 7), ⟨.lf, .h⟩) := by kernel_rfl

theorem bs (p : List AV) (x : Int) : ∀ b, 1 ≤ b → b ≤ 8 → F.callN (E0 p) 60 (q 5) [.int .u64 x, .int .i64 (.ofNat b)] ⟨.lf, .h⟩ = some (.int .i64 (bX x b), ⟨.lf, .h⟩)
  | 0, h, _ => absurd h (by omega)
  | 1, _, _ => b1 p x
  | 2, _, _ => b2 p x
  | 3, _, _ => b3 p x
  | 4, _, _ => b4 p x
  | 5, _, _ => b5 p x
  | 6, _, _ => b6 p x
  | 7, _, _ => b7 p x
  | 8, _, _ => b8 p x
  | n + 9, _, h => absurd h (by omega)
theorem rs (p : List AV) (x : Int) : ∀ b, 1 ≤ b → b ≤ 8 → F.callN (E0 p) 200 (q 6) [.int .u64 x, .int .i64 (.ofNat b)] ⟨.lf, .h⟩ = some (.int .i64 (rX x b), ⟨.lf, .h⟩)
  | 0, h, _ => absurd h (by omega)
  | 1, _, _ => r1 p x
  | 2, _, _ => r2 p x
  | 3, _, _ => r3 p x
  | 4, _, _ => r4 p x
  | 5, _, _ => r5 p x
  | 6, _, _ => r6 p x
  | 7, _, _ => r7 p x
  | 8, _, _ => r8 p x
  | n + 9, _, h => absurd h (by omega)

noncomputable def S3 (b : Bool) (x : Int) (k c : Nat) : Tr (List AV → Hp → Option (AV × Hp)) :=
  Tr.put (Tr.put (S2 b) (q 5) (some (nameSum [.int .u64 x, .int .i64 (.ofNat k)] (.int .i64 (.ofNat c))))) (q 6) (some (nameSum [.int .u64 x, .int .i64 (.ofNat k)] (.int .i64 (.ofNat c))))
noncomputable def E3 (p : List AV) (b : Bool) (x : Int) (k c : Nat) : Env := { E0 p with sums := S3 b x k c }
theorem E3_ok {m : Nat} (hm : m < 256) (w : Bool) (n : Int) (y : AV) (l : List AV) {x k : Nat} (hx : x < 18446744073709551616) (h1 : 1 ≤ k) (h8 : k ≤ 8) : EnvOK Tryz.prog names (E3 (ph m w n y l) (low m) (.ofNat x) k (sumN x 8 % k + 1)) := by
  have e1 := bs (ph m w n y l) (.ofNat x) k h1 h8
  have e2 := rs (ph m w n y l) (.ofNat x) k h1 h8
  rw [F.callN_eq, bX_eq] at e1
  rw [F.callN_eq, rX_eq hx h8] at e2
  exact (E2_ok hm w n y l).sum _ (all_put (all_put (E2_ok hm w n y l).sums (nameSum_ok (E0_ok _) e1 rfl rfl)) (nameSum_ok (E0_ok _) e2 rfl rfl))

/-- the answers -/
def callT (c : Nat) : CallF := fun f _ H => match Pos.same f (q 7) with
  | true => some (.nils, H)
  | false => match Pos.same f (q 8) with
    | true => some (.bool true, H)
    | false => some (.int .i64 (.ofNat c), H)
def obs (x : Int) (k : Nat) : List (Pos × List AV × Hp) :=
  [(q 5, [.int .u64 x, .int .i64 (.ofNat k)], ⟨.lf, .h⟩), (q 6, [.int .u64 x, .int .i64 (.ofNat k)], ⟨.lf, .h⟩), (q 7, [.nilp, .int .i64 (.ofNat k)], ⟨.lf, .h⟩), (q 8, [], ⟨.lf, .h⟩)]
noncomputable def answer (p : List AV) (b : Bool) (x : Int) (k c : Nat) : Option (AV × Hp) :=
  match body (callT c) (E3 p b x k c) 60 x3.body (argsT [.int .u64 x, .int .i64 (.ofNat k)] .h .lf) ⟨.lf, .h⟩ with
      | some (.exit _, _, _) => none
      | some (_, T', H') => match resA (E3 p b x k c).globals T' H' x3.results with
        | some vs => some (resV vs, H')
        | none => none
      | none => none
theorem one_eight (p : List AV) (b : Bool) (x : Int) (k c : Nat) (ha : answer p b x k c = some (.bool true, ⟨.lf, .h⟩)) (ho : obBody (callT c) (E3 p b x k c) 60 x3.body (argsT [.int .u64 x, .int .i64 (.ofNat k)] .h .lf) ⟨.lf, .h⟩ = obs x k) :
    callN (E3 p b x k c) 61 (q 4) [.int .u64 x, .int .i64 (.ofNat k)] ⟨.lf, .h⟩ = some (.bool true, ⟨.lf, .h⟩) := by
  refine callN_by (call1 := callT c) (x := x3) (by kernel_rfl) (by kernel_rfl) (okBody_of ?_) ha
  rw [ho]
  have s5 : (E3 p b x k c).sums.get (q 5) = some (nameSum [.int .u64 x, .int .i64 (.ofNat k)] (.int .i64 (.ofNat c))) := by kernel_rfl
  have s6 : (E3 p b x k c).sums.get (q 6) = some (nameSum [.int .u64 x, .int .i64 (.ofNat k)] (.int .i64 (.ofNat c))) := by kernel_rfl
  refine .cons ?_ (.cons ?_ (.cons ?_ (.cons ?_ .nil)))
  · simp only [callN, s5, nameSum_self]; rfl
  · simp only [callN, s6, nameSum_self]; rfl
  · kernel_rfl
  · kernel_rfl
end Go.Proofs.YtodacahbeoekhaaGreatDoor
