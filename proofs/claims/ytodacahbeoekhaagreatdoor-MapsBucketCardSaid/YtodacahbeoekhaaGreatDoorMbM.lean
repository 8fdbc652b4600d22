/-
The mode of a stable phase: of its own row only the lowest bit counts.
-/
import Derived.Test.YtodacahbeoekhaaGreatDoorMbPgC
import Derived.Test.YtodacahbeoekhaaGreatDoorEvJ
namespace Go.Proofs.YtodacahbeoekhaaGreatDoor
open Go Go.Ev
set_option maxRecDepth 1000000

def g0 : List AV := [zu 0, zu 16, zu 16, zu 32, zu 16, zu 48, zu 0, zu 3, zu 3, zu 32, zu 0, zu 3, zu 3, zu 3, zu 6, zu 3, zu 16, zu 48, zu 0, zu 32, zu 32, zu 1]
/-- the phases' cells: the first row's mode, whether it waits, what comes next, the other rows -/
def ph (m : Nat) (w : Bool) (n : Int) (x : AV) (l : List AV) : List AV := .int .u8 (.ofNat m) :: .bool w :: .int .u8 n :: x :: l
def E0 (p : List AV) : Env := ⟨code, meths, [(0, g0), (1, p)], .lf⟩
def stable : List AV := [.agg [z8 0, z8 2, z8 0, zu 0]]
def modeV (b : Bool) : AV := .int .u8 (.ofNat (match b with | true => 2 | false => 0))
def low (m : Nat) : Bool := Nat.beq (m % 2) 1

/-- does Mode give that? -/
def givesMode (b : Bool) : Option (AV × Hp) → Bool
  | some (.int .u8 (.ofNat r), _) => Nat.beq r (match b with | true => 2 | false => 0)
  | _ => false
theorem givesMode_some {b : Bool} {r : Option (AV × Hp)} (h : givesMode b r = true) : ∃ H', r = some (modeV b, H') := by
  unfold givesMode at h
  split at h
  · rename_i r H'
    have := Nat.eq_of_beq_eq_true h
    subst this
    exact ⟨H', rfl⟩
  · cases h
noncomputable def allMode (w : Bool) (n : Int) (x : AV) (l : List AV) : Nat → Bool
  | 0 => true
  | k + 1 => givesMode (low k) (F.callN (E0 (ph k w n x l)) 40 (q 208) stable ⟨.lf, .h⟩) && allMode w n x l k
theorem allMode_ok (w : Bool) (n : Int) (x : AV) (l : List AV) : allMode w n x l 256 = true := by kernel_rfl
theorem allMode_at {w : Bool} {n : Int} {x : AV} {l : List AV} : ∀ {k m : Nat}, allMode w n x l k = true → m < k → givesMode (low m) (F.callN (E0 (ph m w n x l)) 40 (q 208) stable ⟨.lf, .h⟩) = true
  | 0, m, _, h => absurd h (Nat.not_lt_zero m)
  | k + 1, m, h, hm => by
    simp only [allMode, Bool.and_eq_true] at h
    by_cases e : m = k
    · subst e; exact h.1
    · exact allMode_at h.2 (by omega)

theorem E0_ok (p : List AV) : EnvOK Tryz.prog names (E0 p) := envOK_of mix meths_ok code_ok fun f F h => by
  exfalso
  have : (E0 p).sums.get f = none := Tr.get_lf f
  rw [this] at h
  cases h

noncomputable def S1 (b : Bool) : Tr (List AV → Hp → Option (AV × Hp)) := Tr.put .lf (q 208) (some (oneSum stable (modeV b)))
noncomputable def E1 (p : List AV) (b : Bool) : Env := { E0 p with sums := S1 b }
theorem E1_ok {m : Nat} (hm : m < 256) (w : Bool) (n : Int) (x : AV) (l : List AV) : EnvOK Tryz.prog names (E1 (ph m w n x l) (low m)) := by
  obtain ⟨H', h⟩ := givesMode_some (allMode_at (allMode_ok w n x l) hm)
  rw [F.callN_eq] at h
  exact (E0_ok _).sum _ (all_put all_lf (oneSum_ok (E0_ok _) h rfl rfl))
end Go.Proofs.YtodacahbeoekhaaGreatDoor
