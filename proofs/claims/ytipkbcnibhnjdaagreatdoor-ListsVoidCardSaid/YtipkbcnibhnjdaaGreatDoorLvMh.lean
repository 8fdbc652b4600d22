/-
ListsVoid: what its run calls.
-/
import Derived.Test.YtipkbcnibhnjdaaGreatDoorLvMg
namespace Go.Proofs.YtipkbcnibhnjdaaGreatDoor
open Go Go.Ev
set_option maxRecDepth 1000000

noncomputable def s6 (p : PhT) : Tr SumF := Tr.put (Tr.put (Tr.put (Tr.put (Tr.put (Tr.put .lf (q 40) (some fLoad)) (q 36) (some fStore)) (q 169) (some fAs)) (q 5) (some fLives)) (q 6) (some (realOf cBegin))) (q 170) (some (realOf (cMode p)))
noncomputable def c6 (p : PhT) : Tr CSum := Tr.put (Tr.put .lf (q 6) (some cBegin)) (q 170) (some (cMode p))
theorem s6_ok (p : PhT) : Tr.All (SumQ Tryz.prog (Es p .lf).globals) (s6 p) := all_put (all_put (all_put (all_put (all_put (all_put all_lf (fLoad_ok p)) (fStore_ok p)) (fAs_ok p)) (fLives_ok p)) (cBegin_ok p)) (cMode_ok p)
theorem c6_for (p : PhT) (t : Tr (List Pos)) : (⟨t, c6 p⟩ : Mk).For (Es p (s6 p)) := fun f C h => for_put (for_put (for_lf (s := Tr.put (Tr.put (Tr.put (Tr.put .lf (q 40) (some fLoad)) (q 36) (some fStore)) (q 169) (some fAs)) (q 5) (some fLives))) (q 6) cBegin) (q 170) (cMode p) f C h
noncomputable def t6 : Tr (List Pos) := Tr.put (Tr.put (Tr.put .lf (q 4) (some [q 28, q 66, q 69, q 177])) (q 38) (some [q 37, q 41])) (q 129) (some [q 12])
/-- the phase's word, as the thread that enters loads it -/
def wrd (m : List (List Int)) : Int := memGet (putM m 8 2 1 1) 3 0 0
def mode (p : PhT) (m : List (List Int)) : Int := modeX (p.m (phN (wrd m))) (wrapF .u8 (fldW (wrd m) 3 7)) (wrapF .u8 (fldW (wrd m) 6 7))
def byB (p : PhT) (m : List (List Int)) (c : Nat) : Bool := !(eqI (wrapF .u8 (.ofNat (Nat.land (modI 256 (mode p m)) c))) 0)
def stp (s : Int) : Nat → Int
  | 0 => s
  | k + 1 => wrapF .i64 (stp s k + 1)
theorem v_long (p : PhT) (rows : List (List Int)) (hlen : ltI 300 (.ofNat rows.length) = true) (list key : Int) : ∃ H', callN (Es p (s6 p)) 80 (q 4) [.slc (q 1) 0 rows.length none 4, .int .i64 list, .int .u64 key] (bH0 rows) = some (.bool true, H') := by
  obtain ⟨H', e, _⟩ := seen (c6_for p t6) (n := 80) (f := q 4) (args := [.slc (q 1) 0 rows.length none 4, .int .i64 list, .int .u64 key]) (H := bH0 rows) [bs true] (hs := []) (v := .bool true) (ob := [.av (.bool (ltI 300 (.ofNat rows.length))) (.bool true)]) (os := []) (by kernel_rfl) ⟨by show AV.bool _ = _; rw [hlen], trivial⟩
  exact ⟨H', e⟩
theorem eqI_self (x : Int) : eqI x x = true := eqI_iff.2 rfl
end Go.Proofs.YtipkbcnibhnjdaaGreatDoor
