/-
The other memory's own functions: where an address may be; what stands there.
-/
import Derived.Test.YtipkbcnibhnjdabGreatDoorQvMab
set_option linter.unusedVariables false
set_option linter.unusedSimpArgs false
namespace Go.Proofs.YtipkbcnibhnjdabGreatDoor
open Go Go.Ev
set_option maxRecDepth 1000000

def rA (k : Int) : Int := match eqI k 6 with | true => 32 | false => match eqI k 7 with | true => 4 | false => match eqI k 8 with | true => 16 | false => match eqI k 9 with | true => 256 | false => match eqI k 10 with | true => 9 | false => 1
def rF (k : Int) : Int := match eqI k 6 with | true => 2 | false => match eqI k 8 with | true => 10 | false => match eqI k 9 with | true => 8 | false => match eqI k 11 with | true => 2 | false => 1
def mayC (c : Bool) (a f x y : Int) : Bool := match c with | false => false | true => match leI 0 a with | false => false | true => match ltI a x with | false => false | true => match leI 0 f with | false => false | true => ltI f y
def rMayB (k a f : Int) : Bool := mayC (leI k 11) a f (rA k) (rF k)
noncomputable def rMk : Tr (List Pos) := Tr.put .lf (q 90) (some [q 23, q 28, q 34, q 39])
noncomputable def rMk2 : Tr (List Pos) := Tr.put .lf (q 90) (some [q 9, q 11, q 13, q 15, q 17, q 19, q 23, q 28, q 34, q 39])
theorem rmay_6 (p : PhT) (a f : Int) : ∃ H', callN (Es p .lf) 60 (q 90) [keyA (6) a f] ⟨.lf, .h⟩ = some (.bool (rMayB (6) a f), H') := by
  have hval : rMayB (6) a f = mayC true a f 32 2 := rfl
  cases e1 : leI 0 a with
  | false =>
    obtain ⟨H', e, _⟩ := seen (mk0_for rMk _) (E := Es p .lf) (n := 60) (f := q 90) (args := [keyA (6) a f]) (H := ⟨.lf, .h⟩) [bs true, bs false, bs false, bs false] (hs := []) (v := .bool false) (ob := [.av (.bool false) (.bool false), .av (.bool false) (.bool false), .av (.bool (leI 0 a)) (.bool false), .av (.bool (leI (6) 11)) (.bool true)]) (os := []) (by kernel_rfl) ⟨by first | rfl | (show AV.bool _ = _; rw [e3]), by first | rfl | (show AV.bool _ = _; rw [e2]), by first | rfl | (show AV.bool _ = _; rw [e1]), by first | rfl | (show AV.bool _ = _; rw [e0]), trivial⟩
    exact ⟨H', by rw [e, hval]; simp only [mayC, e1]⟩
  | true =>
    cases e2 : ltI a 32 with
    | false =>
      obtain ⟨H', e, _⟩ := seen (mk0_for rMk _) (E := Es p .lf) (n := 60) (f := q 90) (args := [keyA (6) a f]) (H := ⟨.lf, .h⟩) [bs true, bs true, bs false, bs false] (hs := []) (v := .bool false) (ob := [.av (.bool false) (.bool false), .av (.bool (ltI a 32)) (.bool false), .av (.bool (leI 0 a)) (.bool true), .av (.bool (leI (6) 11)) (.bool true)]) (os := []) (by kernel_rfl) ⟨by first | rfl | (show AV.bool _ = _; rw [e3]), by first | rfl | (show AV.bool _ = _; rw [e2]), by first | rfl | (show AV.bool _ = _; rw [e1]), by first | rfl | (show AV.bool _ = _; rw [e0]), trivial⟩
      exact ⟨H', by rw [e, hval]; simp only [mayC, e1, e2]⟩
    | true =>
      cases e3 : leI 0 f with
      | false =>
        obtain ⟨H', e, _⟩ := seen (mk0_for rMk _) (E := Es p .lf) (n := 60) (f := q 90) (args := [keyA (6) a f]) (H := ⟨.lf, .h⟩) [bs true, bs true, bs true, bs false] (hs := []) (v := .bool false) (ob := [.av (.bool (leI 0 f)) (.bool false), .av (.bool (ltI a 32)) (.bool true), .av (.bool (leI 0 a)) (.bool true), .av (.bool (leI (6) 11)) (.bool true)]) (os := []) (by kernel_rfl) ⟨by first | rfl | (show AV.bool _ = _; rw [e3]), by first | rfl | (show AV.bool _ = _; rw [e2]), by first | rfl | (show AV.bool _ = _; rw [e1]), by first | rfl | (show AV.bool _ = _; rw [e0]), trivial⟩
        exact ⟨H', by rw [e, hval]; simp only [mayC, e1, e2, e3]⟩
      | true =>
        obtain ⟨H', e, _⟩ := seen (mk0_for rMk _) (E := Es p .lf) (n := 60) (f := q 90) (args := [keyA (6) a f]) (H := ⟨.lf, .h⟩) [bs true, bs true, bs true, bs true] (hs := []) (v := .bool (ltI f 2)) (ob := [.av (.bool (leI 0 f)) (.bool true), .av (.bool (ltI a 32)) (.bool true), .av (.bool (leI 0 a)) (.bool true), .av (.bool (leI (6) 11)) (.bool true)]) (os := []) (by kernel_rfl) ⟨by first | rfl | (show AV.bool _ = _; rw [e3]), by first | rfl | (show AV.bool _ = _; rw [e2]), by first | rfl | (show AV.bool _ = _; rw [e1]), by first | rfl | (show AV.bool _ = _; rw [e0]), trivial⟩
        exact ⟨H', by rw [e, hval]; simp only [mayC, e1, e2, e3]⟩
theorem rmay_7 (p : PhT) (a f : Int) : ∃ H', callN (Es p .lf) 60 (q 90) [keyA (7) a f] ⟨.lf, .h⟩ = some (.bool (rMayB (7) a f), H') := by
  have hval : rMayB (7) a f = mayC true a f 4 1 := rfl
  cases e1 : leI 0 a with
  | false =>
    obtain ⟨H', e, _⟩ := seen (mk0_for rMk _) (E := Es p .lf) (n := 60) (f := q 90) (args := [keyA (7) a f]) (H := ⟨.lf, .h⟩) [bs true, bs false, bs false, bs false] (hs := []) (v := .bool false) (ob := [.av (.bool false) (.bool false), .av (.bool false) (.bool false), .av (.bool (leI 0 a)) (.bool false), .av (.bool (leI (7) 11)) (.bool true)]) (os := []) (by kernel_rfl) ⟨by first | rfl | (show AV.bool _ = _; rw [e3]), by first | rfl | (show AV.bool _ = _; rw [e2]), by first | rfl | (show AV.bool _ = _; rw [e1]), by first | rfl | (show AV.bool _ = _; rw [e0]), trivial⟩
    exact ⟨H', by rw [e, hval]; simp only [mayC, e1]⟩
  | true =>
    cases e2 : ltI a 4 with
    | false =>
      obtain ⟨H', e, _⟩ := seen (mk0_for rMk _) (E := Es p .lf) (n := 60) (f := q 90) (args := [keyA (7) a f]) (H := ⟨.lf, .h⟩) [bs true, bs true, bs false, bs false] (hs := []) (v := .bool false) (ob := [.av (.bool false) (.bool false), .av (.bool (ltI a 4)) (.bool false), .av (.bool (leI 0 a)) (.bool true), .av (.bool (leI (7) 11)) (.bool true)]) (os := []) (by kernel_rfl) ⟨by first | rfl | (show AV.bool _ = _; rw [e3]), by first | rfl | (show AV.bool _ = _; rw [e2]), by first | rfl | (show AV.bool _ = _; rw [e1]), by first | rfl | (show AV.bool _ = _; rw [e0]), trivial⟩
      exact ⟨H', by rw [e, hval]; simp only [mayC, e1, e2]⟩
    | true =>
      cases e3 : leI 0 f with
      | false =>
        obtain ⟨H', e, _⟩ := seen (mk0_for rMk _) (E := Es p .lf) (n := 60) (f := q 90) (args := [keyA (7) a f]) (H := ⟨.lf, .h⟩) [bs true, bs true, bs true, bs false] (hs := []) (v := .bool false) (ob := [.av (.bool (leI 0 f)) (.bool false), .av (.bool (ltI a 4)) (.bool true), .av (.bool (leI 0 a)) (.bool true), .av (.bool (leI (7) 11)) (.bool true)]) (os := []) (by kernel_rfl) ⟨by first | rfl | (show AV.bool _ = _; rw [e3]), by first | rfl | (show AV.bool _ = _; rw [e2]), by first | rfl | (show AV.bool _ = _; rw [e1]), by first | rfl | (show AV.bool _ = _; rw [e0]), trivial⟩
        exact ⟨H', by rw [e, hval]; simp only [mayC, e1, e2, e3]⟩
      | true =>
        obtain ⟨H', e, _⟩ := seen (mk0_for rMk _) (E := Es p .lf) (n := 60) (f := q 90) (args := [keyA (7) a f]) (H := ⟨.lf, .h⟩) [bs true, bs true, bs true, bs true] (hs := []) (v := .bool (ltI f 1)) (ob := [.av (.bool (leI 0 f)) (.bool true), .av (.bool (ltI a 4)) (.bool true), .av (.bool (leI 0 a)) (.bool true), .av (.bool (leI (7) 11)) (.bool true)]) (os := []) (by kernel_rfl) ⟨by first | rfl | (show AV.bool _ = _; rw [e3]), by first | rfl | (show AV.bool _ = _; rw [e2]), by first | rfl | (show AV.bool _ = _; rw [e1]), by first | rfl | (show AV.bool _ = _; rw [e0]), trivial⟩
        exact ⟨H', by rw [e, hval]; simp only [mayC, e1, e2, e3]⟩
theorem rmay_8 (p : PhT) (a f : Int) : ∃ H', callN (Es p .lf) 60 (q 90) [keyA (8) a f] ⟨.lf, .h⟩ = some (.bool (rMayB (8) a f), H') := by
  have hval : rMayB (8) a f = mayC true a f 16 10 := rfl
  cases e1 : leI 0 a with
  | false =>
    obtain ⟨H', e, _⟩ := seen (mk0_for rMk _) (E := Es p .lf) (n := 60) (f := q 90) (args := [keyA (8) a f]) (H := ⟨.lf, .h⟩) [bs true, bs false, bs false, bs false] (hs := []) (v := .bool false) (ob := [.av (.bool false) (.bool false), .av (.bool false) (.bool false), .av (.bool (leI 0 a)) (.bool false), .av (.bool (leI (8) 11)) (.bool true)]) (os := []) (by kernel_rfl) ⟨by first | rfl | (show AV.bool _ = _; rw [e3]), by first | rfl | (show AV.bool _ = _; rw [e2]), by first | rfl | (show AV.bool _ = _; rw [e1]), by first | rfl | (show AV.bool _ = _; rw [e0]), trivial⟩
    exact ⟨H', by rw [e, hval]; simp only [mayC, e1]⟩
  | true =>
    cases e2 : ltI a 16 with
    | false =>
      obtain ⟨H', e, _⟩ := seen (mk0_for rMk _) (E := Es p .lf) (n := 60) (f := q 90) (args := [keyA (8) a f]) (H := ⟨.lf, .h⟩) [bs true, bs true, bs false, bs false] (hs := []) (v := .bool false) (ob := [.av (.bool false) (.bool false), .av (.bool (ltI a 16)) (.bool false), .av (.bool (leI 0 a)) (.bool true), .av (.bool (leI (8) 11)) (.bool true)]) (os := []) (by kernel_rfl) ⟨by first | rfl | (show AV.bool _ = _; rw [e3]), by first | rfl | (show AV.bool _ = _; rw [e2]), by first | rfl | (show AV.bool _ = _; rw [e1]), by first | rfl | (show AV.bool _ = _; rw [e0]), trivial⟩
      exact ⟨H', by rw [e, hval]; simp only [mayC, e1, e2]⟩
    | true =>
      cases e3 : leI 0 f with
      | false =>
        obtain ⟨H', e, _⟩ := seen (mk0_for rMk _) (E := Es p .lf) (n := 60) (f := q 90) (args := [keyA (8) a f]) (H := ⟨.lf, .h⟩) [bs true, bs true, bs true, bs false] (hs := []) (v := .bool false) (ob := [.av (.bool (leI 0 f)) (.bool false), .av (.bool (ltI a 16)) (.bool true), .av (.bool (leI 0 a)) (.bool true), .av (.bool (leI (8) 11)) (.bool true)]) (os := []) (by kernel_rfl) ⟨by first | rfl | (show AV.bool _ = _; rw [e3]), by first | rfl | (show AV.bool _ = _; rw [e2]), by first | rfl | (show AV.bool _ = _; rw [e1]), by first | rfl | (show AV.bool _ = _; rw [e0]), trivial⟩
        exact ⟨H', by rw [e, hval]; simp only [mayC, e1, e2, e3]⟩
      | true =>
        obtain ⟨H', e, _⟩ := seen (mk0_for rMk _) (E := Es p .lf) (n := 60) (f := q 90) (args := [keyA (8) a f]) (H := ⟨.lf, .h⟩) [bs true, bs true, bs true, bs true] (hs := []) (v := .bool (ltI f 10)) (ob := [.av (.bool (leI 0 f)) (.bool true), .av (.bool (ltI a 16)) (.bool true), .av (.bool (leI 0 a)) (.bool true), .av (.bool (leI (8) 11)) (.bool true)]) (os := []) (by kernel_rfl) ⟨by first | rfl | (show AV.bool _ = _; rw [e3]), by first | rfl | (show AV.bool _ = _; rw [e2]), by first | rfl | (show AV.bool _ = _; rw [e1]), by first | rfl | (show AV.bool _ = _; rw [e0]), trivial⟩
        exact ⟨H', by rw [e, hval]; simp only [mayC, e1, e2, e3]⟩
theorem rmay_9 (p : PhT) (a f : Int) : ∃ H', callN (Es p .lf) 60 (q 90) [keyA (9) a f] ⟨.lf, .h⟩ = some (.bool (rMayB (9) a f), H') := by
  have hval : rMayB (9) a f = mayC true a f 256 8 := rfl
  cases e1 : leI 0 a with
  | false =>
    obtain ⟨H', e, _⟩ := seen (mk0_for rMk _) (E := Es p .lf) (n := 60) (f := q 90) (args := [keyA (9) a f]) (H := ⟨.lf, .h⟩) [bs true, bs false, bs false, bs false] (hs := []) (v := .bool false) (ob := [.av (.bool false) (.bool false), .av (.bool false) (.bool false), .av (.bool (leI 0 a)) (.bool false), .av (.bool (leI (9) 11)) (.bool true)]) (os := []) (by kernel_rfl) ⟨by first | rfl | (show AV.bool _ = _; rw [e3]), by first | rfl | (show AV.bool _ = _; rw [e2]), by first | rfl | (show AV.bool _ = _; rw [e1]), by first | rfl | (show AV.bool _ = _; rw [e0]), trivial⟩
    exact ⟨H', by rw [e, hval]; simp only [mayC, e1]⟩
  | true =>
    cases e2 : ltI a 256 with
    | false =>
      obtain ⟨H', e, _⟩ := seen (mk0_for rMk _) (E := Es p .lf) (n := 60) (f := q 90) (args := [keyA (9) a f]) (H := ⟨.lf, .h⟩) [bs true, bs true, bs false, bs false] (hs := []) (v := .bool false) (ob := [.av (.bool false) (.bool false), .av (.bool (ltI a 256)) (.bool false), .av (.bool (leI 0 a)) (.bool true), .av (.bool (leI (9) 11)) (.bool true)]) (os := []) (by kernel_rfl) ⟨by first | rfl | (show AV.bool _ = _; rw [e3]), by first | rfl | (show AV.bool _ = _; rw [e2]), by first | rfl | (show AV.bool _ = _; rw [e1]), by first | rfl | (show AV.bool _ = _; rw [e0]), trivial⟩
      exact ⟨H', by rw [e, hval]; simp only [mayC, e1, e2]⟩
    | true =>
      cases e3 : leI 0 f with
      | false =>
        obtain ⟨H', e, _⟩ := seen (mk0_for rMk _) (E := Es p .lf) (n := 60) (f := q 90) (args := [keyA (9) a f]) (H := ⟨.lf, .h⟩) [bs true, bs true, bs true, bs false] (hs := []) (v := .bool false) (ob := [.av (.bool (leI 0 f)) (.bool false), .av (.bool (ltI a 256)) (.bool true), .av (.bool (leI 0 a)) (.bool true), .av (.bool (leI (9) 11)) (.bool true)]) (os := []) (by kernel_rfl) ⟨by first | rfl | (show AV.bool _ = _; rw [e3]), by first | rfl | (show AV.bool _ = _; rw [e2]), by first | rfl | (show AV.bool _ = _; rw [e1]), by first | rfl | (show AV.bool _ = _; rw [e0]), trivial⟩
        exact ⟨H', by rw [e, hval]; simp only [mayC, e1, e2, e3]⟩
      | true =>
        obtain ⟨H', e, _⟩ := seen (mk0_for rMk _) (E := Es p .lf) (n := 60) (f := q 90) (args := [keyA (9) a f]) (H := ⟨.lf, .h⟩) [bs true, bs true, bs true, bs true] (hs := []) (v := .bool (ltI f 8)) (ob := [.av (.bool (leI 0 f)) (.bool true), .av (.bool (ltI a 256)) (.bool true), .av (.bool (leI 0 a)) (.bool true), .av (.bool (leI (9) 11)) (.bool true)]) (os := []) (by kernel_rfl) ⟨by first | rfl | (show AV.bool _ = _; rw [e3]), by first | rfl | (show AV.bool _ = _; rw [e2]), by first | rfl | (show AV.bool _ = _; rw [e1]), by first | rfl | (show AV.bool _ = _; rw [e0]), trivial⟩
        exact ⟨H', by rw [e, hval]; simp only [mayC, e1, e2, e3]⟩
theorem rmay_10 (p : PhT) (a f : Int) : ∃ H', callN (Es p .lf) 60 (q 90) [keyA (10) a f] ⟨.lf, .h⟩ = some (.bool (rMayB (10) a f), H') := by
  have hval : rMayB (10) a f = mayC true a f 9 1 := rfl
  cases e1 : leI 0 a with
  | false =>
    obtain ⟨H', e, _⟩ := seen (mk0_for rMk _) (E := Es p .lf) (n := 60) (f := q 90) (args := [keyA (10) a f]) (H := ⟨.lf, .h⟩) [bs true, bs false, bs false, bs false] (hs := []) (v := .bool false) (ob := [.av (.bool false) (.bool false), .av (.bool false) (.bool false), .av (.bool (leI 0 a)) (.bool false), .av (.bool (leI (10) 11)) (.bool true)]) (os := []) (by kernel_rfl) ⟨by first | rfl | (show AV.bool _ = _; rw [e3]), by first | rfl | (show AV.bool _ = _; rw [e2]), by first | rfl | (show AV.bool _ = _; rw [e1]), by first | rfl | (show AV.bool _ = _; rw [e0]), trivial⟩
    exact ⟨H', by rw [e, hval]; simp only [mayC, e1]⟩
  | true =>
    cases e2 : ltI a 9 with
    | false =>
      obtain ⟨H', e, _⟩ := seen (mk0_for rMk _) (E := Es p .lf) (n := 60) (f := q 90) (args := [keyA (10) a f]) (H := ⟨.lf, .h⟩) [bs true, bs true, bs false, bs false] (hs := []) (v := .bool false) (ob := [.av (.bool false) (.bool false), .av (.bool (ltI a 9)) (.bool false), .av (.bool (leI 0 a)) (.bool true), .av (.bool (leI (10) 11)) (.bool true)]) (os := []) (by kernel_rfl) ⟨by first | rfl | (show AV.bool _ = _; rw [e3]), by first | rfl | (show AV.bool _ = _; rw [e2]), by first | rfl | (show AV.bool _ = _; rw [e1]), by first | rfl | (show AV.bool _ = _; rw [e0]), trivial⟩
      exact ⟨H', by rw [e, hval]; simp only [mayC, e1, e2]⟩
    | true =>
      cases e3 : leI 0 f with
      | false =>
        obtain ⟨H', e, _⟩ := seen (mk0_for rMk _) (E := Es p .lf) (n := 60) (f := q 90) (args := [keyA (10) a f]) (H := ⟨.lf, .h⟩) [bs true, bs true, bs true, bs false] (hs := []) (v := .bool false) (ob := [.av (.bool (leI 0 f)) (.bool false), .av (.bool (ltI a 9)) (.bool true), .av (.bool (leI 0 a)) (.bool true), .av (.bool (leI (10) 11)) (.bool true)]) (os := []) (by kernel_rfl) ⟨by first | rfl | (show AV.bool _ = _; rw [e3]), by first | rfl | (show AV.bool _ = _; rw [e2]), by first | rfl | (show AV.bool _ = _; rw [e1]), by first | rfl | (show AV.bool _ = _; rw [e0]), trivial⟩
        exact ⟨H', by rw [e, hval]; simp only [mayC, e1, e2, e3]⟩
      | true =>
        obtain ⟨H', e, _⟩ := seen (mk0_for rMk _) (E := Es p .lf) (n := 60) (f := q 90) (args := [keyA (10) a f]) (H := ⟨.lf, .h⟩) [bs true, bs true, bs true, bs true] (hs := []) (v := .bool (ltI f 1)) (ob := [.av (.bool (leI 0 f)) (.bool true), .av (.bool (ltI a 9)) (.bool true), .av (.bool (leI 0 a)) (.bool true), .av (.bool (leI (10) 11)) (.bool true)]) (os := []) (by kernel_rfl) ⟨by first | rfl | (show AV.bool _ = _; rw [e3]), by first | rfl | (show AV.bool _ = _; rw [e2]), by first | rfl | (show AV.bool _ = _; rw [e1]), by first | rfl | (show AV.bool _ = _; rw [e0]), trivial⟩
        exact ⟨H', by rw [e, hval]; simp only [mayC, e1, e2, e3]⟩
theorem rmay_11 (p : PhT) (a f : Int) : ∃ H', callN (Es p .lf) 60 (q 90) [keyA (11) a f] ⟨.lf, .h⟩ = some (.bool (rMayB (11) a f), H') := by
  have hval : rMayB (11) a f = mayC true a f 1 2 := rfl
  cases e1 : leI 0 a with
  | false =>
    obtain ⟨H', e, _⟩ := seen (mk0_for rMk _) (E := Es p .lf) (n := 60) (f := q 90) (args := [keyA (11) a f]) (H := ⟨.lf, .h⟩) [bs true, bs false, bs false, bs false] (hs := []) (v := .bool false) (ob := [.av (.bool false) (.bool false), .av (.bool false) (.bool false), .av (.bool (leI 0 a)) (.bool false), .av (.bool (leI (11) 11)) (.bool true)]) (os := []) (by kernel_rfl) ⟨by first | rfl | (show AV.bool _ = _; rw [e3]), by first | rfl | (show AV.bool _ = _; rw [e2]), by first | rfl | (show AV.bool _ = _; rw [e1]), by first | rfl | (show AV.bool _ = _; rw [e0]), trivial⟩
    exact ⟨H', by rw [e, hval]; simp only [mayC, e1]⟩
  | true =>
    cases e2 : ltI a 1 with
    | false =>
      obtain ⟨H', e, _⟩ := seen (mk0_for rMk _) (E := Es p .lf) (n := 60) (f := q 90) (args := [keyA (11) a f]) (H := ⟨.lf, .h⟩) [bs true, bs true, bs false, bs false] (hs := []) (v := .bool false) (ob := [.av (.bool false) (.bool false), .av (.bool (ltI a 1)) (.bool false), .av (.bool (leI 0 a)) (.bool true), .av (.bool (leI (11) 11)) (.bool true)]) (os := []) (by kernel_rfl) ⟨by first | rfl | (show AV.bool _ = _; rw [e3]), by first | rfl | (show AV.bool _ = _; rw [e2]), by first | rfl | (show AV.bool _ = _; rw [e1]), by first | rfl | (show AV.bool _ = _; rw [e0]), trivial⟩
      exact ⟨H', by rw [e, hval]; simp only [mayC, e1, e2]⟩
    | true =>
      cases e3 : leI 0 f with
      | false =>
        obtain ⟨H', e, _⟩ := seen (mk0_for rMk _) (E := Es p .lf) (n := 60) (f := q 90) (args := [keyA (11) a f]) (H := ⟨.lf, .h⟩) [bs true, bs true, bs true, bs false] (hs := []) (v := .bool false) (ob := [.av (.bool (leI 0 f)) (.bool false), .av (.bool (ltI a 1)) (.bool true), .av (.bool (leI 0 a)) (.bool true), .av (.bool (leI (11) 11)) (.bool true)]) (os := []) (by kernel_rfl) ⟨by first | rfl | (show AV.bool _ = _; rw [e3]), by first | rfl | (show AV.bool _ = _; rw [e2]), by first | rfl | (show AV.bool _ = _; rw [e1]), by first | rfl | (show AV.bool _ = _; rw [e0]), trivial⟩
        exact ⟨H', by rw [e, hval]; simp only [mayC, e1, e2, e3]⟩
      | true =>
        obtain ⟨H', e, _⟩ := seen (mk0_for rMk _) (E := Es p .lf) (n := 60) (f := q 90) (args := [keyA (11) a f]) (H := ⟨.lf, .h⟩) [bs true, bs true, bs true, bs true] (hs := []) (v := .bool (ltI f 2)) (ob := [.av (.bool (leI 0 f)) (.bool true), .av (.bool (ltI a 1)) (.bool true), .av (.bool (leI 0 a)) (.bool true), .av (.bool (leI (11) 11)) (.bool true)]) (os := []) (by kernel_rfl) ⟨by first | rfl | (show AV.bool _ = _; rw [e3]), by first | rfl | (show AV.bool _ = _; rw [e2]), by first | rfl | (show AV.bool _ = _; rw [e1]), by first | rfl | (show AV.bool _ = _; rw [e0]), trivial⟩
        exact ⟨H', by rw [e, hval]; simp only [mayC, e1, e2, e3]⟩
theorem rmay_else (p : PhT) (k : Int) (h6 : eqI k 6 = false) (h7 : eqI k 7 = false) (h8 : eqI k 8 = false) (h9 : eqI k 9 = false) (h10 : eqI k 10 = false) (h11 : eqI k 11 = false) (a f : Int) : ∃ H', callN (Es p .lf) 60 (q 90) [keyA k a f] ⟨.lf, .h⟩ = some (.bool (rMayB k a f), H') := by
  have hval : rMayB k a f = mayC (leI k 11) a f 1 1 := by simp only [rMayB, rA, rF, h6, h7, h8, h9, h10, h11]
  cases e0 : leI k 11 with
  | false =>
    obtain ⟨H', e, _⟩ := seen (mk0_for rMk2 _) (E := Es p .lf) (n := 60) (f := q 90) (args := [keyA k a f]) (H := ⟨.lf, .h⟩) [bs false, bs false, bs false, bs false, bs false, bs false, bs false, bs false, bs false, bs false] (hs := []) (v := .bool false) (ob := [.av (.bool false) (.bool false), .av (.bool false) (.bool false), .av (.bool false) (.bool false), .av (.bool (leI k 11)) (.bool false), .av (.bool (eqI k 11)) (.bool false), .av (.bool (eqI k 10)) (.bool false), .av (.bool (eqI k 9)) (.bool false), .av (.bool (eqI k 8)) (.bool false), .av (.bool (eqI k 7)) (.bool false), .av (.bool (eqI k 6)) (.bool false)]) (os := []) (by kernel_rfl) ⟨by first | rfl | (show AV.bool _ = _; rw [e3]), by first | rfl | (show AV.bool _ = _; rw [e2]), by first | rfl | (show AV.bool _ = _; rw [e1]), by first | rfl | (show AV.bool _ = _; rw [e0]), by show AV.bool _ = _; rw [h11], by show AV.bool _ = _; rw [h10], by show AV.bool _ = _; rw [h9], by show AV.bool _ = _; rw [h8], by show AV.bool _ = _; rw [h7], by show AV.bool _ = _; rw [h6], trivial⟩
    exact ⟨H', by rw [e, hval]; simp only [mayC, e0]⟩
  | true =>
    cases e1 : leI 0 a with
    | false =>
      obtain ⟨H', e, _⟩ := seen (mk0_for rMk2 _) (E := Es p .lf) (n := 60) (f := q 90) (args := [keyA k a f]) (H := ⟨.lf, .h⟩) [bs false, bs false, bs false, bs false, bs false, bs false, bs true, bs false, bs false, bs false] (hs := []) (v := .bool false) (ob := [.av (.bool false) (.bool false), .av (.bool false) (.bool false), .av (.bool (leI 0 a)) (.bool false), .av (.bool (leI k 11)) (.bool true), .av (.bool (eqI k 11)) (.bool false), .av (.bool (eqI k 10)) (.bool false), .av (.bool (eqI k 9)) (.bool false), .av (.bool (eqI k 8)) (.bool false), .av (.bool (eqI k 7)) (.bool false), .av (.bool (eqI k 6)) (.bool false)]) (os := []) (by kernel_rfl) ⟨by first | rfl | (show AV.bool _ = _; rw [e3]), by first | rfl | (show AV.bool _ = _; rw [e2]), by first | rfl | (show AV.bool _ = _; rw [e1]), by first | rfl | (show AV.bool _ = _; rw [e0]), by show AV.bool _ = _; rw [h11], by show AV.bool _ = _; rw [h10], by show AV.bool _ = _; rw [h9], by show AV.bool _ = _; rw [h8], by show AV.bool _ = _; rw [h7], by show AV.bool _ = _; rw [h6], trivial⟩
      exact ⟨H', by rw [e, hval]; simp only [mayC, e0, e1]⟩
    | true =>
      cases e2 : ltI a 1 with
      | false =>
        obtain ⟨H', e, _⟩ := seen (mk0_for rMk2 _) (E := Es p .lf) (n := 60) (f := q 90) (args := [keyA k a f]) (H := ⟨.lf, .h⟩) [bs false, bs false, bs false, bs false, bs false, bs false, bs true, bs true, bs false, bs false] (hs := []) (v := .bool false) (ob := [.av (.bool false) (.bool false), .av (.bool (ltI a 1)) (.bool false), .av (.bool (leI 0 a)) (.bool true), .av (.bool (leI k 11)) (.bool true), .av (.bool (eqI k 11)) (.bool false), .av (.bool (eqI k 10)) (.bool false), .av (.bool (eqI k 9)) (.bool false), .av (.bool (eqI k 8)) (.bool false), .av (.bool (eqI k 7)) (.bool false), .av (.bool (eqI k 6)) (.bool false)]) (os := []) (by kernel_rfl) ⟨by first | rfl | (show AV.bool _ = _; rw [e3]), by first | rfl | (show AV.bool _ = _; rw [e2]), by first | rfl | (show AV.bool _ = _; rw [e1]), by first | rfl | (show AV.bool _ = _; rw [e0]), by show AV.bool _ = _; rw [h11], by show AV.bool _ = _; rw [h10], by show AV.bool _ = _; rw [h9], by show AV.bool _ = _; rw [h8], by show AV.bool _ = _; rw [h7], by show AV.bool _ = _; rw [h6], trivial⟩
        exact ⟨H', by rw [e, hval]; simp only [mayC, e0, e1, e2]⟩
      | true =>
        cases e3 : leI 0 f with
        | false =>
          obtain ⟨H', e, _⟩ := seen (mk0_for rMk2 _) (E := Es p .lf) (n := 60) (f := q 90) (args := [keyA k a f]) (H := ⟨.lf, .h⟩) [bs false, bs false, bs false, bs false, bs false, bs false, bs true, bs true, bs true, bs false] (hs := []) (v := .bool false) (ob := [.av (.bool (leI 0 f)) (.bool false), .av (.bool (ltI a 1)) (.bool true), .av (.bool (leI 0 a)) (.bool true), .av (.bool (leI k 11)) (.bool true), .av (.bool (eqI k 11)) (.bool false), .av (.bool (eqI k 10)) (.bool false), .av (.bool (eqI k 9)) (.bool false), .av (.bool (eqI k 8)) (.bool false), .av (.bool (eqI k 7)) (.bool false), .av (.bool (eqI k 6)) (.bool false)]) (os := []) (by kernel_rfl) ⟨by first | rfl | (show AV.bool _ = _; rw [e3]), by first | rfl | (show AV.bool _ = _; rw [e2]), by first | rfl | (show AV.bool _ = _; rw [e1]), by first | rfl | (show AV.bool _ = _; rw [e0]), by show AV.bool _ = _; rw [h11], by show AV.bool _ = _; rw [h10], by show AV.bool _ = _; rw [h9], by show AV.bool _ = _; rw [h8], by show AV.bool _ = _; rw [h7], by show AV.bool _ = _; rw [h6], trivial⟩
          exact ⟨H', by rw [e, hval]; simp only [mayC, e0, e1, e2, e3]⟩
        | true =>
          obtain ⟨H', e, _⟩ := seen (mk0_for rMk2 _) (E := Es p .lf) (n := 60) (f := q 90) (args := [keyA k a f]) (H := ⟨.lf, .h⟩) [bs false, bs false, bs false, bs false, bs false, bs false, bs true, bs true, bs true, bs true] (hs := []) (v := .bool (ltI f 1)) (ob := [.av (.bool (leI 0 f)) (.bool true), .av (.bool (ltI a 1)) (.bool true), .av (.bool (leI 0 a)) (.bool true), .av (.bool (leI k 11)) (.bool true), .av (.bool (eqI k 11)) (.bool false), .av (.bool (eqI k 10)) (.bool false), .av (.bool (eqI k 9)) (.bool false), .av (.bool (eqI k 8)) (.bool false), .av (.bool (eqI k 7)) (.bool false), .av (.bool (eqI k 6)) (.bool false)]) (os := []) (by kernel_rfl) ⟨by first | rfl | (show AV.bool _ = _; rw [e3]), by first | rfl | (show AV.bool _ = _; rw [e2]), by first | rfl | (show AV.bool _ = _; rw [e1]), by first | rfl | (show AV.bool _ = _; rw [e0]), by show AV.bool _ = _; rw [h11], by show AV.bool _ = _; rw [h10], by show AV.bool _ = _; rw [h9], by show AV.bool _ = _; rw [h8], by show AV.bool _ = _; rw [h7], by show AV.bool _ = _; rw [h6], trivial⟩
          exact ⟨H', by rw [e, hval]; simp only [mayC, e0, e1, e2, e3]⟩
theorem rmay_run (p : PhT) (k a f : Int) : ∃ H', callN (Es p .lf) 60 (q 90) [keyA k a f] ⟨.lf, .h⟩ = some (.bool (rMayB k a f), H') := by
  by_cases h : k = 6 ∨ k = 7 ∨ k = 8 ∨ k = 9 ∨ k = 10 ∨ k = 11
  · rcases h with rfl | rfl | rfl | rfl | rfl | rfl
    · exact rmay_6 p a f
    · exact rmay_7 p a f
    · exact rmay_8 p a f
    · exact rmay_9 p a f
    · exact rmay_10 p a f
    · exact rmay_11 p a f
  · have hc : ∀ c : Int, k ≠ c → eqI k c = false := fun c h1 => by rw [Bool.eq_false_iff]; intro e; exact h1 (eqI_iff.1 e)
    exact rmay_else p k (hc 6 (by omega)) (hc 7 (by omega)) (hc 8 (by omega)) (hc 9 (by omega)) (hc 10 (by omega)) (hc 11 (by omega)) a f
noncomputable def fRMay : SumF := fun args H => match args with
  | [.agg [.int .u8 k, .int .i64 a, .int .i64 f]] => some (.bool (rMayB k a f), H)
  | _ => none
theorem fRMay_ok (p : PhT) : SumQ Tryz.prog (Es p .lf).globals (q 90) fRMay := SumQ.of fun args H v H' h => by
  unfold fRMay at h
  split at h
  · rename_i k a f
    cases h
    obtain ⟨H1, h1⟩ := rmay_run p k a f
    exact flatSum (s := .lf) all_lf h1 rfl rfl H
  · cases h
noncomputable def s3 : Tr SumF := Tr.put .lf (q 90) (some fRMay)
theorem s3_ok (p : PhT) : Tr.All (SumQ Tryz.prog (Es p .lf).globals) s3 := all_put all_lf (fRMay_ok p)

/-- the other memory: its rows, how many accesses there were -/
noncomputable def HR : Option (List (List Int)) → Int → Hp
  | none, s => ⟨mkT [(q 1, .cells (.nils :: hd7 s))], q 3⟩
  | some ml, s => ⟨mkT [(q 1, .cells (.slc (q 2) 0 ml.length none 4 :: hd7 s)), (q 2, .gh 1 ml 0)], q 3⟩
def wordL : Option (List (List Int)) → Int → Int → Int → Int
  | none, _, _, _ => 0
  | some ml, k, a, f => memGet ml k a f
theorem word_none (p : PhT) (s k a f : Int) : Tri Tryz.prog (Es p .lf).globals (q 68) [.ptr (q 1) 0, keyA k a f] (HR none s) (.int .u64 0) (HR none s) := by
  obtain ⟨H1, e1, e2⟩ := seen (mk0_for .lf _) (E := Es p .lf) (n := 60) (f := q 68) (args := [.ptr (q 1) 0, keyA k a f]) (H := HR none s) [] (hs := [q 1]) (v := .int .u64 0) (ob := []) (os := [some (.cells (.nils :: hd7 s))]) (by kernel_rfl) trivial
  refine (Tri.of_run (E0_ok p) e1).keep rfl (fun φ1 ψ u _ hu => AV.flat_any rfl hu) fun i o' hi => ?_
  have := mkT_get hi
  simp only [List.mem_cons, Prod.mk.injEq, List.not_mem_nil, or_false] at this
  obtain ⟨rfl, rfl⟩ := this
  simp only [List.map_cons, List.map_nil, List.cons.injEq, and_true] at e2
  exact ⟨q1_lt, _, e2, fun φ1 ψ s' n c _ ho => by
    obtain ⟨c', t, h1, h2, h3, h4⟩ := ho
    exact ⟨c', t, h1, h2, h3, fun j x hj => by
      obtain ⟨u, hu, hr⟩ := h4 j x hj
      exact ⟨u, hu, AV.flat_any (flats_at (l := .nils :: hd7 s) rfl hj) hr⟩⟩⟩

/-- where Word's loop stands -/
noncomputable def wT (i : Nat) : Tm := mkT [(q 1, .ptr (q 1) 0), (q 4, .ptr (q 3) 0), (q 6, .int .i64 (.ofNat i))]
noncomputable def wH (ml : List (List Int)) (s k a f : Int) : Hp := ⟨mkT [(q 1, .cells (.slc (q 2) 0 ml.length none 4 :: hd7 s)), (q 2, .gh 1 ml 0), (q 3, .cells [.int .u8 k, .int .i64 a, .int .i64 f])], q 4⟩
def wl (ml : List (List Int)) (s k a f : Int) : List (Pos × AObj × AObj) := [(q 1, .cells (.slc (q 2) 0 ml.length none 4 :: hd7 s), .cells (.slc (q 2) 0 ml.length none 4 :: hd7 s)), (q 2, .gh 1 ml 0, .gh 1 ml 0), (q 3, .cells [.int .u8 k, .int .i64 a, .int .i64 f], .cells [.int .u8 k, .int .i64 a, .int .i64 f])]
def wl2 (ml : List (List Int)) (s : Int) : List (Pos × AObj × AObj) := [(q 1, .cells (.slc (q 2) 0 ml.length none 4 :: hd7 s), .cells (.slc (q 2) 0 ml.length none 4 :: hd7 s)), (q 2, .gh 1 ml 0, .gh 1 ml 0)]
theorem wl_rel (ml : List (List Int)) (s k a f : Int) : allRel (tabR (q 3) (q 100) [(q 3, q 3)]) (wl ml s k a f) := ⟨relR (by kernel_rfl), relG, relR (by kernel_rfl), trivial⟩
theorem wl2_rel (ml : List (List Int)) (s : Int) : allRel (tabR (q 3) (q 100) []) (wl2 ml s) := ⟨relR (by kernel_rfl), relG, trivial⟩
/-- how Word's loop ends -/
def wQ (ml : List (List Int)) (s k a f : Int) (e : Ex) (T : Tm) (H : Hp) : Prop :=
  (e = .normal ∧ T = mkT [] ∧ H = HR (some ml) s ∧ memGet ml k a f = 0) ∨ (e = .ret ∧ T = mkT [(q 5, .int .u64 (memGet ml k a f))] ∧ H = HR (some ml) s)
section
variable {p : PhT} {nt : Nat} {φ0 : Emb} {w0 : World} {ml : List (List Int)} {s k a f : Int}
abbrev wSem (p : PhT) (nt : Nat) (φ0 : Emb) (w0 : World) (ml : List (List Int)) (s : Int) (x : XC) (T : Tm) (H : Hp) (Q : Ex → Tm → Hp → Prop) : Prop := Go.Ev.Sem Tryz.prog names (Es p .lf).globals nt φ0 (HR (some ml) s) w0 x T H Q
def wL : XC := sub0 (sub0 (sub1 (sub0 (sub1 x67.body))))
theorem w_end (h0 : ∀ i : Pos, (q 3).toNat ≤ i.toNat → φ0 i = none) {i : Nat} (hi : ¬ i < ml.length) {Q : Ex → Tm → Hp → Prop} (hQ : Q (.exit 0) (mkT []) (HR (some ml) s)) : wSem p nt φ0 w0 ml s wL (wT i) (wH ml s k a f) Q :=
  Sem.view (E0_ok p) h0 (mk0_for .lf _) (ms := [q 13]) (N := 20) (n := 20) [bs false] (q 100) (q 3) [] [] (wl2 ml s) (e := .exit 0) (ob := [.av (.bool (ltI (.ofNat i) (.ofNat ml.length))) (.bool false)]) (by kernel_rfl)
    ⟨by show AV.bool _ = _; rw [ltI_nat, decide_eq_false hi], trivial⟩ (by kernel_rfl) (by kernel_rfl) (by kernel_rfl) (wl2_rel ml s) (by kernel_rfl) hQ
theorem w_found (h0 : ∀ i : Pos, (q 3).toNat ≤ i.toNat → φ0 i = none) {i : Nat} (hi : i < ml.length) (hm : isAt (ml.getD i []) k a f = true) {Q : Ex → Tm → Hp → Prop} (hQ : Q .ret (mkT [(q 5, .int .u64 (rowI (ml.getD i []) 3))]) (HR (some ml) s)) : wSem p nt φ0 w0 ml s wL (wT i) (wH ml s k a f) Q :=
  Sem.view (E0_ok p) h0 (mk0_for .lf _) (ms := [q 13, q 21, q 23, q 25, q 31, q 33]) (N := 20) (n := 20) [bs true, .idx i, .row i 0, .cmp true, .idx i, .row i 3] (q 100) (q 3) [] [(q 5, .int .u64 (rowI (ml.getD i []) 3))] (wl2 ml s) (e := .ret)
    (ob := [.lt i ml.length, .nat (0 + i * 4 + 3) (i * 4 + 3), .lt i ml.length, .av (.int .i64 (.ofNat i)) (.int .i64 (.ofNat i)), .cmp keyD (.agg [.int .u8 (rowI (ml.getD i []) 0), .int .i64 (rowI (ml.getD i []) 1), .int .i64 (rowI (ml.getD i []) 2)]) (keyA k a f) true, .lt i ml.length, .nat (0 + i * 4 + 0) (i * 4 + 0), .lt i ml.length, .av (.int .i64 (.ofNat i)) (.int .i64 (.ofNat i)), .av (.bool (ltI (.ofNat i) (.ofNat ml.length))) (.bool true)]) (by kernel_rfl)
    ⟨hi, by show _ = _; omega, hi, rfl, by show eqV _ _ _ = _; rw [eqV_row, hm], hi, by show _ = _; omega, hi, rfl, by show AV.bool _ = _; rw [ltI_nat, decide_eq_true hi], trivial⟩ (by kernel_rfl) (by kernel_rfl) (by kernel_rfl) (wl2_rel ml s) (by kernel_rfl) hQ
theorem w_next (h0 : ∀ i : Pos, (q 3).toNat ≤ i.toNat → φ0 i = none) {i : Nat} (hb : i < 4000000000) (hi : i < ml.length) (hm : isAt (ml.getD i []) k a f = false) {Q : Ex → Tm → Hp → Prop} (hQ : Q .normal (wT (i + 1)) (wH ml s k a f)) : wSem p nt φ0 w0 ml s wL (wT i) (wH ml s k a f) Q :=
  Sem.view (E0_ok p) h0 (mk0_for .lf _) (ms := [q 13, q 21, q 23, q 25, q 15]) (N := 20) (n := 20) [bs true, .idx i, .row i 0, .cmp false, .val (.int .i64 (.ofNat (i + 1)))] (q 100) (q 4) [(q 3, q 3)] [(q 1, .ptr (q 1) 0), (q 4, .ptr (q 3) 0), (q 6, .int .i64 (.ofNat (i + 1)))] (wl ml s k a f) (e := .normal)
    (ob := [.av (.int .i64 (wrapF .i64 (.ofNat i + 1))) (.int .i64 (.ofNat (i + 1))), .cmp keyD (.agg [.int .u8 (rowI (ml.getD i []) 0), .int .i64 (rowI (ml.getD i []) 1), .int .i64 (rowI (ml.getD i []) 2)]) (keyA k a f) false, .lt i ml.length, .nat (0 + i * 4 + 0) (i * 4 + 0), .lt i ml.length, .av (.int .i64 (.ofNat i)) (.int .i64 (.ofNat i)), .av (.bool (ltI (.ofNat i) (.ofNat ml.length))) (.bool true)]) (by kernel_rfl)
    ⟨by show AV.int _ _ = AV.int _ _; rw [wrap_succ (by omega)], by show eqV _ _ _ = _; rw [eqV_row, hm], hi, by show _ = _; omega, hi, rfl, by show AV.bool _ = _; rw [ltI_nat, decide_eq_true hi], trivial⟩ (by kernel_rfl) (by kernel_rfl) (by kernel_rfl) (wl_rel ml s k a f) (by kernel_rfl) hQ
theorem w_loop (hlen : ml.length < 4000000000) (h0 : ∀ i : Pos, (q 3).toNat ≤ i.toNat → φ0 i = none) : wSem p nt φ0 w0 ml s (.loop wL) (wT 0) (wH ml s k a f) (fun e T H => wQ ml s k a f (blkX 0 e) T H) := by
  refine Sem.loop (fun n T H => ∃ i, n + i = ml.length ∧ T = wT i ∧ H = wH ml s k a f ∧ ∀ j, j < i → isAt (ml.getD j []) k a f = false) ?_ ml.length _ _ ⟨0, rfl, rfl, rfl, fun j hj => absurd hj (Nat.not_lt_zero j)⟩
  rintro n T H ⟨i, hn, rfl, rfl, hno⟩
  by_cases hi : i < ml.length
  · cases hm : isAt (ml.getD i []) k a f with
    | true => exact w_found h0 hi hm (.inr ⟨by simp, .inr ⟨rfl, by rw [memGet_at hno hi hm], rfl⟩⟩)
    | false =>
      refine w_next h0 (by omega) hi hm (.inl ⟨rfl, n - 1, by omega, i + 1, by omega, rfl, rfl, fun j hj => ?_⟩)
      by_cases e : j = i
      · subst e; exact hm
      · exact hno j (by omega)
  · exact w_end h0 hi (.inr ⟨by simp, .inl ⟨rfl, rfl, rfl, memGet_all fun j hj => hno j (by omega)⟩⟩)
end
theorem word_some (p : PhT) {ml : List (List Int)} (hlen : ml.length < 4000000000) (s k a f : Int) : Tri Tryz.prog (Es p .lf).globals (q 68) [.ptr (q 1) 0, keyA k a f] (HR (some ml) s) (.int .u64 (memGet ml k a f)) (HR (some ml) s) := by
  refine Sem.call (E0_ok p) (x := x67) (by kernel_rfl) fun nt φ0 w0 h0 => ?_
  refine Sem.seq (a := sub0 x67.body) (b := sub1 x67.body) (M := fun e T H => e = .normal ∧ T = mkT [(q 1, .ptr (q 1) 0), (q 4, .ptr (q 3) 0)] ∧ H = wH ml s k a f) ?_ ?_ ?_
  · exact Sem.view (E0_ok p) h0 (mk0_for .lf _) (ms := []) (N := 20) (n := 20) [] (q 100) (q 4) [(q 3, q 3)] [(q 1, .ptr (q 1) 0), (q 4, .ptr (q 3) 0)] (wl ml s k a f) (e := .normal) (ob := []) (by kernel_rfl) trivial (by kernel_rfl) (by kernel_rfl) (by kernel_rfl) (wl_rel ml s k a f) (by kernel_rfl) ⟨rfl, rfl, rfl⟩
  · rintro T H ⟨_, rfl, rfl⟩
    refine Sem.seq (a := sub0 (sub1 x67.body)) (b := sub1 (sub1 x67.body)) (M := wQ ml s k a f) ?_ ?_ ?_
    · refine Sem.seq (a := sub0 (sub0 (sub1 x67.body))) (b := sub1 (sub0 (sub1 x67.body))) (M := fun e T H => e = .normal ∧ T = wT 0 ∧ H = wH ml s k a f) ?_ ?_ ?_
      · exact Sem.view (E0_ok p) h0 (mk0_for .lf _) (ms := []) (N := 20) (n := 20) [] (q 100) (q 4) [(q 3, q 3)] [(q 1, .ptr (q 1) 0), (q 4, .ptr (q 3) 0), (q 6, .int .i64 (.ofNat 0))] (wl ml s k a f) (e := .normal) (ob := []) (by kernel_rfl) trivial (by kernel_rfl) (by kernel_rfl) (by kernel_rfl) (wl_rel ml s k a f) (by kernel_rfl) ⟨rfl, rfl, rfl⟩
      · rintro T H ⟨_, rfl, rfl⟩
        exact Sem.block (id := 0) (b := .loop wL) (w_loop hlen h0)
      · rintro e T H hne ⟨rfl, _⟩; exact absurd rfl hne
    · rintro T H (⟨_, rfl, rfl, hz⟩ | ⟨h, _⟩)
      · rw [hz]
        exact Sem.view (E0_ok p) h0 (mk0_for .lf _) (ms := []) (N := 20) (n := 20) [] (q 100) (q 3) [] [(q 5, .int .u64 0)] (wl2 ml s) (e := .ret) (ob := []) (by kernel_rfl) trivial (by kernel_rfl) (by kernel_rfl) (by kernel_rfl) (wl2_rel ml s) (by kernel_rfl) ⟨fun id h => (by cases h), rfl, _, rfl, rfl⟩
      · cases h
    · rintro e T H hne (⟨h, _⟩ | ⟨rfl, rfl, rfl⟩)
      · exact absurd h hne
      · exact ⟨fun id h => (by cases h), rfl, _, rfl, rfl⟩
  · rintro e T H hne ⟨rfl, _⟩; exact absurd rfl hne
end Go.Proofs.YtipkbcnibhnjdabGreatDoor
