/-
MapsBucket of whatever key and number: true.
-/
import Derived.Test.YtodacahbeoekhaaGreatDoorMbU
namespace Go.Proofs.YtodacahbeoekhaaGreatDoor
open Go Go.Ev
set_option maxRecDepth 1000000
def Both (p : List AV) (b : Bool) (x : Int) (k c : Nat) : Prop := answer p b x k c = some (.bool true, ⟨.lf, .h⟩) ∧ obBody (callT c) (E3 p b x k c) 60 x3.body (argsT [.int .u64 x, .int .i64 (.ofNat k)] .h .lf) ⟨.lf, .h⟩ = obs x k
theorem at11 (p : List AV) (b : Bool) (x : Int) : Both p b x 1 1 := ⟨by kernel_rfl, by kernel_rfl⟩
theorem at21 (p : List AV) (b : Bool) (x : Int) : Both p b x 2 1 := ⟨by kernel_rfl, by kernel_rfl⟩
theorem at22 (p : List AV) (b : Bool) (x : Int) : Both p b x 2 2 := ⟨by kernel_rfl, by kernel_rfl⟩
theorem at31 (p : List AV) (b : Bool) (x : Int) : Both p b x 3 1 := ⟨by kernel_rfl, by kernel_rfl⟩
theorem at32 (p : List AV) (b : Bool) (x : Int) : Both p b x 3 2 := ⟨by kernel_rfl, by kernel_rfl⟩
theorem at33 (p : List AV) (b : Bool) (x : Int) : Both p b x 3 3 := ⟨by kernel_rfl, by kernel_rfl⟩
theorem at41 (p : List AV) (b : Bool) (x : Int) : Both p b x 4 1 := ⟨by kernel_rfl, by kernel_rfl⟩
theorem at42 (p : List AV) (b : Bool) (x : Int) : Both p b x 4 2 := ⟨by kernel_rfl, by kernel_rfl⟩
theorem at43 (p : List AV) (b : Bool) (x : Int) : Both p b x 4 3 := ⟨by kernel_rfl, by kernel_rfl⟩
theorem at44 (p : List AV) (b : Bool) (x : Int) : Both p b x 4 4 := ⟨by kernel_rfl, by kernel_rfl⟩
theorem at51 (p : List AV) (b : Bool) (x : Int) : Both p b x 5 1 := ⟨by kernel_rfl, by kernel_rfl⟩
theorem at52 (p : List AV) (b : Bool) (x : Int) : Both p b x 5 2 := ⟨by kernel_rfl, by kernel_rfl⟩
theorem at53 (p : List AV) (b : Bool) (x : Int) : Both p b x 5 3 := ⟨by kernel_rfl, by kernel_rfl⟩
theorem at54 (p : List AV) (b : Bool) (x : Int) : Both p b x 5 4 := ⟨by kernel_rfl, by kernel_rfl⟩
theorem at55 (p : List AV) (b : Bool) (x : Int) : Both p b x 5 5 := ⟨by kernel_rfl, by kernel_rfl⟩
theorem at61 (p : List AV) (b : Bool) (x : Int) : Both p b x 6 1 := ⟨by kernel_rfl, by kernel_rfl⟩
theorem at62 (p : List AV) (b : Bool) (x : Int) : Both p b x 6 2 := ⟨by kernel_rfl, by kernel_rfl⟩
theorem at63 (p : List AV) (b : Bool) (x : Int) : Both p b x 6 3 := ⟨by kernel_rfl, by kernel_rfl⟩
theorem at64 (p : List AV) (b : Bool) (x : Int) : Both p b x 6 4 := ⟨by kernel_rfl, by kernel_rfl⟩
theorem at65 (p : List AV) (b : Bool) (x : Int) : Both p b x 6 5 := ⟨by kernel_rfl, by kernel_rfl⟩
theorem at66 (p : List AV) (b : Bool) (x : Int) : Both p b x 6 6 := ⟨by kernel_rfl, by kernel_rfl⟩
theorem at71 (p : List AV) (b : Bool) (x : Int) : Both p b x 7 1 := ⟨by kernel_rfl, by kernel_rfl⟩
theorem at72 (p : List AV) (b : Bool) (x : Int) : Both p b x 7 2 := ⟨by kernel_rfl, by kernel_rfl⟩
theorem at73 (p : List AV) (b : Bool) (x : Int) : Both p b x 7 3 := ⟨by kernel_rfl, by kernel_rfl⟩
theorem at74 (p : List AV) (b : Bool) (x : Int) : Both p b x 7 4 := ⟨by kernel_rfl, by kernel_rfl⟩
theorem at75 (p : List AV) (b : Bool) (x : Int) : Both p b x 7 5 := ⟨by kernel_rfl, by kernel_rfl⟩
theorem at76 (p : List AV) (b : Bool) (x : Int) : Both p b x 7 6 := ⟨by kernel_rfl, by kernel_rfl⟩
theorem at77 (p : List AV) (b : Bool) (x : Int) : Both p b x 7 7 := ⟨by kernel_rfl, by kernel_rfl⟩
theorem at81 (p : List AV) (b : Bool) (x : Int) : Both p b x 8 1 := ⟨by kernel_rfl, by kernel_rfl⟩
theorem at82 (p : List AV) (b : Bool) (x : Int) : Both p b x 8 2 := ⟨by kernel_rfl, by kernel_rfl⟩
theorem at83 (p : List AV) (b : Bool) (x : Int) : Both p b x 8 3 := ⟨by kernel_rfl, by kernel_rfl⟩
theorem at84 (p : List AV) (b : Bool) (x : Int) : Both p b x 8 4 := ⟨by kernel_rfl, by kernel_rfl⟩
theorem at85 (p : List AV) (b : Bool) (x : Int) : Both p b x 8 5 := ⟨by kernel_rfl, by kernel_rfl⟩
theorem at86 (p : List AV) (b : Bool) (x : Int) : Both p b x 8 6 := ⟨by kernel_rfl, by kernel_rfl⟩
theorem at87 (p : List AV) (b : Bool) (x : Int) : Both p b x 8 7 := ⟨by kernel_rfl, by kernel_rfl⟩
theorem at88 (p : List AV) (b : Bool) (x : Int) : Both p b x 8 8 := ⟨by kernel_rfl, by kernel_rfl⟩
theorem both (p : List AV) (b : Bool) (x : Int) : ∀ k c, 1 ≤ c → c ≤ k → k ≤ 8 → Both p b x k c := by
  intro k c h1 h2 h3
  have hk : k = 1 ∨ k = 2 ∨ k = 3 ∨ k = 4 ∨ k = 5 ∨ k = 6 ∨ k = 7 ∨ k = 8 := by omega
  rcases hk with rfl | rfl | rfl | rfl | rfl | rfl | rfl | rfl
  · have hc : c = 1 := by omega
    subst hc; exact at11 p b x
  · have hc : c = 1 ∨ c = 2 := by omega
    rcases hc with rfl | rfl
    · exact at21 p b x
    · exact at22 p b x
  · have hc : c = 1 ∨ c = 2 ∨ c = 3 := by omega
    rcases hc with rfl | rfl | rfl
    · exact at31 p b x
    · exact at32 p b x
    · exact at33 p b x
  · have hc : c = 1 ∨ c = 2 ∨ c = 3 ∨ c = 4 := by omega
    rcases hc with rfl | rfl | rfl | rfl
    · exact at41 p b x
    · exact at42 p b x
    · exact at43 p b x
    · exact at44 p b x
  · have hc : c = 1 ∨ c = 2 ∨ c = 3 ∨ c = 4 ∨ c = 5 := by omega
    rcases hc with rfl | rfl | rfl | rfl | rfl
    · exact at51 p b x
    · exact at52 p b x
    · exact at53 p b x
    · exact at54 p b x
    · exact at55 p b x
  · have hc : c = 1 ∨ c = 2 ∨ c = 3 ∨ c = 4 ∨ c = 5 ∨ c = 6 := by omega
    rcases hc with rfl | rfl | rfl | rfl | rfl | rfl
    · exact at61 p b x
    · exact at62 p b x
    · exact at63 p b x
    · exact at64 p b x
    · exact at65 p b x
    · exact at66 p b x
  · have hc : c = 1 ∨ c = 2 ∨ c = 3 ∨ c = 4 ∨ c = 5 ∨ c = 6 ∨ c = 7 := by omega
    rcases hc with rfl | rfl | rfl | rfl | rfl | rfl | rfl
    · exact at71 p b x
    · exact at72 p b x
    · exact at73 p b x
    · exact at74 p b x
    · exact at75 p b x
    · exact at76 p b x
    · exact at77 p b x
  · have hc : c = 1 ∨ c = 2 ∨ c = 3 ∨ c = 4 ∨ c = 5 ∨ c = 6 ∨ c = 7 ∨ c = 8 := by omega
    rcases hc with rfl | rfl | rfl | rfl | rfl | rfl | rfl | rfl
    · exact at81 p b x
    · exact at82 p b x
    · exact at83 p b x
    · exact at84 p b x
    · exact at85 p b x
    · exact at86 p b x
    · exact at87 p b x
    · exact at88 p b x

/-- It is true: at whatever key and number. -/
theorem law_calls {m : Nat} (hm : m < 256) (w : Bool) (n : Int) (y : AV) (l : List AV) {W : World} (hr : Rep Tryz.prog [(0, g0), (1, ph m w n y l)] (fun _ => none) ⟨.lf, .h⟩ W) {x : Nat} (hx : x < 18446744073709551616) (k : Int) :
    Calls Tryz.prog 3 #[.int .u64 (.ofNat x), .int .i64 k] W fun e W' => e = .returned (.bool true) ∧ W.heap.size ≤ W'.heap.size ∧ (∀ b, b < W.heap.size → W'.heap[b]? = W.heap[b]?) ∧ W'.os = W.os ∧ W'.tape = W.tape ∧ W'.output = W.output := by
  have fin : ∀ (E : Env) (hE : EnvOK Tryz.prog names E), E.globals = [(0, g0), (1, ph m w n y l)] → ∀ N H', callN E N (q 4) [.int .u64 (.ofNat x), .int .i64 k] ⟨.lf, .h⟩ = some (.bool true, H') →
      Calls Tryz.prog 3 #[.int .u64 (.ofNat x), .int .i64 k] W fun e W' => e = .returned (.bool true) ∧ W.heap.size ≤ W'.heap.size ∧ (∀ b, b < W.heap.size → W'.heap[b]? = W.heap[b]?) ∧ W'.os = W.os ∧ W'.tape = W.tape ∧ W'.output = W.output := by
    intro E hE hG N H' h
    obtain ⟨_, hc⟩ := callN_good hE N (q 4) _ _ _ _ h
    rw [hG] at hc
    have := hc (fun _ => none) W [.int .u64 (.ofNat x), .int .i64 k] hr ⟨_, _, rfl, rfl, _, _, rfl, rfl, rfl⟩
    refine Calls.mono (R := CPost Tryz.prog [(0, g0), (1, ph m w n y l)] (fun _ => none) ⟨.lf, .h⟩ W (.bool true) H') this fun e W' hp => ?_
    obtain ⟨u, φ', he, hu, _, hx⟩ := hp
    have hu : u = .bool true := hu
    subst hu
    exact ⟨he, hx.kept⟩
  have far : ∀ (h : isTrue (run (ph m w n y l) (low m) (.ofNat x) k) = true), ∃ H', callN (E2 (ph m w n y l) (low m)) 100 (q 4) [.int .u64 (.ofNat x), .int .i64 k] ⟨.lf, .h⟩ = some (.bool true, H') := fun h => by
    rw [← F.callN_eq]
    exact isTrue_some h
  have hE2 := E2_ok hm w n y l
  cases k with
  | negSucc j =>
    obtain ⟨H', h⟩ := far (neg_true _ _ _ _)
    exact fin _ hE2 rfl _ _ h
  | ofNat j =>
    by_cases h0 : j = 0
    · subst h0
      obtain ⟨H', h⟩ := far (zero_true _ _ _)
      exact fin _ hE2 rfl _ _ h
    · by_cases h9 : 9 ≤ j
      · obtain ⟨i, rfl⟩ := Nat.le.dest h9
        rw [Nat.add_comm] at far ⊢
        rw [Nat.add_comm] at fin
        obtain ⟨H', h⟩ := far (many_true _ _ _ _)
        exact fin _ hE2 rfl _ _ h
      · have hlt : sumN x 8 % j < j := Nat.mod_lt _ (by omega)
        obtain ⟨h1, h2⟩ := both (ph m w n y l) (low m) (.ofNat x) j (sumN x 8 % j + 1) (by omega) (by omega) (by omega)
        exact fin _ (E3_ok hm w n y l hx (by omega) (by omega)) rfl _ _ (one_eight _ _ _ _ _ h1 h2)
end Go.Proofs.YtodacahbeoekhaaGreatDoor
