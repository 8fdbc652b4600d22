/-
QueuesVoid: what its run calls.
-/
import Derived.Test.YtipkbcnibhnjdabGreatDoorQvMg
import Derived.Test.YtipkbcnibhnjdabGreatDoorQvN0
import Derived.Test.YtipkbcnibhnjdabGreatDoorQvN1
import Derived.Test.YtipkbcnibhnjdabGreatDoorEvG
set_option linter.unusedVariables false
set_option linter.unusedSimpArgs false
namespace Go.Proofs.YtipkbcnibhnjdabGreatDoor
open Go Go.Ev
set_option maxRecDepth 1000000

theorem noq_run (p : PhT) (x : Int) : ∃ H', callN (E1 p.cells (bitM p.m0 1)) 2000 (q 20) [.int .u64 x] ⟨.lf, .h⟩ = some (.bool true, H') := by
  cases bitM p.m0 1 with
  | false => exact noq0 p.cells x
  | true => exact noq1 p.cells x
noncomputable def fNoq : SumF := fun args H => match args with
  | [.int .u64 _] => some (.bool true, H)
  | _ => none
theorem fNoq_ok (p : PhT) : SumQ Tryz.prog (Es p .lf).globals (q 20) fNoq := SumQ.of fun args H v H' h => by
  unfold fNoq at h
  split at h
  · rename_i x
    cases h
    obtain ⟨H1, h1⟩ := noq_run p x
    obtain ⟨hen, hc⟩ := flat_sum (E1_ok p) h1 rfl
    exact ⟨hen, fun φ w argsV hr hargs => hc φ H w argsV hr (AV.flats_any rfl hargs)⟩
  · cases h
noncomputable def s5' : Tr SumF := Tr.put (Tr.put (Tr.put (Tr.put (Tr.put .lf (q 56) (some fLoad)) (q 44) (some fStore)) (q 186) (some fAs)) (q 5) (some fLives)) (q 20) (some fNoq)
noncomputable def s6 (p : PhT) : Tr SumF := Tr.put (Tr.put s5' (q 6) (some (realOf cBegin))) (q 187) (some (realOf (cMode p)))
noncomputable def c6 (p : PhT) : Tr CSum := Tr.put (Tr.put .lf (q 6) (some cBegin)) (q 187) (some (cMode p))
theorem s6_ok (p : PhT) : Tr.All (SumQ Tryz.prog (Es p .lf).globals) (s6 p) := all_put (all_put (all_put (all_put (all_put (all_put (all_put all_lf (fLoad_ok p)) (fStore_ok p)) (fAs_ok p)) (fLives_ok p)) (fNoq_ok p)) (cBegin_ok p)) (cMode_ok p)
theorem c6_for (p : PhT) (t : Tr (List Pos)) : (⟨t, c6 p⟩ : Mk).For (Es p (s6 p)) := fun f C h => for_put (for_put (for_lf (s := s5')) (q 6) cBegin) (q 187) (cMode p) f C h
noncomputable def t6 : Tr (List Pos) := Tr.put (Tr.put .lf (q 4) (some [q 26, q 183])) (q 146) (some [q 12])
/-- the phase's word, as the thread that enters loads it -/
def wrd (m : List (List Int)) : Int := memGet (putM m 8 2 1 1) 3 0 0
def mode (p : PhT) (m : List (List Int)) : Int := modeX (p.m (phN (wrd m))) (wrapF .u8 (fldW (wrd m) 3 7)) (wrapF .u8 (fldW (wrd m) 6 7))
def byB (p : PhT) (m : List (List Int)) (c : Nat) : Bool := !(eqI (wrapF .u8 (.ofNat (Nat.land (modI 256 (mode p m)) c))) 0)
def stp (s : Int) : Nat → Int
  | 0 => s
  | k + 1 => wrapF .i64 (stp s k + 1)
theorem eqI_self (x : Int) : eqI x x = true := eqI_iff.2 rfl
theorem v_long (p : PhT) (rows : List (List Int)) (hlen : ltI 300 (.ofNat rows.length) = true) (key : Int) : ∃ H', callN (Es p (s6 p)) 80 (q 4) [.slc (q 1) 0 rows.length none 4, .int .u64 key] (bH0 rows) = some (.bool true, H') := by
  obtain ⟨H', e, _⟩ := seen (c6_for p t6) (n := 80) (f := q 4) (args := [.slc (q 1) 0 rows.length none 4, .int .u64 key]) (H := bH0 rows) [bs true] (hs := []) (v := .bool true) (ob := [.av (.bool (ltI 300 (.ofNat rows.length))) (.bool true)]) (os := []) (by kernel_rfl) ⟨by show AV.bool _ = _; rw [hlen], trivial⟩
  exact ⟨H', e⟩
theorem v1_00 (p : PhT) (rows : List (List Int)) (hlen : ltI 300 (.ofNat rows.length) = false) (h300 : rows.length ≤ 300) (key : Int) (h1 : byB p (bM rows rows.length) 1 = false) (h2 : byB p (bM rows rows.length) 4 = false) : ∃ H', callN (Es p (s6 p)) 80 (q 4) [.slc (q 1) 0 rows.length none 4, .int .u64 key] (bH0 rows) = some (.bool true, H') := by
  obtain ⟨H', e, _⟩ := seen (c6_for p t6) (n := 80) (f := q 4) (args := [.slc (q 1) 0 rows.length none 4, .int .u64 key]) (H := bH0 rows) [bs false, bs false, bs false, bs true] (hs := []) (v := .bool true) (ob := [.av (.bool (eqI (stp (.ofNat rows.length) 3) (stp (.ofNat rows.length) 3))) (.bool true), .av (.bool (byB p (bM rows rows.length) 4)) (.bool false), .av (.bool (byB p (bM rows rows.length) 1)) (.bool false), .lt (phN (wrd (bM rows rows.length))) 4, .nat rows.length rows.length, .le rows.length 300, .av (.bool (ltI 300 (.ofNat rows.length))) (.bool false)]) (os := []) (by kernel_rfl) ⟨by show AV.bool _ = _; rw [eqI_self], by show AV.bool _ = _; rw [h2], by show AV.bool _ = _; rw [h1], phN_lt _, rfl, h300, by show AV.bool _ = _; rw [hlen], trivial⟩
  exact ⟨H', e⟩
theorem v1_01 (p : PhT) (rows : List (List Int)) (hlen : ltI 300 (.ofNat rows.length) = false) (h300 : rows.length ≤ 300) (key : Int) (h1 : byB p (bM rows rows.length) 1 = false) (h2 : byB p (bM rows rows.length) 4 = true) : ∃ H', callN (Es p (s6 p)) 80 (q 4) [.slc (q 1) 0 rows.length none 4, .int .u64 key] (bH0 rows) = some (.bool true, H') := by
  obtain ⟨H', e, _⟩ := seen (c6_for p t6) (n := 80) (f := q 4) (args := [.slc (q 1) 0 rows.length none 4, .int .u64 key]) (H := bH0 rows) [bs false, bs false, bs true, bs true] (hs := []) (v := .bool true) (ob := [.av (.bool (eqI (stp (.ofNat rows.length) 6) (stp (.ofNat rows.length) 6))) (.bool true), .av (.bool (byB p (bM rows rows.length) 4)) (.bool true), .av (.bool (byB p (bM rows rows.length) 1)) (.bool false), .lt (phN (wrd (bM rows rows.length))) 4, .nat rows.length rows.length, .le rows.length 300, .av (.bool (ltI 300 (.ofNat rows.length))) (.bool false)]) (os := []) (by kernel_rfl) ⟨by show AV.bool _ = _; rw [eqI_self], by show AV.bool _ = _; rw [h2], by show AV.bool _ = _; rw [h1], phN_lt _, rfl, h300, by show AV.bool _ = _; rw [hlen], trivial⟩
  exact ⟨H', e⟩
theorem v1_10 (p : PhT) (rows : List (List Int)) (hlen : ltI 300 (.ofNat rows.length) = false) (h300 : rows.length ≤ 300) (key : Int) (h1 : byB p (bM rows rows.length) 1 = true) (h2 : byB p (bM rows rows.length) 4 = false) : ∃ H', callN (Es p (s6 p)) 80 (q 4) [.slc (q 1) 0 rows.length none 4, .int .u64 key] (bH0 rows) = some (.bool true, H') := by
  obtain ⟨H', e, _⟩ := seen (c6_for p t6) (n := 80) (f := q 4) (args := [.slc (q 1) 0 rows.length none 4, .int .u64 key]) (H := bH0 rows) [bs false, bs true, bs false, bs true] (hs := []) (v := .bool true) (ob := [.av (.bool (eqI (stp (.ofNat rows.length) 5) (stp (.ofNat rows.length) 5))) (.bool true), .av (.bool (byB p (bM rows rows.length) 4)) (.bool false), .av (.bool (byB p (bM rows rows.length) 1)) (.bool true), .lt (phN (wrd (bM rows rows.length))) 4, .nat rows.length rows.length, .le rows.length 300, .av (.bool (ltI 300 (.ofNat rows.length))) (.bool false)]) (os := []) (by kernel_rfl) ⟨by show AV.bool _ = _; rw [eqI_self], by show AV.bool _ = _; rw [h2], by show AV.bool _ = _; rw [h1], phN_lt _, rfl, h300, by show AV.bool _ = _; rw [hlen], trivial⟩
  exact ⟨H', e⟩
theorem v1_11 (p : PhT) (rows : List (List Int)) (hlen : ltI 300 (.ofNat rows.length) = false) (h300 : rows.length ≤ 300) (key : Int) (h1 : byB p (bM rows rows.length) 1 = true) (h2 : byB p (bM rows rows.length) 4 = true) : ∃ H', callN (Es p (s6 p)) 80 (q 4) [.slc (q 1) 0 rows.length none 4, .int .u64 key] (bH0 rows) = some (.bool true, H') := by
  obtain ⟨H', e, _⟩ := seen (c6_for p t6) (n := 80) (f := q 4) (args := [.slc (q 1) 0 rows.length none 4, .int .u64 key]) (H := bH0 rows) [bs false, bs true, bs true, bs true] (hs := []) (v := .bool true) (ob := [.av (.bool (eqI (stp (.ofNat rows.length) 8) (stp (.ofNat rows.length) 8))) (.bool true), .av (.bool (byB p (bM rows rows.length) 4)) (.bool true), .av (.bool (byB p (bM rows rows.length) 1)) (.bool true), .lt (phN (wrd (bM rows rows.length))) 4, .nat rows.length rows.length, .le rows.length 300, .av (.bool (ltI 300 (.ofNat rows.length))) (.bool false)]) (os := []) (by kernel_rfl) ⟨by show AV.bool _ = _; rw [eqI_self], by show AV.bool _ = _; rw [h2], by show AV.bool _ = _; rw [h1], phN_lt _, rfl, h300, by show AV.bool _ = _; rw [hlen], trivial⟩
  exact ⟨H', e⟩
theorem v0_00 (p : PhT) (key : Int) (h1 : byB p [] 1 = false) (h2 : byB p [] 4 = false) : ∃ H', callN (Es p (s6 p)) 80 (q 4) [.nils, .int .u64 key] (⟨.lf, .h⟩) = some (.bool true, H') := by
  obtain ⟨H', e, _⟩ := seen (c6_for p t6) (n := 80) (f := q 4) (args := [.nils, .int .u64 key]) (H := ⟨.lf, .h⟩) [bs false, bs false, bs false, bs true] (hs := []) (v := .bool true) (ob := [.av (.bool (eqI (stp 0 3) (stp 0 3))) (.bool true), .av (.bool (byB p [] 4)) (.bool false), .av (.bool (byB p [] 1)) (.bool false), .lt (phN (wrd [])) 4, .av (.bool (ltI 300 0)) (.bool false)]) (os := []) (by kernel_rfl) ⟨by show AV.bool _ = _; rw [eqI_self], by show AV.bool _ = _; rw [h2], by show AV.bool _ = _; rw [h1], phN_lt _, rfl, trivial⟩
  exact ⟨H', e⟩
theorem v0_01 (p : PhT) (key : Int) (h1 : byB p [] 1 = false) (h2 : byB p [] 4 = true) : ∃ H', callN (Es p (s6 p)) 80 (q 4) [.nils, .int .u64 key] (⟨.lf, .h⟩) = some (.bool true, H') := by
  obtain ⟨H', e, _⟩ := seen (c6_for p t6) (n := 80) (f := q 4) (args := [.nils, .int .u64 key]) (H := ⟨.lf, .h⟩) [bs false, bs false, bs true, bs true] (hs := []) (v := .bool true) (ob := [.av (.bool (eqI (stp 0 6) (stp 0 6))) (.bool true), .av (.bool (byB p [] 4)) (.bool true), .av (.bool (byB p [] 1)) (.bool false), .lt (phN (wrd [])) 4, .av (.bool (ltI 300 0)) (.bool false)]) (os := []) (by kernel_rfl) ⟨by show AV.bool _ = _; rw [eqI_self], by show AV.bool _ = _; rw [h2], by show AV.bool _ = _; rw [h1], phN_lt _, rfl, trivial⟩
  exact ⟨H', e⟩
theorem v0_10 (p : PhT) (key : Int) (h1 : byB p [] 1 = true) (h2 : byB p [] 4 = false) : ∃ H', callN (Es p (s6 p)) 80 (q 4) [.nils, .int .u64 key] (⟨.lf, .h⟩) = some (.bool true, H') := by
  obtain ⟨H', e, _⟩ := seen (c6_for p t6) (n := 80) (f := q 4) (args := [.nils, .int .u64 key]) (H := ⟨.lf, .h⟩) [bs false, bs true, bs false, bs true] (hs := []) (v := .bool true) (ob := [.av (.bool (eqI (stp 0 5) (stp 0 5))) (.bool true), .av (.bool (byB p [] 4)) (.bool false), .av (.bool (byB p [] 1)) (.bool true), .lt (phN (wrd [])) 4, .av (.bool (ltI 300 0)) (.bool false)]) (os := []) (by kernel_rfl) ⟨by show AV.bool _ = _; rw [eqI_self], by show AV.bool _ = _; rw [h2], by show AV.bool _ = _; rw [h1], phN_lt _, rfl, trivial⟩
  exact ⟨H', e⟩
theorem v0_11 (p : PhT) (key : Int) (h1 : byB p [] 1 = true) (h2 : byB p [] 4 = true) : ∃ H', callN (Es p (s6 p)) 80 (q 4) [.nils, .int .u64 key] (⟨.lf, .h⟩) = some (.bool true, H') := by
  obtain ⟨H', e, _⟩ := seen (c6_for p t6) (n := 80) (f := q 4) (args := [.nils, .int .u64 key]) (H := ⟨.lf, .h⟩) [bs false, bs true, bs true, bs true] (hs := []) (v := .bool true) (ob := [.av (.bool (eqI (stp 0 8) (stp 0 8))) (.bool true), .av (.bool (byB p [] 4)) (.bool true), .av (.bool (byB p [] 1)) (.bool true), .lt (phN (wrd [])) 4, .av (.bool (ltI 300 0)) (.bool false)]) (os := []) (by kernel_rfl) ⟨by show AV.bool _ = _; rw [eqI_self], by show AV.bool _ = _; rw [h2], by show AV.bool _ = _; rw [h1], phN_lt _, rfl, trivial⟩
  exact ⟨H', e⟩
theorem law_rows (p : PhT) (rows : List (List Int)) (key : Int) : ∃ H', callN (Es p (s6 p)) 80 (q 4) [.slc (q 1) 0 rows.length none 4, .int .u64 key] (bH0 rows) = some (.bool true, H') := by
  cases hlen : ltI 300 (.ofNat rows.length) with
  | true => exact v_long p rows hlen key
  | false =>
    have h300 : rows.length ≤ 300 := by
      have e : ltI (.ofNat 300) (.ofNat rows.length) = decide (300 < rows.length) := ltI_nat _ _
      have h2 : decide (300 < rows.length) = false := e ▸ hlen
      have := of_decide_eq_false h2
      omega
    cases h1 : byB p (bM rows rows.length) 1 <;> cases h2 : byB p (bM rows rows.length) 4
    · exact v1_00 p rows hlen h300 key h1 h2
    · exact v1_01 p rows hlen h300 key h1 h2
    · exact v1_10 p rows hlen h300 key h1 h2
    · exact v1_11 p rows hlen h300 key h1 h2
theorem law_nil (p : PhT) (key : Int) : ∃ H', callN (Es p (s6 p)) 80 (q 4) [.nils, .int .u64 key] (⟨.lf, .h⟩) = some (.bool true, H') := by
  cases h1 : byB p [] 1 <;> cases h2 : byB p [] 4
  · exact v0_00 p key h1 h2
  · exact v0_01 p key h1 h2
  · exact v0_10 p key h1 h2
  · exact v0_11 p key h1 h2
theorem get_ro {rows : List (List Int)} {i : Pos} {o : AObj} (h : (bH0 rows).t.get i = some o) : i = q 1 ∧ o = .ro rows 0 := by
  have := mkT_get (l := [(q 1, AObj.ro rows 0)]) h
  simp only [List.mem_cons, List.not_mem_nil, or_false, Prod.mk.injEq] at this
  exact this
def PostV (W : World) (e : Ending) (W' : World) : Prop := e = .returned (.bool true) ∧ W.heap.size ≤ W'.heap.size ∧ (∀ b, b < W.heap.size → W'.heap[b]? = W.heap[b]?) ∧ W'.os = W.os ∧ W'.tape = W.tape ∧ W'.output = W.output
theorem calls_rows (p : PhT) (rows : List (List Int)) (key : Int) {φ : Emb} {W : World} {v : Value} (hr : Rep Tryz.prog [(0, h0), (1, g0), (2, p.cells)] φ (bH0 rows) W) (hv : VR φ (.slc (q 1) 0 rows.length none 4) v) : Calls Tryz.prog 3 #[v, .int .u64 key] W (PostV W) := by
  obtain ⟨H', h⟩ := law_rows p rows key
  obtain ⟨_, hc⟩ := callN_good (Es_ok p (s6_ok p)) _ _ _ _ _ _ h
  have := hc φ W [v, .int .u64 key] hr ⟨_, _, rfl, hv, _, _, rfl, rfl, rfl⟩
  refine Calls.mono (R := CPost Tryz.prog [(0, h0), (1, g0), (2, p.cells)] φ (bH0 rows) W (.bool true) H') this fun e W' hp => ?_
  obtain ⟨u, φ', he, hu, _, hx⟩ := hp
  have hu : u = .bool true := hu
  subst hu
  exact ⟨he, hx.size, fun b hb => hx.frame b hb fun j o s n hj _ => by obtain ⟨_, rfl⟩ := get_ro hj; rfl, hx.os, hx.tape, hx.output⟩
theorem calls_nil (p : PhT) (key : Int) {W : World} (hr : Rep Tryz.prog [(0, h0), (1, g0), (2, p.cells)] (fun _ => none) ⟨.lf, .h⟩ W) : Calls Tryz.prog 3 #[.slice none 0 0, .int .u64 key] W (PostV W) := by
  obtain ⟨H', h⟩ := law_nil p key
  obtain ⟨_, hc⟩ := callN_good (Es_ok p (s6_ok p)) _ _ _ _ _ _ h
  have := hc (fun _ => none) W [.slice none 0 0, .int .u64 key] hr ⟨_, _, rfl, rfl, _, _, rfl, rfl, rfl⟩
  refine Calls.mono (R := CPost Tryz.prog [(0, h0), (1, g0), (2, p.cells)] (fun _ => none) ⟨.lf, .h⟩ W (.bool true) H') this fun e W' hp => ?_
  obtain ⟨u, φ', he, hu, _, hx⟩ := hp
  have hu : u = .bool true := hu
  subst hu
  exact ⟨he, hx.kept⟩
end Go.Proofs.YtipkbcnibhnjdabGreatDoor
