/-
Joined texts.
-/
import Derived.Test.YtipkbcnibhnjdabGreatDoorQvPgC
import Derived.Test.YtipkbcnibhnjdabGreatDoorEvMB
set_option linter.unusedVariables false
set_option linter.unusedSimpArgs false
/-
The memory's own functions: where an address may be.
-/
namespace Go.Proofs.YtipkbcnibhnjdabGreatDoor
open Go Go.Ev
set_option maxRecDepth 1000000

def g0 : List AV := [zu 0, zu 16, zu 16, zu 32, zu 16, zu 48, zu 0, zu 3, zu 3, zu 32, zu 0, zu 3, zu 3, zu 3, zu 6, zu 3, zu 16, zu 48, zu 0, zu 32, zu 32, zu 1]
def h0 : List AV := [z8 1, z8 0, z8 1, z64 0, z8 2, z8 1, z8 2, z64 0, z8 3, z8 2, z8 0, z64 1, z8 4, z8 1, z8 0, z64 1, z8 5, z8 1, z8 4, z64 2, z8 5, z8 2, z8 4, z64 2, z8 6, z8 0, z8 3, z64 0, z8 7, z8 3, z8 0, z64 0]
/-- the phases' rows: each one's mode, whether it waits, what comes next -/
structure PhT where
  m0 : Nat
  m1 : Nat
  m2 : Nat
  m3 : Nat
  w0 : Bool
  w1 : Bool
  w2 : Bool
  w3 : Bool
  n0 : Int
  n1 : Int
  n2 : Int
  n3 : Int
def PhT.cells (p : PhT) : List AV := [.int .u8 (.ofNat p.m0), .bool p.w0, .int .u8 p.n0, .int .u8 (.ofNat p.m1), .bool p.w1, .int .u8 p.n1, .int .u8 (.ofNat p.m2), .bool p.w2, .int .u8 p.n2, .int .u8 (.ofNat p.m3), .bool p.w3, .int .u8 p.n3]
abbrev SumF := List AV → Hp → Option (AV × Hp)
def Es (p : PhT) (s : Tr SumF) : Env := ⟨code, meths, [(0, h0), (1, g0), (2, p.cells)], s⟩
theorem E0_ok (p : PhT) : EnvOK Tryz.prog names (Es p .lf) := envOK_of mix meths_ok code_ok fun f F h => by
  exfalso
  have : (Es p .lf).sums.get f = none := Tr.get_lf f
  rw [this] at h
  cases h
theorem Es_ok (p : PhT) {s : Tr SumF} (h : Tr.All (SumQ Tryz.prog (Es p .lf).globals) s) : EnvOK Tryz.prog names (Es p s) := (E0_ok p).sum s h

/-- the value of a run -/
noncomputable def valOf (r : Option (AV × Hp)) : Option AV := match r with
  | some (v, _) => some v
  | none => none
theorem valOf_some {r : Option (AV × Hp)} {v : AV} (h : valOf r = some v) : ∃ H', r = some (v, H') := by
  unfold valOf at h
  split at h
  · cases h; exact ⟨_, rfl⟩
  · cases h
noncomputable def viewC (hs : List Pos) (r : Option (AV × Hp × Z)) : Option (AV × List Ob × List AV × List (Option AObj)) := match r with
  | some (v, H, z) => some (v, z.ob, z.rd.map (·.1), hs.map H.t.get)
  | none => none
/-- A run by a script, what is looked at of it. -/
theorem seen {E : Env} {mk : Mk} (hM : mk.For E) {n : Nat} {f : Pos} {args : List AV} {H : Hp} (sc : List Sc) {hs : List Pos} {v : AV} {ob : List Ob} {os : List (Option AObj)} (h : viewC hs (callS E mk n f args H ⟨sc, [], []⟩) = some (v, ob, againS (callS E mk n f args H ⟨sc, [], []⟩), os)) (ho : allOb ob) : ∃ H', callN E n f args H = some (v, H') ∧ hs.map H'.t.get = os := by
  cases hr : callS E mk n f args H ⟨sc, [], []⟩ with
  | none => rw [hr] at h; cases h
  | some x =>
    obtain ⟨v1, H1, z1⟩ := x
    rw [hr] at h
    simp only [viewC, againS, Option.some.injEq, Prod.mk.injEq] at h
    obtain ⟨rfl, h3, h4, h5⟩ := h
    exact ⟨H1, (callS_ok hM n _ _ _ _ _ _ _ hr ⟨h3 ▸ ho, allRd_of h4⟩).2, h5⟩
/-- a sum of values alone -/
theorem flatSum {p : PhT} {s : Tr SumF} (hs : Tr.All (SumQ Tryz.prog (Es p .lf).globals) s) {n : Nat} {f : Pos} {args : List AV} {v : AV} {H' : Hp} (h : callN (Es p s) n f args ⟨.lf, .h⟩ = some (v, H')) (ha : AV.flats args = true) (hv : AV.flat v = true) : ∀ H, Tri Tryz.prog (Es p .lf).globals f args H v H := fun H => by
  obtain ⟨hen, hc⟩ := flat_sum (Es_ok p hs) h hv
  exact ⟨hen, fun φ w argsV hr hargs => hc φ H w argsV hr (AV.flats_any ha hargs)⟩

def roomA (k : Int) : Int := match eqI k 6 with | true => 32 | false => match eqI k 7 with | true => 4 | false => match eqI k 8 with | true => 16 | false => match eqI k 9 with | true => 256 | false => match eqI k 10 with | true => 9 | false => match leI 0 k && leI k 11 with | true => 1 | false => 0
def roomF (k : Int) : Int := match eqI k 6 with | true => 2 | false => match eqI k 8 with | true => 10 | false => match eqI k 9 with | true => 8 | false => match eqI k 11 with | true => 2 | false => match leI 0 k && leI k 11 with | true => 1 | false => 0
def roomV (k : Int) : AV := .agg [.int .i64 (roomA k), .int .i64 (roomF k)]
noncomputable def roomMk : Tr (List Pos) := Tr.put .lf (q 109) (some [q 6, q 7, q 8, q 9, q 10, q 11, q 14, q 17, q 20, q 23, q 26, q 29])
def no : Sc := .val (.bool false)
theorem rooms_else {p : PhT} (k : Int) (h : ∀ c : Int, 0 ≤ c → c ≤ 11 → eqI k c = false) : ∃ H', callN (Es p .lf) 60 (q 109) [.int .u8 k] ⟨.lf, .h⟩ = some (.agg [.int .i64 0, .int .i64 0], H') := by
  obtain ⟨H', h1, _⟩ := seen (mk0_for roomMk _) (E := Es p .lf) (n := 60) (f := q 109) (args := [.int .u8 k]) (H := ⟨.lf, .h⟩) [no, no, no, no, no, no, no, no, no, no, no, no] (hs := [])
    (v := .agg [.int .i64 0, .int .i64 0]) (ob := [.av (.bool (eqI k 11)) (.bool false), .av (.bool (eqI k 10)) (.bool false), .av (.bool (eqI k 9)) (.bool false), .av (.bool (eqI k 8)) (.bool false), .av (.bool (eqI k 7)) (.bool false), .av (.bool (eqI k 6)) (.bool false), .av (.bool (eqI k 5)) (.bool false), .av (.bool (eqI k 4)) (.bool false), .av (.bool (eqI k 3)) (.bool false), .av (.bool (eqI k 2)) (.bool false), .av (.bool (eqI k 1)) (.bool false), .av (.bool (eqI k 0)) (.bool false)]) (os := []) (by kernel_rfl)
    (by refine ⟨?_, ?_, ?_, ?_, ?_, ?_, ?_, ?_, ?_, ?_, ?_, ?_, trivial⟩ <;> (show AV.bool _ = AV.bool _; rw [h _ (by decide) (by decide)]))
  exact ⟨H', h1⟩
theorem rooms_run (p : PhT) (k : Int) : ∃ H', callN (Es p .lf) 60 (q 109) [.int .u8 k] ⟨.lf, .h⟩ = some (roomV k, H') := by
  by_cases h : 0 ≤ k ∧ k ≤ 11
  · have hk : k = 0 ∨ k = 1 ∨ k = 2 ∨ k = 3 ∨ k = 4 ∨ k = 5 ∨ k = 6 ∨ k = 7 ∨ k = 8 ∨ k = 9 ∨ k = 10 ∨ k = 11 := by omega
    rcases hk with rfl | rfl | rfl | rfl | rfl | rfl | rfl | rfl | rfl | rfl | rfl | rfl <;> exact valOf_some (by kernel_rfl)
  · have hc : ∀ c : Int, 0 ≤ c → c ≤ 11 → eqI k c = false := fun c h1 h2 => by
      rw [Bool.eq_false_iff]; intro e; have := eqI_iff.1 e; omega
    have hl : (leI 0 k && leI k 11) = false := by
      rw [leI_eq, leI_eq]
      simp only [Bool.and_eq_false_iff, decide_eq_false_iff_not]
      omega
    have e1 : roomV k = .agg [.int .i64 0, .int .i64 0] := by
      simp only [roomV, roomA, roomF, hc 6 (by decide) (by decide), hc 7 (by decide) (by decide), hc 8 (by decide) (by decide), hc 9 (by decide) (by decide), hc 10 (by decide) (by decide), hc 11 (by decide) (by decide), hl]
    rw [e1]
    exact rooms_else k hc
noncomputable def fRooms : SumF := fun args H => match args with
  | [.int .u8 k] => some (roomV k, H)
  | _ => none
theorem fRooms_ok (p : PhT) : SumQ Tryz.prog (Es p .lf).globals (q 109) fRooms := SumQ.of fun args H v H' h => by
  unfold fRooms at h
  split at h
  · rename_i k
    cases h
    obtain ⟨H1, h1⟩ := rooms_run p k
    exact flatSum (s := .lf) all_lf h1 rfl rfl H
  · cases h

def mayB (k a f : Int) : Bool := match leI 0 a with | false => false | true => match ltI a (roomA k) with | false => false | true => match leI 0 f with | false => false | true => ltI f (roomF k)
noncomputable def s1 : Tr SumF := Tr.put .lf (q 109) (some fRooms)
theorem s1_ok (p : PhT) : Tr.All (SumQ Tryz.prog (Es p .lf).globals) s1 := all_put all_lf (fRooms_ok p)
noncomputable def mayMk : Tr (List Pos) := Tr.put .lf (q 89) (some [q 11, q 18, q 23])
def bs (b : Bool) : Sc := .val (.bool b)
theorem may_run (p : PhT) (k a f : Int) : ∃ H', callN (Es p s1) 60 (q 89) [keyA k a f] ⟨.lf, .h⟩ = some (.bool (mayB k a f), H') := by
  cases h1 : leI 0 a with
  | false =>
    obtain ⟨H', e, _⟩ := seen (mk0_for mayMk _) (E := Es p s1) (n := 60) (f := q 89) (args := [keyA k a f]) (H := ⟨.lf, .h⟩) [bs false, bs false, bs false] (hs := []) (v := .bool false) (ob := [.av (.bool false) (.bool false), .av (.bool false) (.bool false), .av (.bool (leI 0 a)) (.bool false)]) (os := []) (by kernel_rfl) ⟨rfl, rfl, by show AV.bool _ = _; rw [h1], trivial⟩
    exact ⟨H', by rw [e]; simp only [mayB, h1]⟩
  | true =>
    cases h2 : ltI a (roomA k) with
    | false =>
      obtain ⟨H', e, _⟩ := seen (mk0_for mayMk _) (E := Es p s1) (n := 60) (f := q 89) (args := [keyA k a f]) (H := ⟨.lf, .h⟩) [bs true, bs false, bs false] (hs := []) (v := .bool false) (ob := [.av (.bool false) (.bool false), .av (.bool (ltI a (roomA k))) (.bool false), .av (.bool (leI 0 a)) (.bool true)]) (os := []) (by kernel_rfl) ⟨rfl, by show AV.bool _ = _; rw [h2], by show AV.bool _ = _; rw [h1], trivial⟩
      exact ⟨H', by rw [e]; simp only [mayB, h1, h2]⟩
    | true =>
      cases h3 : leI 0 f with
      | false =>
        obtain ⟨H', e, _⟩ := seen (mk0_for mayMk _) (E := Es p s1) (n := 60) (f := q 89) (args := [keyA k a f]) (H := ⟨.lf, .h⟩) [bs true, bs true, bs false] (hs := []) (v := .bool false) (ob := [.av (.bool (leI 0 f)) (.bool false), .av (.bool (ltI a (roomA k))) (.bool true), .av (.bool (leI 0 a)) (.bool true)]) (os := []) (by kernel_rfl) ⟨by show AV.bool _ = _; rw [h3], by show AV.bool _ = _; rw [h2], by show AV.bool _ = _; rw [h1], trivial⟩
        exact ⟨H', by rw [e]; simp only [mayB, h1, h2, h3]⟩
      | true =>
        obtain ⟨H', e, _⟩ := seen (mk0_for mayMk _) (E := Es p s1) (n := 60) (f := q 89) (args := [keyA k a f]) (H := ⟨.lf, .h⟩) [bs true, bs true, bs true] (hs := []) (v := .bool (ltI f (roomF k))) (ob := [.av (.bool (leI 0 f)) (.bool true), .av (.bool (ltI a (roomA k))) (.bool true), .av (.bool (leI 0 a)) (.bool true)]) (os := []) (by kernel_rfl) ⟨by show AV.bool _ = _; rw [h3], by show AV.bool _ = _; rw [h2], by show AV.bool _ = _; rw [h1], trivial⟩
        exact ⟨H', by rw [e]; simp only [mayB, h1, h2, h3]⟩
noncomputable def fMay : SumF := fun args H => match args with
  | [.agg [.int .u8 k, .int .i64 a, .int .i64 f]] => some (.bool (mayB k a f), H)
  | _ => none
theorem fMay_ok (p : PhT) : SumQ Tryz.prog (Es p .lf).globals (q 89) fMay := SumQ.of fun args H v H' h => by
  unfold fMay at h
  split at h
  · rename_i k a f
    cases h
    obtain ⟨H1, h1⟩ := may_run p k a f
    exact flatSum (s1_ok p) h1 rfl rfl H
  · cases h
noncomputable def s2 : Tr SumF := Tr.put .lf (q 89) (some fMay)
theorem s2_ok (p : PhT) : Tr.All (SumQ Tryz.prog (Es p .lf).globals) s2 := all_put all_lf (fMay_ok p)
end Go.Proofs.YtipkbcnibhnjdabGreatDoor

/-
The memory's own functions: a load, a store.
-/
namespace Go.Proofs.YtipkbcnibhnjdabGreatDoor
open Go Go.Ev
set_option maxRecDepth 1000000

noncomputable def stepMk : Tr (List Pos) := Tr.put .lf (q 66) (some [q 29, q 12, q 47, q 60])
def hd7 (s : Int) : List AV := .int .i64 s :: any7
/-- what stands in a memory behind an access -/
def hdA (s : Int) (kd k a f was is : Int) (d : Bool) : List AV := [.int .i64 (wrapF .i64 (s + 1)), .int .u8 kd, .int .u8 k, .int .i64 a, .int .i64 f, .int .u64 was, .int .u64 is, .bool d]
theorem found_case (k a f : Int) (rs : List (List Int × Nat)) : (∃ fr, rowFind k a f rs 0 = fr ∧ findA keyD (keyA k a f) (rs.map memRow) 0 = some (foundA fr)) := ⟨_, rfl, findA_rows k a f rs 0⟩

theorem load_tri (p : PhT) (m : List (List Int)) (s k a f : Int) (c : Nat) (hen : Enter Tryz.prog (q 56)) : Tri Tryz.prog (Es p .lf).globals (q 56) [.ptr (q 1) 0, keyA k a f] (memH (hd7 s) (.gh 0 m c)) (.int .u64 (memGet m k a f)) (memH (hdA s 1 k a f (memGet m k a f) (memGet m k a f) false) (.gh 0 m c)) := by
  refine Tri.mem0 (Es_ok p (s2_ok p)) (n := 60) rfl rfl hen fun rs cl hrs hm => ?_
  have hf := findA_rows k a f rs 0
  cases hr : rowFind k a f rs 0 with
  | none =>
    rw [hr] at hf
    have h0 : memGet m k a f = 0 := by rw [← hm]; exact memGet_none (rowFind_none hr)
    rw [h0]
    obtain ⟨H1, e1, e2⟩ := seen (mk0_for stepMk _) (E := Es p s2) (n := 60) (f := q 56) (args := [.ptr (q 1) 0, keyA k a f]) (H := memH (hd7 s) (.mp (rs.map memRow) cl)) [.find none, bs false] (hs := [q 1, q 2]) (v := .int .u64 0)
      (ob := [.av (.bool false) (.bool false), .find keyD (keyA k a f) (rs.map memRow) none, .key keyD (keyA k a f)]) (os := [some (.cells (.map (q 2) :: hdA s 1 k a f 0 0 false)), some (.mp (rs.map memRow) cl)]) (by kernel_rfl) ⟨rfl, hf, keyOk_key k a f, trivial⟩
    simp only [List.map_cons, List.map_nil, List.cons.injEq, and_true] at e2
    exact ⟨H1, e1, e2.1, rs, cl, e2.2, hrs, hm⟩
  | some x =>
    obtain ⟨j, r, b⟩ := x
    rw [hr] at hf
    obtain ⟨n, _, _, _, h4⟩ := rowFind_some hr
    have h0 : memGet m k a f = rowI r 3 := by rw [← hm]; exact h4
    rw [h0]
    obtain ⟨H1, e1, e2⟩ := seen (mk0_for stepMk _) (E := Es p s2) (n := 60) (f := q 56) (args := [.ptr (q 1) 0, keyA k a f]) (H := memH (hd7 s) (.mp (rs.map memRow) cl)) [.find (some (j, memKey r, .int .u64 (rowI r 3), b)), bs false] (hs := [q 1, q 2]) (v := .int .u64 (rowI r 3))
      (ob := [.av (.bool false) (.bool false), .find keyD (keyA k a f) (rs.map memRow) (some (j, memKey r, .int .u64 (rowI r 3), b)), .key keyD (keyA k a f)]) (os := [some (.cells (.map (q 2) :: hdA s 1 k a f (rowI r 3) (rowI r 3) false)), some (.mp (rs.map memRow) cl)]) (by kernel_rfl) ⟨rfl, hf, keyOk_key k a f, trivial⟩
    simp only [List.map_cons, List.map_nil, List.cons.injEq, and_true] at e2
    exact ⟨H1, e1, e2.1, rs, cl, e2.2, hrs, hm⟩

/-- what a store makes of the words -/
def putM (m : List (List Int)) (k a f v : Int) : List (List Int) := match mayB k a f with | true => [k, a, f, v] :: m | false => m
def isM (m : List (List Int)) (k a f v : Int) : Int := match mayB k a f with | true => v | false => memGet m k a f
theorem store_tri (p : PhT) (m : List (List Int)) (s k a f v : Int) (c : Nat) (hen : Enter Tryz.prog (q 44)) : Tri Tryz.prog (Es p .lf).globals (q 44) [.ptr (q 1) 0, keyA k a f, .int .u64 v] (memH (hd7 s) (.gh 0 m c)) (.tup []) (memH (hdA s 2 k a f (memGet m k a f) (isM m k a f v) false) (.gh 0 (putM m k a f v) c)) := by
  refine Tri.mem0 (Es_ok p (s2_ok p)) (n := 60) rfl rfl hen fun rs cl hrs hm => ?_
  have hf := findA_rows k a f rs 0
  cases hmay : mayB k a f with
  | false =>
    have e3 : isM m k a f v = memGet m k a f := by simp only [isM, hmay]
    have e4 : putM m k a f v = m := by simp only [putM, hmay]
    rw [e3, e4]
    cases hr : rowFind k a f rs 0 with
    | none =>
      rw [hr] at hf
      have h0 : memGet m k a f = 0 := by rw [← hm]; exact memGet_none (rowFind_none hr)
      rw [h0]
      obtain ⟨H1, e1, e2⟩ := seen (mk0_for stepMk _) (E := Es p s2) (n := 60) (f := q 44) (args := [.ptr (q 1) 0, keyA k a f, .int .u64 v]) (H := memH (hd7 s) (.mp (rs.map memRow) cl)) [.find none, bs true, bs false] (hs := [q 1, q 2]) (v := .tup [])
        (ob := [.av (.bool (mayB k a f)) (.bool false), .av (.bool true) (.bool true), .find keyD (keyA k a f) (rs.map memRow) none, .key keyD (keyA k a f)]) (os := [some (.cells (.map (q 2) :: hdA s 2 k a f 0 0 false)), some (.mp (rs.map memRow) cl)]) (by kernel_rfl) ⟨by show AV.bool _ = _; rw [hmay], rfl, hf, keyOk_key k a f, trivial⟩
      simp only [List.map_cons, List.map_nil, List.cons.injEq, and_true] at e2
      exact ⟨H1, e1, e2.1, rs, cl, e2.2, hrs, hm⟩
    | some x =>
      obtain ⟨j, r, b⟩ := x
      rw [hr] at hf
      obtain ⟨n, _, _, _, h4⟩ := rowFind_some hr
      have h0 : memGet m k a f = rowI r 3 := by rw [← hm]; exact h4
      rw [h0]
      obtain ⟨H1, e1, e2⟩ := seen (mk0_for stepMk _) (E := Es p s2) (n := 60) (f := q 44) (args := [.ptr (q 1) 0, keyA k a f, .int .u64 v]) (H := memH (hd7 s) (.mp (rs.map memRow) cl)) [.find (some (j, memKey r, .int .u64 (rowI r 3), b)), bs true, bs false] (hs := [q 1, q 2]) (v := .tup [])
        (ob := [.av (.bool (mayB k a f)) (.bool false), .av (.bool true) (.bool true), .find keyD (keyA k a f) (rs.map memRow) (some (j, memKey r, .int .u64 (rowI r 3), b)), .key keyD (keyA k a f)]) (os := [some (.cells (.map (q 2) :: hdA s 2 k a f (rowI r 3) (rowI r 3) false)), some (.mp (rs.map memRow) cl)]) (by kernel_rfl) ⟨by show AV.bool _ = _; rw [hmay], rfl, hf, keyOk_key k a f, trivial⟩
      simp only [List.map_cons, List.map_nil, List.cons.injEq, and_true] at e2
      exact ⟨H1, e1, e2.1, rs, cl, e2.2, hrs, hm⟩
  | true =>
    have e3 : isM m k a f v = v := by simp only [isM, hmay]
    have e4 : putM m k a f v = [k, a, f, v] :: m := by simp only [putM, hmay]
    rw [e3, e4]
    cases hr : rowFind k a f rs 0 with
    | none =>
      rw [hr] at hf
      have h0 : memGet m k a f = 0 := by rw [← hm]; exact memGet_none (rowFind_none hr)
      rw [h0]
      obtain ⟨hrs', hm'⟩ := hrs.add (k := k) (a := a) (f := f) (v := v) hr
      have hold : Go.Ev.Rows (rs ++ [([k, a, f, 0], cl)]) (cl + 1) := (hrs.add (k := k) (a := a) (f := f) (v := 0) hr).1
      have hst := hold.stamp (n := rs.length) (b := cl) (r := [k, a, f, 0]) (i := 0) (by simp)
      have hmap : (rs ++ [([k, a, f, 0], cl)]).map memRow = rs.map memRow ++ [(keyA k a f, AV.int .u64 0, cl)] := by simp only [List.map_append, List.map_cons, List.map_nil]; rfl
      rw [hmap] at hst
      have hst : stampA (.ofNat cl) (rs.map memRow ++ [(keyA k a f, AV.int .u64 0, cl)]) 0 = some (0 + rs.length, keyA k a f, cl) := hst
      obtain ⟨H1, e1, e2⟩ := seen (mk0_for stepMk _) (E := Es p s2) (n := 60) (f := q 44) (args := [.ptr (q 1) 0, keyA k a f, .int .u64 v]) (H := memH (hd7 s) (.mp (rs.map memRow) cl)) [.find none, bs true, bs true, .find none, .stamp (0 + rs.length) (keyA k a f) cl] (hs := [q 1, q 2]) (v := .tup [])
        (ob := [.stamp (.ofNat cl) (rs.map memRow ++ [(keyA k a f, AV.int .u64 0, cl)]) (0 + rs.length) (keyA k a f) cl, .find keyD (keyA k a f) (rs.map memRow) none, .key keyD (keyA k a f), .av (.bool (mayB k a f)) (.bool true), .av (.bool true) (.bool true), .find keyD (keyA k a f) (rs.map memRow) none, .key keyD (keyA k a f)])
        (os := [some (.cells (.map (q 2) :: hdA s 2 k a f 0 v false)), some (.mp ((rs.map memRow ++ [(keyA k a f, AV.int .u64 0, cl)]).set (0 + rs.length) (keyA k a f, .int .u64 v, cl)) (cl + 1))]) (by kernel_rfl) ⟨hst, hf, keyOk_key k a f, by show AV.bool _ = _; rw [hmay], rfl, hf, keyOk_key k a f, trivial⟩
      simp only [List.map_cons, List.map_nil, List.cons.injEq, and_true] at e2
      refine ⟨H1, e1, e2.1, rs ++ [([k, a, f, v], cl)], cl + 1, ?_, hrs', fun k' a' f' => ?_⟩
      · rw [e2.2]
        congr 2
        rw [Nat.zero_add, ← List.length_map (f := memRow), List.set_append_right _ _ (Nat.le_refl _)]
        simp only [Nat.sub_self, List.set_cons_zero, List.map_append, List.map_cons, List.map_nil]
        rfl
      · rw [hm' k' a' f']
        simp only [memGet, hm]
    | some x =>
      obtain ⟨j, r, b⟩ := x
      rw [hr] at hf
      obtain ⟨n, hj, hn, hat, h4⟩ := rowFind_some hr
      rw [Nat.zero_add] at hj
      subst hj
      have h0 : memGet m k a f = rowI r 3 := by rw [← hm]; exact h4
      rw [h0]
      obtain ⟨hrs', hm'⟩ := hrs.put (v := v) hn hat
      have hold := (hrs.put (v := rowI r 3) hn hat).1
      have hlt : j < rs.length := (List.getElem?_eq_some_iff.1 hn).1
      have hst := hold.stamp (n := j) (b := b) (r := [k, a, f, rowI r 3]) (i := 0) (by simp [hlt])
      have hmap : (rs.set j ([k, a, f, rowI r 3], b)).map memRow = (rs.map memRow).set j (keyA k a f, .int .u64 (rowI r 3), b) := by rw [List.map_set]; rfl
      rw [hmap] at hst
      have hst : stampA (.ofNat b) ((rs.map memRow).set j (keyA k a f, AV.int .u64 (rowI r 3), b)) 0 = some (0 + j, keyA k a f, b) := hst
      obtain ⟨H1, e1, e2⟩ := seen (mk0_for stepMk _) (E := Es p s2) (n := 60) (f := q 44) (args := [.ptr (q 1) 0, keyA k a f, .int .u64 v]) (H := memH (hd7 s) (.mp (rs.map memRow) cl)) [.find (some (j, memKey r, .int .u64 (rowI r 3), b)), bs true, bs true, .find (some (j, memKey r, .int .u64 (rowI r 3), b)), .stamp (0 + j) (keyA k a f) b] (hs := [q 1, q 2]) (v := .tup [])
        (ob := [.stamp (.ofNat b) ((rs.map memRow).set j (keyA k a f, .int .u64 (rowI r 3), b)) (0 + j) (keyA k a f) b, .flat (memKey r) (keyA k a f), .find keyD (keyA k a f) (rs.map memRow) (some (j, memKey r, .int .u64 (rowI r 3), b)), .key keyD (keyA k a f), .av (.bool (mayB k a f)) (.bool true), .av (.bool true) (.bool true), .find keyD (keyA k a f) (rs.map memRow) (some (j, memKey r, .int .u64 (rowI r 3), b)), .key keyD (keyA k a f)])
        (os := [some (.cells (.map (q 2) :: hdA s 2 k a f (rowI r 3) v false)), some (.mp (((rs.map memRow).set j (keyA k a f, .int .u64 (rowI r 3), b)).set (0 + j) (keyA k a f, .int .u64 v, b)) cl)]) (by kernel_rfl) ⟨hst, flatSame_key hat, hf, keyOk_key k a f, by show AV.bool _ = _; rw [hmay], rfl, hf, keyOk_key k a f, trivial⟩
      simp only [List.map_cons, List.map_nil, List.cons.injEq, and_true] at e2
      refine ⟨H1, e1, e2.1, rs.set j ([k, a, f, v], b), cl, ?_, hrs', fun k' a' f' => ?_⟩
      · rw [e2.2]
        congr 2
        rw [Nat.zero_add, List.set_set, List.map_set]
        rfl
      · rw [hm' k' a' f']
        simp only [memGet, hm]

noncomputable def fLoad : SumF := fun args H => match args with
  | [.ptr i 0, .agg [.int .u8 k, .int .i64 a, .int .i64 f]] => match H.t.get i with
    | some (.cells [.map j, .int .i64 s, _, _, _, _, _, _, _]) => match H.t.get j with
      | some (.gh 0 m c) => some (.int .u64 (memGet m k a f), ⟨(H.t.put i (some (.cells (.map j :: hdA s 1 k a f (memGet m k a f) (memGet m k a f) false)))).put j (some (.gh 0 m c)), H.next⟩)
      | _ => none
    | _ => none
  | _ => none
noncomputable def fStore : SumF := fun args H => match args with
  | [.ptr i 0, .agg [.int .u8 k, .int .i64 a, .int .i64 f], .int .u64 v] => match H.t.get i with
    | some (.cells [.map j, .int .i64 s, _, _, _, _, _, _, _]) => match H.t.get j with
      | some (.gh 0 m c) => some (.tup [], ⟨(H.t.put i (some (.cells (.map j :: hdA s 2 k a f (memGet m k a f) (isM m k a f v) false)))).put j (some (.gh 0 (putM m k a f v) c)), H.next⟩)
      | _ => none
    | _ => none
  | _ => none
theorem load_enter : Enter Tryz.prog (q 56) := ⟨Tryz.f55, Tryz.func55, by kernel_rfl, by kernel_rfl⟩
theorem store_enter : Enter Tryz.prog (q 44) := ⟨Tryz.f43, Tryz.func43, by kernel_rfl, by kernel_rfl⟩
theorem fLoad_ok (p : PhT) : SumQ Tryz.prog (Es p .lf).globals (q 56) fLoad := SumQ.of fun args H v H' h => by
  unfold fLoad at h
  split at h
  · rename_i i k a f
    split at h
    · rename_i j s x1 x2 x3 x4 x5 x6 x7 hi
      split at h
      · rename_i m c hj
        cases h
        exact (load_tri p m s k a f c load_enter).lift rfl rfl rfl hi hj
      · cases h
    · cases h
  · cases h
theorem fStore_ok (p : PhT) : SumQ Tryz.prog (Es p .lf).globals (q 44) fStore := SumQ.of fun args H v H' h => by
  unfold fStore at h
  split at h
  · rename_i i k a f w
    split at h
    · rename_i j s x1 x2 x3 x4 x5 x6 x7 hi
      split at h
      · rename_i m c hj
        cases h
        exact (store_tri p m s k a f w c store_enter).lift rfl rfl rfl hi hj
      · cases h
    · cases h
  · cases h
end Go.Proofs.YtipkbcnibhnjdabGreatDoor
