/-
Begin anywhere; a phase's word; its mode; the examples.
-/
import Derived.Test.YtipkbcnibhnjdabGreatDoorQvMf
import Derived.Test.YtipkbcnibhnjdabGreatDoorQvL0
import Derived.Test.YtipkbcnibhnjdabGreatDoorQvL1
set_option linter.unusedVariables false
set_option linter.unusedSimpArgs false
namespace Go.Proofs.YtipkbcnibhnjdabGreatDoor
open Go Go.Ev
set_option maxRecDepth 1000000

def kab (j nx : Pos) (p : Pos) : Pos := match p with
  | .h => j
  | p => nx.plus (p.toNat - 2)
theorem put3_get {t : Tr AObj} {i j l k : Pos} {a b c : Option AObj} {o : AObj} (h : (((t.put i a).put j b).put l c).get k = some o) : (k = l ∧ c = some o) ∨ (k ≠ l ∧ k = j ∧ b = some o) ∨ (k ≠ l ∧ k ≠ j ∧ k = i ∧ a = some o) ∨ (k ≠ i ∧ k ≠ j ∧ k ≠ l ∧ t.get k = some o) := by
  rcases put1_get h with ⟨rfl, e⟩ | ⟨hne, h⟩
  · exact .inl ⟨rfl, e⟩
  · rcases put2_get h with ⟨rfl, e⟩ | ⟨h2, rfl, e⟩ | ⟨h3, h4, h⟩
    · exact .inr (.inl ⟨hne, rfl, e⟩)
    · exact .inr (.inr (.inl ⟨hne, h2, rfl, e⟩))
    · exact .inr (.inr (.inr ⟨h3, h4, hne, h⟩))
/-- Begin's heap behind it -/
noncomputable def bgH (H : Hp) (m : List (List Int)) (n : Nat) : Hp := ⟨((H.t.put H.next (some (.cells [.ptr H.next.succ 0, .any]))).put H.next.succ (some (.cells (.map H.next.succ.succ :: hd7 (.ofNat n))))).put H.next.succ.succ (some (.gh 0 m 0)), H.next.succ.succ.succ⟩
theorem bgH_next (H : Hp) (m : List (List Int)) (n : Nat) : (bgH H m n).next.toNat = H.next.toNat + 3 := by
  show H.next.succ.succ.succ.toNat = _
  rw [Pos.toNat_succ, Pos.toNat_succ, Pos.toNat_succ]
theorem lt12 : (q 1).toNat < (q 2).toNat := by decide
theorem begin_any (p : PhT) {rows : List (List Int)} (hlen : rows.length ≤ 300) {H : Hp} {j : Pos} (hj : H.t.get j = some (.ro rows 0)) : Tri Tryz.prog (Es p .lf).globals (q 6) [.slc j 0 rows.length none 4] H (.agg [.ptr H.next.succ 0, .any]) (bgH H (bM rows rows.length) rows.length) := by
  have key := Tri.big (begin_tri p rows hlen) (l0 := [(q 1, .ro rows 0)]) (H := H) (kab j H.next) (args := [.slc j 0 rows.length none 4]) (H' := bgH H (bM rows rows.length) rows.length)
    (fun x hx => by
      simp only [List.mem_cons, List.not_mem_nil, or_false] at hx
      subst hx
      exact ⟨lt12, rfl⟩)
    (fun x hx => by
      simp only [bR, List.mem_cons, List.not_mem_nil, or_false] at hx
      rcases hx with rfl | rfl | rfl | rfl
      · exact ⟨fun _ => ⟨_, rfl⟩, fun hge => absurd (show (q 2).toNat ≤ (q 1).toNat from hge) (by decide), rfl, rfl⟩
      · exact ⟨fun hlt => absurd (show (q 2).toNat < (q 2).toNat from hlt) (by decide), fun _ => ⟨rfl, show (q 2).toNat < (q 5).toNat from by decide⟩, rfl, rfl⟩
      · exact ⟨fun hlt => absurd (show (q 3).toNat < (q 2).toNat from hlt) (by decide), fun _ => ⟨rfl, show (q 3).toNat < (q 5).toNat from by decide⟩, rfl, rfl⟩
      · exact ⟨fun hlt => absurd (show (q 4).toNat < (q 2).toNat from hlt) (by decide), fun _ => ⟨rfl, show (q 4).toNat < (q 5).toNat from by decide⟩, rfl, rfl⟩)
    (fun x hx => by
      simp only [List.mem_cons, List.not_mem_nil, or_false] at hx
      subst hx
      exact ⟨_, hj, fun φ s' n c ho => RO.any ho⟩)
    (fun x hx y hy e => by
      simp only [List.mem_cons, List.not_mem_nil, or_false] at hx hy
      subst hx; subst hy; rfl)
    (fun x hx => by
      have h1 := Pos.toNat_pos x
      have hx : x.toNat < 2 := hx
      have e : x = q 1 := Pos.toNat_inj (by show x.toNat = 1; omega)
      subst e
      exact ⟨_, List.mem_cons_self, rfl⟩)
    rfl (fun φ argsV ha => ha)
    rfl (by decide) (bgH_next H _ _)
    (fun k o' hk => by
      rcases put3_get hk with ⟨rfl, e⟩ | ⟨hne, rfl, e⟩ | ⟨hne, hne2, rfl, e⟩ | ⟨h1, h2, h3, hk⟩
      · cases e
        exact .inl ⟨(q 4, _), List.mem_cons_of_mem _ (List.mem_cons_of_mem _ (List.mem_cons_of_mem _ List.mem_cons_self)), rfl, rfl⟩
      · cases e
        exact .inl ⟨(q 3, _), List.mem_cons_of_mem _ (List.mem_cons_of_mem _ List.mem_cons_self), rfl, rfl⟩
      · cases e
        exact .inl ⟨(q 2, _), List.mem_cons_of_mem _ List.mem_cons_self, rfl, rfl⟩
      · by_cases e : j = k
        · subst e
          rw [hj] at hk
          cases hk
          exact .inl ⟨(q 1, _), List.mem_cons_self, rfl, rfl⟩
        · refine .inr ⟨hk, fun x hx => ?_⟩
          simp only [List.mem_cons, List.not_mem_nil, or_false] at hx
          subst hx
          exact e)
  exact key

def bR0 : List (Pos × AObj) := [(q 1, .cells [.ptr (q 2) 0, .any]), (q 2, .cells (.map (q 3) :: hd7 0)), (q 3, .gh 0 [] 0)]
theorem begin0_tri (p : PhT) : Tri Tryz.prog (Es p .lf).globals (q 6) [.nils] ⟨mkT [], q 1⟩ (.agg [.ptr (q 2) 0, .any]) ⟨mkT bR0, q 4⟩ := by
  refine Sem.call (E0_ok p) (x := x5) (by kernel_rfl) fun nt φ0 w0 h0 => ?_
  exact Sem.view (E0_ok p) h0 (mk0_for .lf _) (ms := []) (N := 20) (n := 20) [] (q 100) (q 4) [(q 1, q 1), (q 2, q 3), (q 3, q 2)] [(q 3, .ptr (q 1) 0)]
    [(q 1, .cells [.ptr (q 3) 0, .ptr (q 4) 0], .cells [.ptr (q 2) 0, .any]), (q 2, .cells [.map (q 2), .int .i64 0, .int .u8 0, .int .u8 0, .int .i64 0, .int .i64 0, .int .u64 0, .int .u64 0, .bool false], .cells (.map (q 3) :: hd7 0)), (q 3, .mp [] 0, .gh 0 [] 0)]
    (e := .ret) (ob := []) (by kernel_rfl) trivial (by kernel_rfl) (by kernel_rfl) (by kernel_rfl) ⟨relPA (by kernel_rfl), relA7 (by kernel_rfl) rfl, relM0, trivial⟩ (by kernel_rfl) ⟨fun id h => (by cases h), rfl, _, rfl, rfl⟩
theorem begin0_any (p : PhT) (H : Hp) : Tri Tryz.prog (Es p .lf).globals (q 6) [.nils] H (.agg [.ptr H.next.succ 0, .any]) (bgH H [] 0) := by
  have key := Tri.big (begin0_tri p) (l0 := []) (H := H) (fun p => H.next.plus (p.toNat - 1)) (args := [.nils]) (H' := bgH H [] 0)
    (fun x hx => by cases hx)
    (fun x hx => by
      simp only [bR0, List.mem_cons, List.not_mem_nil, or_false] at hx
      rcases hx with rfl | rfl | rfl
      · exact ⟨fun hlt => absurd (show (q 1).toNat < (q 1).toNat from hlt) (by decide), fun _ => ⟨rfl, show (q 1).toNat < (q 4).toNat from by decide⟩, rfl, rfl⟩
      · exact ⟨fun hlt => absurd (show (q 2).toNat < (q 1).toNat from hlt) (by decide), fun _ => ⟨rfl, show (q 2).toNat < (q 4).toNat from by decide⟩, rfl, rfl⟩
      · exact ⟨fun hlt => absurd (show (q 3).toNat < (q 1).toNat from hlt) (by decide), fun _ => ⟨rfl, show (q 3).toNat < (q 4).toNat from by decide⟩, rfl, rfl⟩)
    (fun x hx => by cases hx)
    (fun x hx => by cases hx)
    (fun x hx => by
      have h1 := Pos.toNat_pos x
      have hx : x.toNat < 1 := hx
      omega)
    rfl (fun φ argsV ha => ha)
    rfl (by decide) (bgH_next H _ _)
    (fun k o' hk => by
      rcases put3_get hk with ⟨rfl, e⟩ | ⟨hne, rfl, e⟩ | ⟨hne, hne2, rfl, e⟩ | ⟨h1, h2, h3, hk⟩
      · cases e
        exact .inl ⟨(q 3, _), List.mem_cons_of_mem _ (List.mem_cons_of_mem _ List.mem_cons_self), rfl, rfl⟩
      · cases e
        exact .inl ⟨(q 2, _), List.mem_cons_of_mem _ List.mem_cons_self, rfl, rfl⟩
      · cases e
        exact .inl ⟨(q 1, _), List.mem_cons_self, rfl, rfl⟩
      · exact .inr ⟨hk, fun x hx => by cases hx⟩)
  exact key
noncomputable def cBegin : CSum := fun args H => match args with
  | [.nils] => some (.agg [.ptr H.next.succ 0, .any], bgH H [] 0, [])
  | [.slc j 0 len none 4] => match H.t.get j with
    | some (.ro rows 0) => some (.agg [.ptr H.next.succ 0, .any], bgH H (bM rows rows.length) rows.length, [.nat len rows.length, .le rows.length 300])
    | _ => none
  | _ => none
theorem cBegin_ok (p : PhT) : SumQ Tryz.prog (Es p .lf).globals (q 6) (realOf cBegin) := SumQ.of fun args H v H' h => by
  obtain ⟨obs, hc, ho⟩ := realOf_some h
  unfold cBegin at hc
  split at hc
  · cases hc
    exact begin0_any p H
  · rename_i j len
    split at hc
    · rename_i rows hj
      cases hc
      obtain ⟨h1, h2, _⟩ := ho
      have h1 : len = rows.length := h1
      have h2 : rows.length ≤ 300 := h2
      subst h1
      exact begin_any p h2 hj
    · cases hc
  · cases hc

/-- a field of a word -/
def fldW (w : Int) (from' mask : Nat) : Int := wrapF .u64 (.ofNat (Nat.land (modI 18446744073709551616 (divP w from')) mask))
def xN (w : Int) : Nat := modI 256 (fldW w 0 7)
def over3 (w : Int) : Bool := ltI 3 (.ofNat (xN w))
def phN (w : Int) : Nat := match over3 w with | true => 0 | false => xN w
def phaseV (w : Int) : AV := .agg [.int .u8 (.ofNat (phN w)), .int .u8 (wrapF .u8 (fldW w 3 7)), .int .u8 (wrapF .u8 (fldW w 6 7)), .int .u64 (fldW w 16 281474976710655)]
noncomputable def phMk : Tr (List Pos) := Tr.put (Tr.put .lf (q 99) (some [q 5])) (q 186) (some [q 6])
theorem asphase_run (p : PhT) (w : Int) : ∃ H', callN (Es p .lf) 60 (q 186) [.int .u64 w] ⟨.lf, .h⟩ = some (phaseV w, H') := by
  cases hb : over3 w with
  | true =>
    have e0 : phN w = 0 := by simp only [phN, hb]
    obtain ⟨H', e, _⟩ := seen (mk0_for phMk _) (E := Es p .lf) (n := 60) (f := q 186) (args := [.int .u64 w]) (H := ⟨.lf, .h⟩) [.val (.bool true), .val (.int .u8 (.ofNat (phN w)))] (hs := []) (v := phaseV w) (ob := [.av (.int .u8 0) (.int .u8 (.ofNat (phN w))), .av (.bool (over3 w)) (.bool true)]) (os := []) (by kernel_rfl) ⟨by show AV.int _ _ = AV.int _ _; rw [e0]; rfl, by show AV.bool _ = _; rw [hb], trivial⟩
    exact ⟨H', e⟩
  | false =>
    have e0 : phN w = xN w := by simp only [phN, hb]
    obtain ⟨H', e, _⟩ := seen (mk0_for phMk _) (E := Es p .lf) (n := 60) (f := q 186) (args := [.int .u64 w]) (H := ⟨.lf, .h⟩) [.val (.bool false), .val (.int .u8 (.ofNat (phN w)))] (hs := []) (v := phaseV w) (ob := [.av (.int .u8 (.ofNat (xN w))) (.int .u8 (.ofNat (phN w))), .av (.bool (over3 w)) (.bool false)]) (os := []) (by kernel_rfl) ⟨by show AV.int _ _ = AV.int _ _; rw [e0], by show AV.bool _ = _; rw [hb], trivial⟩
    exact ⟨H', e⟩
theorem phN_lt (w : Int) : phN w < 4 := by
  unfold phN
  cases hb : over3 w with
  | true => show 0 < 4; decide
  | false =>
    have h : ltI 3 (.ofNat (xN w)) = false := hb
    have e : ltI (.ofNat 3) (.ofNat (xN w)) = decide (3 < xN w) := ltI_nat _ _
    have h2 : decide (3 < xN w) = false := e ▸ h
    have h3 := of_decide_eq_false h2
    show xN w < 4
    omega
noncomputable def fAs : SumF := fun args H => match args with
  | [.int .u64 w] => some (phaseV w, H)
  | _ => none
theorem fAs_ok (p : PhT) : SumQ Tryz.prog (Es p .lf).globals (q 186) fAs := SumQ.of fun args H v H' h => by
  unfold fAs at h
  split at h
  · rename_i w
    cases h
    obtain ⟨H1, h1⟩ := asphase_run p w
    exact flatSum (s := .lf) all_lf h1 rfl rfl H
  · cases h

/-- the mode: which schemes count -/
def bitM (m : Nat) (c : Nat) : Bool := !(eqI (wrapF .u8 (.ofNat (Nat.land (modI 256 (.ofNat m)) c))) 0)
def orM (x y : Int) : Int := wrapF .u8 (.ofNat (Nat.lor (modI 256 x) (modI 256 y)))
def modeX (m : Nat) (o n : Int) : Int := match bitM m 1, bitM m 2 with
  | false, false => 0
  | true, false => orM 0 o
  | false, true => orM 0 n
  | true, true => orM (orM 0 o) n
def PhT.m (p : PhT) : Nat → Nat
  | 0 => p.m0
  | 1 => p.m1
  | 2 => p.m2
  | _ => p.m3
noncomputable def moMk : Tr (List Pos) := Tr.put .lf (q 187) (some [q 10, q 17])
theorem mode_run0 (p : PhT) (o n x : Int) : ∃ H', callN (Es p .lf) 60 (q 187) [.agg [.int .u8 (.ofNat 0), .int .u8 o, .int .u8 n, .int .u64 x]] ⟨.lf, .h⟩ = some (.int .u8 (modeX (p.m 0) o n), H') := by
  cases h1 : bitM p.m0 1 <;> cases h2 : bitM p.m0 2
  · obtain ⟨H', e, _⟩ := seen (mk0_for moMk _) (E := Es p .lf) (n := 60) (f := q 187) (args := [.agg [.int .u8 (.ofNat 0), .int .u8 o, .int .u8 n, .int .u64 x]]) (H := ⟨.lf, .h⟩) [.val (.bool false), .val (.bool false)] (hs := []) (v := .int .u8 (0)) (ob := [.av (.bool (bitM p.m0 2)) (.bool false), .av (.bool (bitM p.m0 1)) (.bool false)]) (os := []) (by kernel_rfl) ⟨by show AV.bool _ = _; rw [h2], by show AV.bool _ = _; rw [h1], trivial⟩
    exact ⟨H', by rw [e]; simp only [PhT.m, modeX, h1, h2]⟩
  · obtain ⟨H', e, _⟩ := seen (mk0_for moMk _) (E := Es p .lf) (n := 60) (f := q 187) (args := [.agg [.int .u8 (.ofNat 0), .int .u8 o, .int .u8 n, .int .u64 x]]) (H := ⟨.lf, .h⟩) [.val (.bool false), .val (.bool true)] (hs := []) (v := .int .u8 (orM 0 n)) (ob := [.av (.bool (bitM p.m0 2)) (.bool true), .av (.bool (bitM p.m0 1)) (.bool false)]) (os := []) (by kernel_rfl) ⟨by show AV.bool _ = _; rw [h2], by show AV.bool _ = _; rw [h1], trivial⟩
    exact ⟨H', by rw [e]; simp only [PhT.m, modeX, h1, h2]⟩
  · obtain ⟨H', e, _⟩ := seen (mk0_for moMk _) (E := Es p .lf) (n := 60) (f := q 187) (args := [.agg [.int .u8 (.ofNat 0), .int .u8 o, .int .u8 n, .int .u64 x]]) (H := ⟨.lf, .h⟩) [.val (.bool true), .val (.bool false)] (hs := []) (v := .int .u8 (orM 0 o)) (ob := [.av (.bool (bitM p.m0 2)) (.bool false), .av (.bool (bitM p.m0 1)) (.bool true)]) (os := []) (by kernel_rfl) ⟨by show AV.bool _ = _; rw [h2], by show AV.bool _ = _; rw [h1], trivial⟩
    exact ⟨H', by rw [e]; simp only [PhT.m, modeX, h1, h2]⟩
  · obtain ⟨H', e, _⟩ := seen (mk0_for moMk _) (E := Es p .lf) (n := 60) (f := q 187) (args := [.agg [.int .u8 (.ofNat 0), .int .u8 o, .int .u8 n, .int .u64 x]]) (H := ⟨.lf, .h⟩) [.val (.bool true), .val (.bool true)] (hs := []) (v := .int .u8 (orM (orM 0 o) n)) (ob := [.av (.bool (bitM p.m0 2)) (.bool true), .av (.bool (bitM p.m0 1)) (.bool true)]) (os := []) (by kernel_rfl) ⟨by show AV.bool _ = _; rw [h2], by show AV.bool _ = _; rw [h1], trivial⟩
    exact ⟨H', by rw [e]; simp only [PhT.m, modeX, h1, h2]⟩
theorem mode_run1 (p : PhT) (o n x : Int) : ∃ H', callN (Es p .lf) 60 (q 187) [.agg [.int .u8 (.ofNat 1), .int .u8 o, .int .u8 n, .int .u64 x]] ⟨.lf, .h⟩ = some (.int .u8 (modeX (p.m 1) o n), H') := by
  cases h1 : bitM p.m1 1 <;> cases h2 : bitM p.m1 2
  · obtain ⟨H', e, _⟩ := seen (mk0_for moMk _) (E := Es p .lf) (n := 60) (f := q 187) (args := [.agg [.int .u8 (.ofNat 1), .int .u8 o, .int .u8 n, .int .u64 x]]) (H := ⟨.lf, .h⟩) [.val (.bool false), .val (.bool false)] (hs := []) (v := .int .u8 (0)) (ob := [.av (.bool (bitM p.m1 2)) (.bool false), .av (.bool (bitM p.m1 1)) (.bool false)]) (os := []) (by kernel_rfl) ⟨by show AV.bool _ = _; rw [h2], by show AV.bool _ = _; rw [h1], trivial⟩
    exact ⟨H', by rw [e]; simp only [PhT.m, modeX, h1, h2]⟩
  · obtain ⟨H', e, _⟩ := seen (mk0_for moMk _) (E := Es p .lf) (n := 60) (f := q 187) (args := [.agg [.int .u8 (.ofNat 1), .int .u8 o, .int .u8 n, .int .u64 x]]) (H := ⟨.lf, .h⟩) [.val (.bool false), .val (.bool true)] (hs := []) (v := .int .u8 (orM 0 n)) (ob := [.av (.bool (bitM p.m1 2)) (.bool true), .av (.bool (bitM p.m1 1)) (.bool false)]) (os := []) (by kernel_rfl) ⟨by show AV.bool _ = _; rw [h2], by show AV.bool _ = _; rw [h1], trivial⟩
    exact ⟨H', by rw [e]; simp only [PhT.m, modeX, h1, h2]⟩
  · obtain ⟨H', e, _⟩ := seen (mk0_for moMk _) (E := Es p .lf) (n := 60) (f := q 187) (args := [.agg [.int .u8 (.ofNat 1), .int .u8 o, .int .u8 n, .int .u64 x]]) (H := ⟨.lf, .h⟩) [.val (.bool true), .val (.bool false)] (hs := []) (v := .int .u8 (orM 0 o)) (ob := [.av (.bool (bitM p.m1 2)) (.bool false), .av (.bool (bitM p.m1 1)) (.bool true)]) (os := []) (by kernel_rfl) ⟨by show AV.bool _ = _; rw [h2], by show AV.bool _ = _; rw [h1], trivial⟩
    exact ⟨H', by rw [e]; simp only [PhT.m, modeX, h1, h2]⟩
  · obtain ⟨H', e, _⟩ := seen (mk0_for moMk _) (E := Es p .lf) (n := 60) (f := q 187) (args := [.agg [.int .u8 (.ofNat 1), .int .u8 o, .int .u8 n, .int .u64 x]]) (H := ⟨.lf, .h⟩) [.val (.bool true), .val (.bool true)] (hs := []) (v := .int .u8 (orM (orM 0 o) n)) (ob := [.av (.bool (bitM p.m1 2)) (.bool true), .av (.bool (bitM p.m1 1)) (.bool true)]) (os := []) (by kernel_rfl) ⟨by show AV.bool _ = _; rw [h2], by show AV.bool _ = _; rw [h1], trivial⟩
    exact ⟨H', by rw [e]; simp only [PhT.m, modeX, h1, h2]⟩
theorem mode_run2 (p : PhT) (o n x : Int) : ∃ H', callN (Es p .lf) 60 (q 187) [.agg [.int .u8 (.ofNat 2), .int .u8 o, .int .u8 n, .int .u64 x]] ⟨.lf, .h⟩ = some (.int .u8 (modeX (p.m 2) o n), H') := by
  cases h1 : bitM p.m2 1 <;> cases h2 : bitM p.m2 2
  · obtain ⟨H', e, _⟩ := seen (mk0_for moMk _) (E := Es p .lf) (n := 60) (f := q 187) (args := [.agg [.int .u8 (.ofNat 2), .int .u8 o, .int .u8 n, .int .u64 x]]) (H := ⟨.lf, .h⟩) [.val (.bool false), .val (.bool false)] (hs := []) (v := .int .u8 (0)) (ob := [.av (.bool (bitM p.m2 2)) (.bool false), .av (.bool (bitM p.m2 1)) (.bool false)]) (os := []) (by kernel_rfl) ⟨by show AV.bool _ = _; rw [h2], by show AV.bool _ = _; rw [h1], trivial⟩
    exact ⟨H', by rw [e]; simp only [PhT.m, modeX, h1, h2]⟩
  · obtain ⟨H', e, _⟩ := seen (mk0_for moMk _) (E := Es p .lf) (n := 60) (f := q 187) (args := [.agg [.int .u8 (.ofNat 2), .int .u8 o, .int .u8 n, .int .u64 x]]) (H := ⟨.lf, .h⟩) [.val (.bool false), .val (.bool true)] (hs := []) (v := .int .u8 (orM 0 n)) (ob := [.av (.bool (bitM p.m2 2)) (.bool true), .av (.bool (bitM p.m2 1)) (.bool false)]) (os := []) (by kernel_rfl) ⟨by show AV.bool _ = _; rw [h2], by show AV.bool _ = _; rw [h1], trivial⟩
    exact ⟨H', by rw [e]; simp only [PhT.m, modeX, h1, h2]⟩
  · obtain ⟨H', e, _⟩ := seen (mk0_for moMk _) (E := Es p .lf) (n := 60) (f := q 187) (args := [.agg [.int .u8 (.ofNat 2), .int .u8 o, .int .u8 n, .int .u64 x]]) (H := ⟨.lf, .h⟩) [.val (.bool true), .val (.bool false)] (hs := []) (v := .int .u8 (orM 0 o)) (ob := [.av (.bool (bitM p.m2 2)) (.bool false), .av (.bool (bitM p.m2 1)) (.bool true)]) (os := []) (by kernel_rfl) ⟨by show AV.bool _ = _; rw [h2], by show AV.bool _ = _; rw [h1], trivial⟩
    exact ⟨H', by rw [e]; simp only [PhT.m, modeX, h1, h2]⟩
  · obtain ⟨H', e, _⟩ := seen (mk0_for moMk _) (E := Es p .lf) (n := 60) (f := q 187) (args := [.agg [.int .u8 (.ofNat 2), .int .u8 o, .int .u8 n, .int .u64 x]]) (H := ⟨.lf, .h⟩) [.val (.bool true), .val (.bool true)] (hs := []) (v := .int .u8 (orM (orM 0 o) n)) (ob := [.av (.bool (bitM p.m2 2)) (.bool true), .av (.bool (bitM p.m2 1)) (.bool true)]) (os := []) (by kernel_rfl) ⟨by show AV.bool _ = _; rw [h2], by show AV.bool _ = _; rw [h1], trivial⟩
    exact ⟨H', by rw [e]; simp only [PhT.m, modeX, h1, h2]⟩
theorem mode_run3 (p : PhT) (o n x : Int) : ∃ H', callN (Es p .lf) 60 (q 187) [.agg [.int .u8 (.ofNat 3), .int .u8 o, .int .u8 n, .int .u64 x]] ⟨.lf, .h⟩ = some (.int .u8 (modeX (p.m 3) o n), H') := by
  cases h1 : bitM p.m3 1 <;> cases h2 : bitM p.m3 2
  · obtain ⟨H', e, _⟩ := seen (mk0_for moMk _) (E := Es p .lf) (n := 60) (f := q 187) (args := [.agg [.int .u8 (.ofNat 3), .int .u8 o, .int .u8 n, .int .u64 x]]) (H := ⟨.lf, .h⟩) [.val (.bool false), .val (.bool false)] (hs := []) (v := .int .u8 (0)) (ob := [.av (.bool (bitM p.m3 2)) (.bool false), .av (.bool (bitM p.m3 1)) (.bool false)]) (os := []) (by kernel_rfl) ⟨by show AV.bool _ = _; rw [h2], by show AV.bool _ = _; rw [h1], trivial⟩
    exact ⟨H', by rw [e]; simp only [PhT.m, modeX, h1, h2]⟩
  · obtain ⟨H', e, _⟩ := seen (mk0_for moMk _) (E := Es p .lf) (n := 60) (f := q 187) (args := [.agg [.int .u8 (.ofNat 3), .int .u8 o, .int .u8 n, .int .u64 x]]) (H := ⟨.lf, .h⟩) [.val (.bool false), .val (.bool true)] (hs := []) (v := .int .u8 (orM 0 n)) (ob := [.av (.bool (bitM p.m3 2)) (.bool true), .av (.bool (bitM p.m3 1)) (.bool false)]) (os := []) (by kernel_rfl) ⟨by show AV.bool _ = _; rw [h2], by show AV.bool _ = _; rw [h1], trivial⟩
    exact ⟨H', by rw [e]; simp only [PhT.m, modeX, h1, h2]⟩
  · obtain ⟨H', e, _⟩ := seen (mk0_for moMk _) (E := Es p .lf) (n := 60) (f := q 187) (args := [.agg [.int .u8 (.ofNat 3), .int .u8 o, .int .u8 n, .int .u64 x]]) (H := ⟨.lf, .h⟩) [.val (.bool true), .val (.bool false)] (hs := []) (v := .int .u8 (orM 0 o)) (ob := [.av (.bool (bitM p.m3 2)) (.bool false), .av (.bool (bitM p.m3 1)) (.bool true)]) (os := []) (by kernel_rfl) ⟨by show AV.bool _ = _; rw [h2], by show AV.bool _ = _; rw [h1], trivial⟩
    exact ⟨H', by rw [e]; simp only [PhT.m, modeX, h1, h2]⟩
  · obtain ⟨H', e, _⟩ := seen (mk0_for moMk _) (E := Es p .lf) (n := 60) (f := q 187) (args := [.agg [.int .u8 (.ofNat 3), .int .u8 o, .int .u8 n, .int .u64 x]]) (H := ⟨.lf, .h⟩) [.val (.bool true), .val (.bool true)] (hs := []) (v := .int .u8 (orM (orM 0 o) n)) (ob := [.av (.bool (bitM p.m3 2)) (.bool true), .av (.bool (bitM p.m3 1)) (.bool true)]) (os := []) (by kernel_rfl) ⟨by show AV.bool _ = _; rw [h2], by show AV.bool _ = _; rw [h1], trivial⟩
    exact ⟨H', by rw [e]; simp only [PhT.m, modeX, h1, h2]⟩
noncomputable def cMode (p : PhT) : CSum := fun args H => match args with
  | [.agg [.int .u8 (.ofNat k), .int .u8 o, .int .u8 n, .int .u64 _]] => some (.int .u8 (modeX (p.m k) o n), H, [.lt k 4])
  | _ => none
theorem cMode_ok (p : PhT) : SumQ Tryz.prog (Es p .lf).globals (q 187) (realOf (cMode p)) := SumQ.of fun args H v H' h => by
  obtain ⟨obs, hc, ho⟩ := realOf_some h
  unfold cMode at hc
  split at hc
  · rename_i k o n x
    cases hc
    obtain ⟨h1, _⟩ := ho
    have h1 : k < 4 := h1
    match k, h1 with
    | 0, _ => obtain ⟨H1, h1⟩ := mode_run0 p o n x; exact flatSum (s := .lf) all_lf h1 rfl rfl H
    | 1, _ => obtain ⟨H1, h1⟩ := mode_run1 p o n x; exact flatSum (s := .lf) all_lf h1 rfl rfl H
    | 2, _ => obtain ⟨H1, h1⟩ := mode_run2 p o n x; exact flatSum (s := .lf) all_lf h1 rfl rfl H
    | 3, _ => obtain ⟨H1, h1⟩ := mode_run3 p o n x; exact flatSum (s := .lf) all_lf h1 rfl rfl H
  · cases hc
theorem stable_mode (m : Nat) : AV.int .u8 (modeX m 2 0) = modeV (bitM m 1) := by
  unfold modeX
  cases bitM m 1 <;> cases bitM m 2 <;> rfl
theorem E1_ok (p : PhT) : EnvOK Tryz.prog names (E1 p.cells (bitM p.m0 1)) := by
  obtain ⟨H', h⟩ := mode_run0 p 2 0 0
  rw [show AV.int .u8 (modeX (p.m 0) 2 0) = modeV (bitM p.m0 1) from stable_mode p.m0] at h
  exact (E0_ok p).sum _ (all_put all_lf (oneSum_ok (E0_ok p) h rfl rfl))
theorem lives_run (p : PhT) : ∃ H', callN (E1 p.cells (bitM p.m0 1)) 2000 (q 5) [] ⟨.lf, .h⟩ = some (.bool true, H') := by
  cases bitM p.m0 1 with
  | false => obtain ⟨H', h⟩ := isTrue_some (lives0 p.cells); rw [F.callN_eq] at h; exact ⟨H', h⟩
  | true => obtain ⟨H', h⟩ := isTrue_some (lives1 p.cells); rw [F.callN_eq] at h; exact ⟨H', h⟩
noncomputable def fLives : SumF := fun args H => match args with
  | [] => some (.bool true, H)
  | _ => none
theorem fLives_ok (p : PhT) : SumQ Tryz.prog (Es p .lf).globals (q 5) fLives := SumQ.of fun args H v H' h => by
  unfold fLives at h
  split at h
  · cases h
    obtain ⟨H1, h1⟩ := lives_run p
    obtain ⟨hen, hc⟩ := flat_sum (E1_ok p) h1 rfl
    exact ⟨hen, fun φ w argsV hr hargs => hc φ H w argsV hr (AV.flats_any rfl hargs)⟩
  · cases h
end Go.Proofs.YtipkbcnibhnjdabGreatDoor
