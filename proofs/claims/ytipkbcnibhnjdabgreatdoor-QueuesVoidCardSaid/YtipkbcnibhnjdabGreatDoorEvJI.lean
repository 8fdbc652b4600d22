/-
Joined texts.
-/
import Derived.Test.YtipkbcnibhnjdabGreatDoorEvG
set_option linter.unusedVariables false
set_option linter.unusedSimpArgs false
/-
Summaries: what a run at the empty heap gives, it gives at every heap.
-/
namespace Go.Ev

mutual
def AV.flat : AV → Bool
  | .bool _ | .int _ _ | .str _ | .gp _ _ | .nilp | .nils | .nilm | .nilf | .nili | .any => true
  | .agg l => AV.flats l
  | .tup l => AV.flats l
  | .ifc _ v => AV.flat v
  | .fn _ a b => AV.flats a && AV.flats b
  | _ => false
def AV.flats : List AV → Bool
  | [] => true
  | a :: l => AV.flat a && AV.flats l
end

mutual
theorem AV.flat_any {φ ψ : Emb} : ∀ {a : AV} {v : Value}, AV.flat a = true → VR φ a v → VR ψ a v
  | .bool _, _, _, h => h
  | .int _ _, _, _, h => h
  | .str _, _, _, h => h
  | .gp _ _, _, _, h => h
  | .nilp, _, _, h => h
  | .nils, _, _, h => h
  | .nilm, _, _, h => h
  | .nilf, _, _, h => h
  | .nili, _, _, h => h
  | .any, _, _, _ => trivial
  | .agg l, _, hf, ⟨vs, h1, h2⟩ => ⟨vs, h1, AV.flats_any (by simpa [AV.flat] using hf) h2⟩
  | .tup l, _, hf, ⟨vs, h1, h2⟩ => ⟨vs, h1, AV.flats_any (by simpa [AV.flat] using hf) h2⟩
  | .ifc t v, _, hf, ⟨u, h1, h2⟩ => ⟨u, h1, AV.flat_any (by simpa [AV.flat] using hf) h2⟩
  | .fn f a b, _, hf, ⟨fs, cs, h1, h2, h3⟩ => by
    simp only [AV.flat, Bool.and_eq_true] at hf
    exact ⟨fs, cs, h1, AV.flats_any hf.1 h2, AV.flats_any hf.2 h3⟩
  | .ptr _ _, _, hf, _ => by simp [AV.flat] at hf
  | .slc .., _, hf, _ => by simp [AV.flat] at hf
  | .map _, _, hf, _ => by simp [AV.flat] at hf
theorem AV.flats_any {φ ψ : Emb} : ∀ {l : List AV} {vs : List Value}, AV.flats l = true → VRs φ l vs → VRs ψ l vs
  | [], _, _, h => h
  | a :: l, _, hf, ⟨v, vs, h1, h2, h3⟩ => by
    simp only [AV.flats, Bool.and_eq_true] at hf
    exact ⟨v, vs, h1, AV.flat_any hf.1 h2, AV.flats_any hf.2 h3⟩
end

section
variable {P : Program} {names : List String} {G : List (Nat × List AV)}

theorem Rep.grown {φ : Emb} {H : Hp} {w w' : World} (h : Rep P G φ H w) (hs : w.heap.size ≤ w'.heap.size) (hk : ∀ b, b < w.heap.size → w'.heap[b]? = w.heap[b]?) : Rep P G φ H w' := by
  refine ⟨fun i o hi => ?_, h.inj, h.fresh, Nat.le_trans h.size hs, fun g cs hg => ?_⟩
  · obtain ⟨b, s, n, h1, h2, c, h3, h4⟩ := h.obj i o hi
    exact ⟨b, s, n, h1, h2, c, by rw [hk b (Array.getElem?_eq_some_iff.1 h3).1]; exact h3, h4⟩
  · obtain ⟨h1, c, t, f, h2, h3⟩ := h.glob g cs hg
    exact ⟨h1, c, t, f, by rw [hk g (Array.getElem?_eq_some_iff.1 h2).1]; exact h2, h3⟩
theorem Ext.grown {φ : Emb} {H : Hp} {w w' : World} (hs : w.heap.size ≤ w'.heap.size) (hk : ∀ b, b < w.heap.size → w'.heap[b]? = w.heap[b]?) (h1 : w'.os = w.os) (h2 : w'.tape = w.tape) (h3 : w'.output = w.output) : Ext φ H w φ H w' :=
  ⟨fun _ _ h => h, fun _ _ => rfl, fun i o b s n h1 h2 => .inr ⟨i, o, s, n, h1, h2, fun h => h⟩, fun b hb _ => hk b hb, hs, Nat.le_refl _, h1, h2, h3⟩

theorem flat_sum {E : Env} (hE : EnvOK P names E) {n : Nat} {f : Pos} {args : List AV} {v : AV} {H' : Hp} (hrun : callN E n f args ⟨.lf, .h⟩ = some (v, H')) (hv : AV.flat v = true) :
    Enter P f ∧ ∀ φ H w argsV, Rep P E.globals φ H w → VRs (fun _ => none) args argsV → Calls P (f.toNat - 1) argsV.toArray w (CPost P E.globals φ H w v H) := by
  obtain ⟨hen, hc⟩ := callN_good hE n f args _ v H' hrun
  refine ⟨hen, fun φ H w argsV hr ha => (hc (fun _ => none) w argsV (Rep.empty hr.size hr.glob) ha).mono fun e w' hp => ?_⟩
  obtain ⟨u, φ', he, hu, hr', hx⟩ := hp
  obtain ⟨k1, k2, k3, k4, k5⟩ := hx.kept
  exact ⟨u, φ, he, AV.flat_any hv hu, hr.grown k1 k2, Ext.grown k1 k2 k3 k4 k5⟩

/-- A summary of one row: these arguments, that result. -/
def oneSum (args0 : List AV) (v : AV) : List AV → Hp → Option (AV × Hp) := fun args H => match AV.sames args0 args with
  | true => some (v, H)
  | false => none

def SumQ (P : Program) (G : List (Nat × List AV)) (f : Pos) (F : List AV → Hp → Option (AV × Hp)) : Prop :=
  ∀ args H v H', F args H = some (v, H') → Enter P f ∧ ∀ φ w argsV, Rep P G φ H w → VRs φ args argsV → Calls P (f.toNat - 1) argsV.toArray w (CPost P G φ H w v H')

theorem oneSum_ok {E : Env} (hE : EnvOK P names E) {n : Nat} {f : Pos} {args0 : List AV} {v : AV} {H' : Hp} (hrun : callN E n f args0 ⟨.lf, .h⟩ = some (v, H')) (ha : AV.flats args0 = true) (hv : AV.flat v = true) : SumQ P E.globals f (oneSum args0 v) := by
  intro args H v' H'' h
  unfold oneSum at h
  split at h
  · rename_i hs
    cases h
    have := AV.sames_eq hs
    subst this
    obtain ⟨hen, hc⟩ := flat_sum hE hrun hv
    exact ⟨hen, fun φ w argsV hr hargs => hc φ H w argsV hr (AV.flats_any ha hargs)⟩
  · cases h

theorem all_put {α : Type} {Q : Pos → α → Prop} {t : Tr α} {p : Pos} {x : α} (ht : Tr.All Q t) (hx : Q p x) : Tr.All Q (t.put p (some x)) := fun r y h => by
  by_cases e : p = r
  · subst e
    rw [Tr.get_put_same] at h
    cases h
    exact hx
  · rw [Tr.get_put_ne _ _ e] at h
    exact ht r y h

theorem EnvOK.sum {E : Env} (hE : EnvOK P names E) (s : Tr (List AV → Hp → Option (AV × Hp))) (h : Tr.All (SumQ P E.globals) s) : EnvOK P names { E with sums := s } := ⟨hE.mix, hE.meths, hE.code, h⟩

/-- Is it 'true'? -/
def isTrue : Option (AV × Hp) → Bool
  | some (.bool b, _) => b
  | _ => false
theorem isTrue_some {r : Option (AV × Hp)} (h : isTrue r = true) : ∃ H', r = some (.bool true, H') := by
  unfold isTrue at h
  split at h
  · subst h; exact ⟨_, rfl⟩
  · cases h
end
end Go.Ev

/-
A run by given answers: what is left to show is that each call that comes up has that answer.
-/
namespace Go.Ev

section
variable (call1 call2 : CallF) (E : Env)
/-- this operation, if it calls, is answered alike -/
def okOp (T : Tm) (H : Hp) (p : XP) : Prop := match evalC E T p with
  | some (f, args) => call2 f args H = call1 f args H
  | none => True
def okOps : List XI → Tm → Hp → Prop
  | [], _, _ => True
  | x :: l, T, H => match wantedA T x.guard with
    | some true => okOp call1 call2 E T H x.op ∧ match evalOp call1 E T H x.op with
      | some (v, H') => okOps l (T.set x.dst v) H'
      | none => True
    | some false => okOps l (T.set x.dst AV.undef) H
    | none => True
def okStepD (x : XI × Role) (s : SD) : Prop := match wantedA s.T x.1.guard, x.2 with
  | some true, .heavy => okOp call1 call2 E s.T s.H x.1.op
  | _, _ => True
def okRunD (base : Pos) : List (XI × Role) → SD → Prop
  | [], _ => True
  | x :: l, s => okStepD call1 call2 E x s ∧ match stepD call1 E base x s with
    | some s' => okRunD base l s'
    | none => True
def okBody : Nat → XC → Tm → Hp → Prop
  | 0, _, _, _ => True
  | _ + 1, .skip, _, _ => True
  | _ + 1, .rg l, T, H => okOps call1 call2 E l T H
  | _ + 1, .rgd a l, T, H => okRunD call1 call2 E H.next l ⟨T, ⟨H.t, H.next.plus a⟩, 0, [(0, ⟨H.t, H.next.plus a⟩)], []⟩
  | n + 1, .seq a b, T, H => okBody n a T H ∧ match body call1 E n a T H with
    | some (.normal, T', H') => okBody n b T' H'
    | _ => True
  | n + 1, .cond c a b, T, H => match opnd T c with
    | .bool true => okBody n a T H
    | .bool false => okBody n b T H
    | _ => True
  | n + 1, .block _ b, T, H => okBody n b T H
  | n + 1, .loop b, T, H => okBody n b T H ∧ match body call1 E n b T H with
    | some (.normal, T', H') => okBody n (.loop b) T' H'
    | _ => True
  | _ + 1, .exit _, _, _ => True
  | _ + 1, .ret, _, _ => True
end

section
variable {call1 call2 : CallF} {E : Env}
theorem evalOp_agree {T : Tm} {H : Hp} {p : XP} (h : okOp call1 call2 E T H p) : evalOp call2 E T H p = evalOp call1 E T H p := by
  unfold evalOp
  split
  · rfl
  · rfl
  · rfl
  · unfold okOp at h
    split
    · rename_i f args he
      rw [he] at h
      exact h
    · rfl
theorem ops_agree : ∀ {l : List XI} {T : Tm} {H : Hp}, okOps call1 call2 E l T H → ops call2 E l T H = ops call1 E l T H
  | [], _, _, _ => rfl
  | x :: l, T, H, h => by
    simp only [okOps] at h
    simp only [ops]
    split at h
    · rename_i hw
      rw [hw]
      simp only []
      obtain ⟨h1, h2⟩ := h
      rw [evalOp_agree h1]
      cases he : evalOp call1 E T H x.op with
      | none => rfl
      | some r =>
        obtain ⟨v, H'⟩ := r
        rw [he] at h2
        exact ops_agree h2
    · rename_i hw
      rw [hw]
      exact ops_agree h
    · rename_i hw
      rw [hw]
theorem stepD_agree {base : Pos} {x : XI × Role} {s : SD} (h : okStepD call1 call2 E x s) : stepD call2 E base x s = stepD call1 E base x s := by
  obtain ⟨x, r⟩ := x
  unfold okStepD at h
  unfold stepD
  simp only [] at h ⊢
  cases hw : wantedA s.T x.guard with
  | none => rfl
  | some b =>
    cases b with
    | false => rfl
    | true =>
      cases r with
      | heavy =>
        rw [hw] at h
        simp only [] at h ⊢
        rw [evalOp_agree h]
      | pure => rfl
      | read lo hi => rfl
      | alloc c => rfl
theorem runD_agree {base : Pos} : ∀ {l : List (XI × Role)} {s : SD}, okRunD call1 call2 E base l s → runD call2 E base l s = runD call1 E base l s
  | [], _, _ => rfl
  | x :: l, s, h => by
    simp only [okRunD] at h
    simp only [runD]
    obtain ⟨h1, h2⟩ := h
    rw [stepD_agree h1]
    cases he : stepD call1 E base x s with
    | none => rfl
    | some s' =>
      rw [he] at h2
      exact runD_agree h2
theorem body_agree : ∀ {n : Nat} {x : XC} {T : Tm} {H : Hp}, okBody call1 call2 E n x T H → body call2 E n x T H = body call1 E n x T H
  | 0, _, _, _, _ => rfl
  | n + 1, x, T, H, h => by
    cases x with
    | skip => rfl
    | rg l => simp only [okBody] at h; simp only [body, ops_agree h]
    | rgd a l => simp only [okBody] at h; simp only [body, runD_agree h]
    | seq a b =>
      simp only [okBody] at h
      obtain ⟨h1, h2⟩ := h
      simp only [body, body_agree h1]
      split
      · rename_i T' H' he
        rw [he] at h2
        exact body_agree h2
      · rfl
    | cond c a b =>
      simp only [okBody] at h
      simp only [body]
      split
      · rename_i he
        rw [he] at h
        exact body_agree h
      · rename_i he
        rw [he] at h
        exact body_agree h
      · rfl
    | block id b => simp only [okBody] at h; simp only [body, body_agree h]
    | loop b =>
      simp only [okBody] at h
      obtain ⟨h1, h2⟩ := h
      simp only [body, body_agree h1]
      split
      · rename_i T' H' he
        rw [he] at h2
        exact body_agree h2
      · rfl
    | exit id => rfl
    | ret => rfl

theorem callN_by {n : Nat} {f : Pos} {args : List AV} {H : Hp} {x : XF} {v : AV} {H' : Hp} (hs : E.sums.get f = none) (hc : E.code.get f = some x) (hok : okBody call1 (callN E n) E n x.body (argsT args .h .lf) H)
    (hr : (match body call1 E n x.body (argsT args .h .lf) H with
      | some (.exit _, _, _) => none
      | some (_, T', H') => match resA E.globals T' H' x.results with
        | some vs => some (resV vs, H')
        | none => none
      | none => none) = some (v, H')) : callN E (n + 1) f args H = some (v, H') := by
  simp only [callN, hs, hc, body_agree hok]
  exact hr
end

section
variable (call1 : CallF) (E : Env)
/-- the calls that come up -/
noncomputable def obOp (T : Tm) (H : Hp) (p : XP) : List (Pos × List AV × Hp) := match evalC E T p with
  | some (f, args) => [(f, args, H)]
  | none => []
noncomputable def obOps : List XI → Tm → Hp → List (Pos × List AV × Hp)
  | [], _, _ => []
  | x :: l, T, H => match wantedA T x.guard with
    | some true => obOp E T H x.op ++ match evalOp call1 E T H x.op with
      | some (v, H') => obOps l (T.set x.dst v) H'
      | none => []
    | some false => obOps l (T.set x.dst AV.undef) H
    | none => []
noncomputable def obStepD (x : XI × Role) (s : SD) : List (Pos × List AV × Hp) := match wantedA s.T x.1.guard, x.2 with
  | some true, .heavy => obOp E s.T s.H x.1.op
  | _, _ => []
noncomputable def obRunD (base : Pos) : List (XI × Role) → SD → List (Pos × List AV × Hp)
  | [], _ => []
  | x :: l, s => obStepD E x s ++ match stepD call1 E base x s with
    | some s' => obRunD base l s'
    | none => []
noncomputable def obBody : Nat → XC → Tm → Hp → List (Pos × List AV × Hp)
  | 0, _, _, _ => []
  | _ + 1, .skip, _, _ => []
  | _ + 1, .rg l, T, H => obOps call1 E l T H
  | _ + 1, .rgd a l, T, H => obRunD call1 E H.next l ⟨T, ⟨H.t, H.next.plus a⟩, 0, [(0, ⟨H.t, H.next.plus a⟩)], []⟩
  | n + 1, .seq a b, T, H => obBody n a T H ++ match body call1 E n a T H with
    | some (.normal, T', H') => obBody n b T' H'
    | _ => []
  | n + 1, .cond c a b, T, H => match opnd T c with
    | .bool true => obBody n a T H
    | .bool false => obBody n b T H
    | _ => []
  | n + 1, .block _ b, T, H => obBody n b T H
  | n + 1, .loop b, T, H => obBody n b T H ++ match body call1 E n b T H with
    | some (.normal, T', H') => obBody n (.loop b) T' H'
    | _ => []
  | _ + 1, .exit _, _, _ => []
  | _ + 1, .ret, _, _ => []
end

section
variable {call1 call2 : CallF} {E : Env}
def Alike (call1 call2 : CallF) (l : List (Pos × List AV × Hp)) : Prop := ∀ o ∈ l, call2 o.1 o.2.1 o.2.2 = call1 o.1 o.2.1 o.2.2
theorem Alike.left {l m : List (Pos × List AV × Hp)} (h : Alike call1 call2 (l ++ m)) : Alike call1 call2 l := fun o ho => h o (List.mem_append_left _ ho)
theorem Alike.right {l m : List (Pos × List AV × Hp)} (h : Alike call1 call2 (l ++ m)) : Alike call1 call2 m := fun o ho => h o (List.mem_append_right _ ho)
theorem Alike.nil : Alike call1 call2 [] := fun o ho => by cases ho
theorem Alike.cons {f : Pos} {args : List AV} {H : Hp} {l : List (Pos × List AV × Hp)} (h : call2 f args H = call1 f args H) (hl : Alike call1 call2 l) : Alike call1 call2 ((f, args, H) :: l) := fun o ho => by
  rcases List.mem_cons.1 ho with rfl | ho
  · exact h
  · exact hl o ho
theorem okOp_of {T : Tm} {H : Hp} {p : XP} (h : Alike call1 call2 (obOp E T H p)) : okOp call1 call2 E T H p := by
  unfold obOp at h
  unfold okOp
  split
  · rename_i f args he
    rw [he] at h
    exact h (f, args, H) (List.mem_singleton.2 rfl)
  · trivial
theorem okOps_of : ∀ {l : List XI} {T : Tm} {H : Hp}, Alike call1 call2 (obOps call1 E l T H) → okOps call1 call2 E l T H
  | [], _, _, _ => trivial
  | x :: l, T, H, h => by
    simp only [obOps] at h
    simp only [okOps]
    split
    · rename_i hw
      rw [hw] at h
      refine ⟨okOp_of h.left, ?_⟩
      split
      · rename_i he
        have := h.right
        rw [he] at this
        exact okOps_of this
      · trivial
    · rename_i hw
      rw [hw] at h
      exact okOps_of h
    · trivial
theorem okStepD_of {x : XI × Role} {s : SD} (h : Alike call1 call2 (obStepD E x s)) : okStepD call1 call2 E x s := by
  unfold obStepD at h
  unfold okStepD
  split
  · rename_i h1 h2
    rw [h1, h2] at h
    exact okOp_of h
  · trivial
theorem okRunD_of {base : Pos} : ∀ {l : List (XI × Role)} {s : SD}, Alike call1 call2 (obRunD call1 E base l s) → okRunD call1 call2 E base l s
  | [], _, _ => trivial
  | x :: l, s, h => by
    simp only [obRunD] at h
    simp only [okRunD]
    refine ⟨okStepD_of h.left, ?_⟩
    split
    · rename_i he
      have := h.right
      rw [he] at this
      exact okRunD_of this
    · trivial
theorem okBody_of : ∀ {n : Nat} {x : XC} {T : Tm} {H : Hp}, Alike call1 call2 (obBody call1 E n x T H) → okBody call1 call2 E n x T H
  | 0, _, _, _, _ => by simp only [okBody]
  | n + 1, x, T, H, h => by
    cases x with
    | skip => simp only [okBody]
    | rg l => simp only [obBody] at h; simp only [okBody]; exact okOps_of h
    | rgd a l => simp only [obBody] at h; simp only [okBody]; exact okRunD_of h
    | seq a b =>
      simp only [obBody] at h
      simp only [okBody]
      refine ⟨okBody_of h.left, ?_⟩
      split
      · rename_i he
        have := h.right
        rw [he] at this
        exact okBody_of this
      · trivial
    | cond c a b =>
      simp only [obBody] at h
      simp only [okBody]
      split
      · rename_i he
        rw [he] at h
        exact okBody_of h
      · rename_i he
        rw [he] at h
        exact okBody_of h
      · trivial
    | block id b => simp only [obBody] at h; simp only [okBody]; exact okBody_of h
    | loop b =>
      simp only [obBody] at h
      simp only [okBody]
      refine ⟨okBody_of h.left, ?_⟩
      split
      · rename_i he
        have := h.right
        rw [he] at this
        exact okBody_of this
      · trivial
    | exit id => simp only [okBody]
    | ret => simp only [okBody]
end

section
open Classical in
/-- A summary of one row, its arguments with names in them. -/
noncomputable def nameSum (args0 : List AV) (v : AV) : List AV → Hp → Option (AV × Hp) := fun args H => if args = args0 then some (v, H) else none
theorem nameSum_self (args0 : List AV) (v : AV) (H : Hp) : nameSum args0 v args0 H = some (v, H) := by simp [nameSum]
theorem nameSum_ok {P : Program} {names : List String} {E : Env} (hE : EnvOK P names E) {n : Nat} {f : Pos} {args0 : List AV} {v : AV} {H' : Hp} (hrun : callN E n f args0 ⟨.lf, .h⟩ = some (v, H')) (ha : AV.flats args0 = true) (hv : AV.flat v = true) : SumQ P E.globals f (nameSum args0 v) := by
  intro args H v' H'' h
  unfold nameSum at h
  split at h
  · rename_i hs
    cases h
    subst hs
    obtain ⟨hen, hc⟩ := flat_sum hE hrun hv
    exact ⟨hen, fun φ w argsV hr hargs => hc φ H w argsV hr (AV.flats_any ha hargs)⟩
  · cases h
end
end Go.Ev
