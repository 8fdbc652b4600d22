/-
One operation, a region in the text's order.
-/
import Derived.Test.YtipkbcnibhnjdabGreatDoorEvK
set_option linter.unusedVariables false
set_option linter.unusedSimpArgs false
namespace Go.Ev
section
variable {P : Program} {names : List String}

theorem evalC_sound {E : Env} {T : Tm} {a : Act} {φ : Emb} {w : World} {o : Oper} {p : XP} {f : Pos} {args : List AV} (hm : methsOK P names E.meths = true) (hl : lowOp P names o.op = some p) (hx : ∀ x ∈ o.op.operands, OpR φ T a x)
    (he : evalC E T p = some (f, args)) (hen : Enter P f) : ∃ argsV, (execOp a.eval o).run P w = .ok (.enter (f.toNat - 1) (List.toArray argsV)) w ∧ VRs φ args argsV := by
  have hcall : ∃ c, o.op = .call c := by
    generalize o.op = op at *
    cases op
    case call c => exact ⟨c, rfl⟩
    case makeFunc fn f c =>
      exfalso
      clear hx
      cases fn <;> simp only [lowOp, Option.bind_eq_bind, Option.pure_def] at hl
      all_goals repeat' (first | (rw [Option.bind_eq_some_iff] at hl; obtain ⟨_, _, hl⟩ := hl) | split at hl)
      all_goals first
        | (cases hl; done)
        | (cases hl; simp [evalC] at he; done)
    case binOp op t x y yt =>
      exfalso
      clear hx
      simp only [lowOp, lowBin, Option.bind_eq_bind, Option.pure_def] at hl
      repeat' (first | (rw [Option.bind_eq_some_iff] at hl; obtain ⟨_, _, hl⟩ := hl) | split at hl)
      all_goals first
        | (cases hl; done)
        | (cases hl; simp [evalC] at he; done)
    all_goals
      exfalso
      clear hx
      simp only [lowOp, Option.bind_eq_bind, Option.pure_def] at hl
      repeat' (first | (rw [Option.bind_eq_some_iff] at hl; obtain ⟨_, _, hl⟩ := hl) | split at hl)
      all_goals first
        | (cases hl; done)
        | (cases hl; simp [evalC] at he; done)
  obtain ⟨c, ho⟩ := hcall
  rw [ho] at hl hx
  obtain ⟨callee, cargs, ts⟩ := c
  simp only [lowOp, lowCall, Option.bind_eq_bind, Option.bind_eq_some_iff, Option.pure_def] at hl
  obtain ⟨xs, hxs, hl⟩ := hl
  cases callee with
  | value g =>
    have hargs := lowXs_sound (φ := φ) (T := T) (a := a) hxs fun x hxm => hx x (by simp [Op.operands, Call.operands]; right; simpa using hxm)
    have emap : cargs.map a.eval = (cargs.toList.map a.eval).toArray := by apply Array.ext'; simp
    have dyn : ∀ y, lowX g = some y → p = .cd y xs → ∃ argsV, (execOp a.eval o).run P w = .ok (.enter (f.toNat - 1) (List.toArray argsV)) w ∧ VRs φ args argsV := by
      intro y hy hp
      subst hp
      have vg := hx g (by simp [Op.operands, Call.operands]) y hy
      simp only [evalC] at he
      split at he
      · rename_i g2 first captured e1
        rw [e1] at vg
        cases he
        obtain ⟨fs, cs, vg, r1, r2⟩ := vg
        refine ⟨fs ++ cargs.toList.map a.eval ++ cs, ?_, (r1.append hargs).append r2⟩
        have hc := run_callFunc (P := P) hen (fs ++ cargs.toList.map a.eval ++ cs).toArray w
        simp only [execOp, ho, resolve, vg, Deferred.ofValue, Sem.run_bind, Sem.run_pure, Result.andThen_ok, invoke]
        rw [emap]
        simpa using hc
      · cases he
    cases g with
    | func fid =>
      simp only [] at hl
      split at hl
      · split at hl
        · rename_i hfid
          cases hl
          simp only [evalC] at he
          cases he
          refine ⟨cargs.toList.map a.eval, ?_, hargs⟩
          have hc := run_callFunc (P := P) hen (cargs.toList.map a.eval).toArray w
          have ht := tpos_toNat (Nat.le_of_ble_eq_true hfid)
          simp only [execOp, ho, resolve, Act.eval, Deferred.ofValue, Sem.run_bind, Sem.run_pure, Result.andThen_ok, invoke]
          rw [emap]
          rw [ht] at hc ⊢
          simpa using hc
        · cases hl
      · cases hl
    | tmp t =>
      simp only [Option.bind_eq_some_iff, Option.some.injEq] at hl
      obtain ⟨y, hy, rfl⟩ := hl
      exact dyn y hy rfl
    | const t =>
      simp only [Option.bind_eq_some_iff, Option.some.injEq] at hl
      obtain ⟨y, hy, rfl⟩ := hl
      exact dyn y hy rfl
    | global t =>
      simp only [Option.bind_eq_some_iff, Option.some.injEq] at hl
      obtain ⟨y, hy, rfl⟩ := hl
      exact dyn y hy rfl
  | invoke r m =>
    simp only [Option.bind_eq_some_iff, Option.some.injEq] at hl
    obtain ⟨y, hy, k, hk, rfl⟩ := hl
    have hargs := lowXs_sound (φ := φ) (T := T) (a := a) hxs fun x hxm => hx x (by simp [Op.operands, Call.operands]; right; simpa using hxm)
    have emap : cargs.map a.eval = (cargs.toList.map a.eval).toArray := by apply Array.ext'; simp
    have vr := hx r (by simp [Op.operands, Call.operands]) y hy
    simp only [evalC] at he
    split at he
    · rename_i t v e1
      rw [e1] at vr
      obtain ⟨u, vr, r1⟩ := vr
      split at he
      · rename_i g2 hfm
        cases he
        have hmo := findM_ok hm hfm
        have hc := run_callMethod (P := P) hmo (idxOfName_get hk) hen u (cargs.toList.map a.eval).toArray w
        refine ⟨u :: cargs.toList.map a.eval, ?_, u, _, rfl, r1, hargs⟩
        simp only [execOp, ho, resolve, Sem.run_bind, Sem.run_pure, Result.andThen_ok, invoke, vr]
        rw [emap]
        have hz : (#[Value.iface t u] ++ (cargs.toList.map a.eval).toArray)[0]? = some (.iface t u) := by simp
        have hext : (#[Value.iface t u] ++ (cargs.toList.map a.eval).toArray).extract 1 (#[Value.iface t u] ++ (cargs.toList.map a.eval).toArray).size = (cargs.toList.map a.eval).toArray := by
          apply Array.ext'; simp [List.extract_eq_take_drop]; exact List.take_of_length_le (by simp)
        simp only [hz, hext]
        rw [hc]
        simp
      · cases he
    · cases he
  | builtin b =>
    exfalso
    simp only [] at hl
    have : kindOf p = 3 := by cases p <;> simp [evalC] at he <;> rfl
    clear hx
    repeat' (first | (rw [Option.bind_eq_some_iff] at hl; obtain ⟨_, _, hl⟩ := hl) | split at hl)
    all_goals first
      | (cases hl; done)
      | (cases hl; simp [kindOf] at this; done)

theorem evalV_kind {G : List (Nat × List AV)} {T : Tm} {H : Hp} {p : XP} (h : kindOf p ≠ 0) : evalV G T H p = none := by cases p <;> first | rfl | exact absurd rfl h

/-- One operation. -/
theorem op_wp {E : Env} {call : CallF} {T : Tm} {a : Act} {φ : Emb} {H H' : Hp} {w : World} {o : Oper} {p : XP} {v : AV} (hg : GoodCall P E.globals call) (hm : methsOK P names E.meths = true)
    (hl : lowOp P names o.op = some p) (hr : Rep P E.globals φ H w) (hx : ∀ x ∈ o.op.operands, OpR φ T a x) (he : evalOp call E T H p = some (v, H')) {K : Act → World → Prop} {Q : Exit → Act → World → Prop}
    (hK : ∀ u w' φ', VR φ' v u → Rep P E.globals φ' H' w' → Ext φ H w φ' H' w' → K (a.put o.dst u) w') : o.wp P a w K Q := by
  unfold evalOp at he
  unfold Oper.wp
  split at he
  · split at he
    · rename_i u hv
      cases he
      obtain ⟨uv, r1, r2⟩ := evalV_sound o.op φ H w T a p v o rfl hl hr hx hv
      rw [r1]
      exact hK uv w φ r2 hr (Ext.refl φ H w)
    · cases he
  · split at he
    · rename_i ob bl hv
      cases he
      obtain ⟨cob, n, r1, r2, r3⟩ := evalA_sound (G := E.globals) o.op φ H w T a p ob bl o rfl hl hr hx hv
      rw [r1]
      obtain ⟨z1, z2⟩ := hr.add r2
      exact hK _ _ _ (r3 _ _ (upd_same _ _ _)) z1 z2
    · cases he
  · obtain ⟨nx, u, w', φ', r1, r2, r3, r4, r5⟩ := evalW_sound o.op φ H H' w T a p v o rfl hl hr hx he
    rw [r1]
    rcases r2 with rfl | ⟨rfl, rfl⟩
    · exact hK u w' φ' r3 r4 r5
    · exact hK undef w' φ' r3 r4 r5
  · split at he
    · rename_i f args hc
      obtain ⟨hen, hcall⟩ := hg f args H v H' he
      obtain ⟨argsV, r1, r2⟩ := evalC_sound (w := w) hm hl hx hc hen
      rw [r1, Oper.upon_enter]
      refine (hcall φ w argsV hr r2).mono fun e w' hpost => ?_
      obtain ⟨u, φ', rfl, r3, r4, r5⟩ := hpost
      exact hK u w' φ' r3 r4 r5
    · cases he

/-- The frame: all temporaries, room for them, nothing deferred. -/
structure FrOK (φ : Emb) (T : Tm) (a : Act) (nt : Nat) : Prop where
  fr : FR φ T a
  room : nt ≤ a.tmps.size
  defers : a.defers = []

theorem FR.mono {φ ψ : Emb} {T : Tm} {a : Act} (h : ∀ i x, φ i = some x → ψ i = some x) (hf : FR φ T a) : FR ψ T a := fun t ht => (hf t ht).mono h

theorem FrOK.put {φ : Emb} {T : Tm} {a : Act} {nt : Nat} (h : FrOK φ T a nt) {dst : Option Tmp} (hd : ∀ d, dst = some d → d < nt ∧ d ≤ 100000) {v : AV} {u : Value} (hv : VR φ v u) : FrOK φ (T.set (dst.map tpos) v) (a.put dst u) nt := by
  cases dst with
  | none => exact h
  | some d =>
    obtain ⟨h1, h2⟩ := hd d rfl
    refine ⟨fun t ht => ?_, by simp [Act.put]; exact h.room, h.defers⟩
    by_cases e : d = t
    · subst e
      have hlt : d < a.tmps.size := Nat.lt_of_lt_of_le h1 h.room
      simp only [opnd, Option.map_some, Tm.set, Tr.get_put_same, Act.put]
      simp [hlt]
      exact hv
    · have hne : tpos d ≠ tpos t := fun e2 => e (tpos_inj h2 ht e2)
      have := h.fr t ht
      simp only [opnd, Option.map_some, Tm.set, Tr.get_put_ne _ _ hne, Act.put] at this ⊢
      simpa [Array.getElem?_setIfInBounds_ne e] using this

theorem lowI_parts {nt : Nat} {ops : Array Oper} {o : Oper} {x : XI} (h : lowI P names nt ops o = some x) :
    lowOp P names o.op = some x.op ∧ lowGuard ops o = some x.guard ∧ x.dst = o.dst.map tpos ∧ ∀ d, o.dst = some d → d < nt ∧ d ≤ 100000 := by
  unfold lowI at h
  split at h
  · rename_i p g h1 h2 h3
    cases h
    refine ⟨h1, h2, rfl, fun d hd => ?_⟩
    simp only [hd, Bool.and_eq_true, Nat.ble_eq] at h3
    exact ⟨h3.1, h3.2⟩
  · cases h

/-- A guard, as the evaluator sees it. 'hr': its temporary. -/
theorem wanted_sound {φ : Emb} {T : Tm} {a : Act} {ops : Array Oper} {o : Oper} {g : Option (Pos × Bool)} (h : lowGuard ops o = some g)
    (hr : ∀ j b d, o.guard = some (j, b) → (ops[j]?).bind (·.dst) = some d → d ≤ 100000 → VR φ (opnd T (.t (tpos d))) (a.tmps.getD d undef)) {r : Bool} (hw : wantedA T g = some r) :
    Region.wanted o (yielded ops a.tmps) = r := by
  unfold lowGuard at h
  unfold Region.wanted
  split at h
  · rename_i hg
    cases h
    simp only [wantedA] at hw
    cases hw
    rw [hg]
  · rename_i j b hg
    split at h
    · rename_i d hd
      split at h
      · rename_i hle
        cases h
        have hv := hr j b d hg hd (Nat.le_of_ble_eq_true hle)
        rw [hg]
        simp only [wantedA] at hw
        simp only [opnd] at hv
        simp only [yielded, hd, Option.bind_some]
        split at hw
        · rename_i c hT
          cases hw
          rw [hT] at hv
          simp only [VR] at hv
          have : a.tmps[d]? = some (.bool c) := by
            cases ht : a.tmps[d]? with
            | none => simp [ht, undef] at hv
            | some z => simp [ht] at hv; rw [hv]
          rw [this]
          simp
        · rename_i hT
          cases hw
          rw [hT] at hv
          obtain ⟨vs, hv, hvs⟩ := hv
          cases ht : a.tmps[d]? with
          | none => simp
          | some z => simp [ht] at hv; rw [hv]; simp
        · cases hw
      · cases h
    · cases h

/-- A region in the text's order, from number k on. -/
theorem ops_wp {E : Env} {call : CallF} (hg : GoodCall P E.globals call) (hm : methsOK P names E.meths = true) {ops : Array Oper} {nt : Nat} {Q : Exit → Act → World → Prop} {H' : Hp} {T' : Tm} :
    ∀ (l : List Oper) (xs : List XI) (k : Nat), ops.toList.drop k = l → lowIs P names nt ops l = some xs → ∀ (φ : Emb) (T : Tm) (a : Act) (H : Hp) (w : World), FrOK φ T a nt → Rep P E.globals φ H w → Ev.ops call E xs T H = some (T', H') →
      (∀ a' w' φ', FrOK φ' T' a' nt → Rep P E.globals φ' H' w' → Ext φ H w φ' H' w' → Q .normal a' w') → wpOps P ops Q (List.range' k l.length) a w
  | [], xs, k, hd, hl, φ, T, a, H, w, hf, hr, he, hQ => by
    simp [lowIs] at hl
    subst hl
    simp [Ev.ops] at he
    obtain ⟨rfl, rfl⟩ := he
    exact hQ a w φ hf hr (Ext.refl φ H w)
  | o :: l, xs, k, hd, hl, φ, T, a, H, w, hf, hr, he, hQ => by
    simp only [lowIs] at hl
    split at hl
    · rename_i x m hx hm'
      cases hl
      obtain ⟨p1, p2, p3, p4⟩ := lowI_parts hx
      have hk : ops[k]? = some o := by
        have : (ops.toList.drop k)[0]? = some o := by rw [hd]; rfl
        simpa using this
      have hd' : ops.toList.drop (k + 1) = l := by
        have : ops.toList.drop (k + 1) = (ops.toList.drop k).drop 1 := by simp
        rw [this, hd]; rfl
      simp only [List.length_cons, List.range'_succ, wpOps, hk]
      simp only [Ev.ops] at he
      split at he
      · rename_i hw
        rw [wanted_sound (φ := φ) p2 (fun j b d _ _ hle => hf.fr d hle) hw, if_pos rfl]
        split at he
        · rename_i v H1 hop
          refine .inl (op_wp hg hm p1 hr (fun y _ => hf.fr.opR y) hop fun u w' φ' r1 r2 r3 => ?_)
          have hf' : FrOK φ' (T.set x.dst v) (a.put o.dst u) nt := by
            rw [p3]
            exact FrOK.put ⟨hf.fr.mono r3.mono, hf.room, hf.defers⟩ p4 r1
          exact ops_wp hg hm l m (k + 1) hd' hm' φ' _ _ H1 w' hf' r2 he fun a' w'' φ'' s1 s2 s3 => hQ a' w'' φ'' s1 s2 (r3.trans s3)
        · cases he
      · rename_i hw
        rw [wanted_sound (φ := φ) p2 (fun j b d _ _ hle => hf.fr d hle) hw, if_neg (by simp)]
        have hf' : FrOK φ (T.set x.dst AV.undef) (a.put o.dst undef) nt := by
          rw [p3]
          exact FrOK.put hf p4 (VR_undef φ)
        exact ops_wp hg hm l m (k + 1) hd' hm' φ _ _ H w hf' hr he hQ
      · cases he
    · cases hl
end
end Go.Ev
