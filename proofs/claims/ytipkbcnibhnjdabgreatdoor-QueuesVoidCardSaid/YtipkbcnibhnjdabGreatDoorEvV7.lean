/-
What leaves the heap alone gives the model's value: operators, built-in functions; all together.
-/
import Derived.Test.YtipkbcnibhnjdabGreatDoorEvV6
set_option linter.unusedVariables false
set_option linter.unusedSimpArgs false
namespace Go.Ev
section
variable {P : Program} {G : List (Nat × List AV)} {names : List String}

theorem boM_boOf {op : BinOp} {o : BO} (h : boOf op = some o) : boM o = op := (boOf_eq h).symm

theorem run_bin_exec {o : Oper} {op : BinOp} {t yt : TypeId} {x y : Operand} {a : Act} {w : World} {u : Value} (ho : o.op = .binOp op t x y yt)
    (hg : (eqGuard op t x y (a.eval x) (a.eval y)).run P w = .ok () w) (hb : (binOp op t (a.eval x) (a.eval y)).run P w = .ok u w) : (execOp a.eval o).run P w = .ok (.value u) w := by
  simp [execOp, ho, hg, hb]

theorem V_binOp (op : BinOp) (t : TypeId) (x y : Operand) (yt : TypeId) : VOk P G names (.binOp op t x y yt) := by
  intro φ H w T a p v o ho hl hr hx he
  simp only [lowOp, lowBin, Option.bind_eq_bind, Option.bind_eq_some_iff, Option.pure_def] at hl
  obtain ⟨x', hx', y', hy', hl⟩ := hl
  have vx := hx x (by simp [Op.operands]) x' hx'
  have vy := hx y (by simp [Op.operands]) y' hy'
  have arith : ∀ b, boOf op = some b → p = .bin b x' y' → ∃ u, (execOp a.eval o).run P w = .ok (.value u) w ∧ VR φ v u := by
    intro b hb hp
    subst hp
    have hop := boM_boOf hb
    simp only [evalV, binV] at he
    split at he
    · rename_i k1 n1 k2 n2 e1 e2
      rw [e1] at vx
      rw [e2] at vy
      simp only [VR] at vx vy
      split at he
      · obtain ⟨u, r1, r2⟩ := shI_sound (P := P) (φ := φ) (k' := k2) he t w
        rw [hop] at r1
        exact ⟨u, run_bin_exec ho (by rw [vx, vy]; exact eqGuard_plain (by simp) (by simp)) (by rw [vx, vy]; exact r1), r2⟩
      · split at he
        · rename_i hk
          cases kidx_inj hk
          obtain ⟨u, r1, r2⟩ := binI_sound (P := P) (φ := φ) he t w
          rw [hop] at r1
          exact ⟨u, run_bin_exec ho (by rw [vx, vy]; exact eqGuard_plain (by simp) (by simp)) (by rw [vx, vy]; exact r1), r2⟩
        · cases he
    · rename_i s1 s2 e1 e2
      rw [e1] at vx
      rw [e2] at vy
      simp only [VR] at vx vy
      obtain ⟨u, r1, r2⟩ := binS_sound (P := P) (φ := φ) he t w
      rw [hop] at r1
      exact ⟨u, run_bin_exec ho (by rw [vx, vy]; exact eqGuard_plain (by simp) (by simp)) (by rw [vx, vy]; exact r1), r2⟩
    · cases he
  have eqb : ∀ (neg : Bool) (d : EQ), op = (match neg with | false => .eql | true => .neq) → p = .eqv neg d x' y' → (∃ f, f + 1 ≤ 10000 ∧ eqDescA P f t = some d) → (P.underlying t = some .bool ∨ P.eqGuardType P.depth t = false ∧ ∃ fs, d = .st fs) →
      ∃ u, (execOp a.eval o).run P w = .ok (.value u) w ∧ VR φ v u := by
    intro neg d hop hp hd hsh
    subst hp
    obtain ⟨f, hf, hd⟩ := hd
    simp only [evalV] at he
    split at he
    · rename_i r hr2
      cases he
      have hq := eqV_soundA (P := P) (φ := φ) hd hf vx vy hr2 w
      rcases hsh with hbool | ⟨hgt, fs, rfl⟩
      · have hd2 : d = .lb := by
          cases f with
          | zero => simp [eqDescA, hbool, eqDesc] at hd
          | succ f => simp [eqDescA, eqDesc, hbool] at hd; exact hd.symm
        subst hd2
        simp only [eqV] at hr2
        match hex : opnd T x', hey : opnd T y', hr2 with
        | .bool b1, .bool b2, hr2 =>
          rw [hex] at vx
          rw [hey] at vy
          simp only [VR] at vx vy
          rw [vx, vy] at hq
          have hbin := binOp_equal (P := P) hop (t := t) (u := .bool b1) (v := .bool b2) (by simp) (by simp) (by simp) (by simp) w
          refine ⟨.bool (xor neg r), run_bin_exec ho (by rw [vx, vy]; exact eqGuard_plain (by simp) (by simp)) ?_, rfl⟩
          rw [vx, vy, hbin]
          have : (Op.equal t (.bool b1) (.bool b2)).run P w = .ok r w := hq
          rw [this]
          rfl
      · simp only [eqV] at hr2
        match hex : opnd T x', hey : opnd T y', hr2 with
        | .agg c1, .agg c2, hr2 =>
          rw [hex] at vx
          rw [hey] at vy
          obtain ⟨us, vx, _⟩ := vx
          obtain ⟨vs, vy, _⟩ := vy
          rw [vx, vy] at hq
          have hbin := binOp_equal (P := P) hop (t := t) (u := .agg us.toArray) (v := .agg vs.toArray) (by simp) (by simp) (by simp) (by simp) w
          refine ⟨.bool (xor neg r), run_bin_exec ho (by rw [vx, vy]; exact run_eqGuard_agg w op t x y _ _ hgt) ?_, rfl⟩
          rw [vx, vy, hbin]
          have : (Op.equal t (.agg us.toArray) (.agg vs.toArray)).run P w = .ok r w := hq
          rw [this]
          rfl
    · cases he
  have eqp : ∀ (kd : Nat) (neg : Bool), op = (match neg with | false => .eql | true => .neq) → p = .eqp kd neg x' y' →
      (∀ r, eqP H kd (opnd T x') (opnd T y') = some r → ∀ D, (Op.equalIn (D + 1) t (a.eval x) (a.eval y)).run P w = .ok r w) →
      ∃ u, (execOp a.eval o).run P w = .ok (.value u) w ∧ VR φ v u := by
    intro kd neg hop hp hq
    subst hp
    simp only [evalV] at he
    split at he
    · rename_i r hr2
      cases he
      have hq : (Op.equal t (a.eval x) (a.eval y)).run P w = .ok r w := hq r hr2 9999
      have shape : (∀ k n k' n', ¬ (a.eval x = .int k n ∧ a.eval y = .int k' n')) ∧ (∀ s s', ¬ (a.eval x = .string s ∧ a.eval y = .string s')) ∧ (∀ k b k' b', ¬ (a.eval x = .float k b ∧ a.eval y = .float k' b')) ∧ (∀ k b c k' b' c', ¬ (a.eval x = .complex k b c ∧ a.eval y = .complex k' b' c')) ∧ ¬ (a.eval x = .nilIface ∧ a.eval y = .nilIface) ∧ (∀ cs ds, ¬ (a.eval x = .agg cs ∧ a.eval y = .agg ds)) := by
        generalize hX : opnd T x' = X at *
        have hX2 : (∃ ad, a.eval x = .pointer ad) ∨ (∃ ad l c, a.eval x = .slice ad l c) ∨ (∃ m, a.eval x = .map m) ∨ (∃ f g h, a.eval x = .func f g h) ∨ a.eval x = .nilFunc := by
          cases X <;> (try (unfold eqP at hr2; split at hr2 <;> first | (cases hr2; done) | simp_all; done))
          case ptr => obtain ⟨b, s, n, _, h⟩ := vx; exact .inl ⟨_, h⟩
          case nilp => exact .inl ⟨_, vx⟩
          case slc => obtain ⟨b, s, n, c, d, _, h, _⟩ := vx; exact .inr (.inl ⟨_, _, _, h⟩)
          case nils => exact .inr (.inl ⟨_, _, _, vx⟩)
          case map => obtain ⟨b, s, n, _, h⟩ := vx; exact .inr (.inr (.inl ⟨_, h⟩))
          case nilm => exact .inr (.inr (.inl ⟨_, vx⟩))
          case fn => obtain ⟨f, g, h, _⟩ := vx; exact .inr (.inr (.inr (.inl ⟨_, _, _, h⟩)))
          case nilf => exact .inr (.inr (.inr (.inr vx)))
          all_goals (exfalso; unfold eqP at hr2; split at hr2 <;> simp_all)
        rcases hX2 with ⟨ad, h⟩ | ⟨ad, l, c, h⟩ | ⟨m, h⟩ | ⟨f, g, hh, h⟩ | h <;> rw [h] <;> simp
      obtain ⟨s1, s2, s3, s4, s5, s6⟩ := shape
      refine ⟨.bool (xor neg r), run_bin_exec ho (eqGuard_plain s5 s6) ?_, rfl⟩
      rw [binOp_equal (P := P) hop s1 s2 s3 s4 w, hq]
      rfl
    · cases he
  split at hl
  · simp only [Option.bind_eq_some_iff, Option.some.injEq] at hl
    obtain ⟨b, hb, rfl⟩ := hl
    exact arith b hb rfl
  · simp only [Option.bind_eq_some_iff, Option.some.injEq] at hl
    obtain ⟨b, hb, rfl⟩ := hl
    exact arith b hb rfl
  · rename_i hu
    split at hl
    · cases hl
      exact eqb false .lb rfl rfl ⟨1, by decide, by simp [eqDescA, eqDesc, hu]⟩ (.inl hu)
    · cases hl
      exact eqb true .lb rfl rfl ⟨1, by decide, by simp [eqDescA, eqDesc, hu]⟩ (.inl hu)
    · cases hl
  · rename_i fs hu
    split at hl
    · cases hl
    · rename_i hgt
      have sh : ∀ d, eqDescA P 20 t = some d → ∃ fs, d = .st fs := by
        intro d hd
        simp only [eqDescA, eqDesc, hu] at hd
        split at hd
        · cases hd
        · split at hd
          · cases hd; exact ⟨_, rfl⟩
          · cases hd
      split at hl
      · simp only [Option.bind_eq_some_iff, Option.some.injEq] at hl
        obtain ⟨d, hd, rfl⟩ := hl
        exact eqb false d rfl rfl ⟨20, by decide, hd⟩ (.inr ⟨hgt, sh d hd⟩)
      · simp only [Option.bind_eq_some_iff, Option.some.injEq] at hl
        obtain ⟨d, hd, rfl⟩ := hl
        exact eqb true d rfl rfl ⟨20, by decide, hd⟩ (.inr ⟨hgt, sh d hd⟩)
      · cases hl
  · rename_i n e hu
    have sh : ∀ d, eqDescA P 20 t = some d → ∃ fs, d = .st fs := by
      intro d hd
      simp only [eqDescA, hu] at hd
      split at hd
      · split at hd
        · cases hd; exact ⟨_, rfl⟩
        · cases hd
      · cases hd
    split at hl
    · cases hl
    · rename_i hgt
      split at hl
      · simp only [Option.bind_eq_some_iff, Option.some.injEq] at hl
        obtain ⟨d, hd, rfl⟩ := hl
        exact eqb false d rfl rfl ⟨20, by decide, hd⟩ (.inr ⟨hgt, sh d hd⟩)
      · simp only [Option.bind_eq_some_iff, Option.some.injEq] at hl
        obtain ⟨d, hd, rfl⟩ := hl
        exact eqb true d rfl rfl ⟨20, by decide, hd⟩ (.inr ⟨hgt, sh d hd⟩)
      · cases hl
  · rename_i ms hu
    have hy : a.eval (.const .nilIface) = .nilIface := rfl
    have isn : ∀ neg : Bool, op = (match neg with | false => .eql | true => .neq) → p = .isn neg x' → y = .const .nilIface → ∃ u, (execOp a.eval o).run P w = .ok (.value u) w ∧ VR φ v u := by
      intro neg hop hp hyy
      subst hp
      subst hyy
      simp only [evalV] at he
      split at he
      · rename_i e
        rw [e] at vx
        simp only [VR] at vx
        cases he
        refine ⟨.bool (xor neg true), run_bin_exec ho ?_ ?_, rfl⟩
        · rw [vx, hy]
          cases neg <;> simp only [] at hop <;> subst hop <;> simp [eqGuard]
        · have hq : ∀ D : Nat, (Op.equalIn (D + 1) t .nilIface .nilIface).run P w = .ok true w := fun D => by simp [Op.equalIn, run_underlying hu]
          have hq' : (Op.equal t .nilIface .nilIface).run P w = .ok true w := hq 9999
          rw [vx, hy, binOp_equal (P := P) hop (by simp) (by simp) (by simp) (by simp) w, hq']
          rfl
      · rename_i tt uu e
        rw [e] at vx
        obtain ⟨u, vx, _⟩ := vx
        cases he
        refine ⟨.bool (xor neg false), run_bin_exec ho ?_ ?_, rfl⟩
        · rw [vx, hy]
          exact eqGuard_plain (by simp) (by simp)
        · have hq : ∀ D : Nat, (Op.equalIn (D + 1) t (.iface tt u) .nilIface).run P w = .ok false w := fun D => by simp [Op.equalIn, run_underlying hu]
          have hq' : (Op.equal t (.iface tt u) .nilIface).run P w = .ok false w := hq 9999
          rw [vx, hy, binOp_equal (P := P) hop (by simp) (by simp) (by simp) (by simp) w, hq']
          rfl
      · cases he
    split at hl
    · cases hl
      exact isn false rfl rfl rfl
    · cases hl
      exact isn true rfl rfl rfl
    · cases hl
  · rename_i e hu
    split at hl
    · rename_i hsz
      cases hl
      split at hsz
      · cases hsz
      · rename_i n hn hs
        exact eqp 0 false rfl rfl fun r h => equal_ptr hr vx vy hu hs (by intro e; subst e; exact hn rfl) h
      · cases hsz
    · rename_i hsz
      cases hl
      split at hsz
      · cases hsz
      · rename_i n hn hs
        exact eqp 0 true rfl rfl fun r h => equal_ptr hr vx vy hu hs (by intro e; subst e; exact hn rfl) h
      · cases hsz
    · cases hl
  · rename_i e hu
    split at hl
    · cases hl; exact eqp 1 false rfl rfl fun r h => equal_slc vx vy hu h
    · cases hl; exact eqp 1 true rfl rfl fun r h => equal_slc vx vy hu h
    · cases hl
  · rename_i k e hu
    split at hl
    · cases hl; exact eqp 2 false rfl rfl fun r h => equal_map vx vy hu h
    · cases hl; exact eqp 2 true rfl rfl fun r h => equal_map vx vy hu h
    · cases hl
  · rename_i ps rs va hu
    split at hl
    · cases hl; exact eqp 3 false rfl rfl fun r h => equal_fn vx vy hu h
    · cases hl; exact eqp 3 true rfl rfl fun r h => equal_fn vx vy hu h
    · cases hl
  · cases hl

theorem run_builtin_exec {o : Oper} {b : Builtin} {args : Array Operand} {ts : Array TypeId} {a : Act} {w w' : World} {n : Next} (ho : o.op = .call { callee := .builtin b, args := args, argTypes := ts })
    (hb : (builtin b ts o.type (args.map fun | .const _ => true | _ => false) (args.map a.eval)).run P w = .ok n w') : (execOp a.eval o).run P w = .ok n w' := by
  simp only [execOp, ho, resolve, Sem.run_bind, Sem.run_pure, Result.andThen_ok, invoke]
  exact hb

theorem lowXs_cons {o : Operand} {os : List Operand} {xs : List XO} (h : lowXs (o :: os) = some xs) : ∃ y ys, lowX o = some y ∧ lowXs os = some ys ∧ xs = y :: ys := by
  simp only [lowXs] at h
  split at h
  · rename_i y m hy hm
    cases h
    exact ⟨y, m, hy, hm, rfl⟩
  · cases h
theorem lowXs_one {os : List Operand} {x : XO} (h : lowXs os = some [x]) : ∃ o, os = [o] ∧ lowX o = some x := by
  cases os with
  | nil => simp [lowXs] at h
  | cons o os =>
    obtain ⟨y, ys, h1, h2, h3⟩ := lowXs_cons h
    cases h3
    cases os with
    | nil => exact ⟨o, rfl, h1⟩
    | cons o' os => obtain ⟨_, _, _, _, h4⟩ := lowXs_cons h2; cases h4
theorem lowXs_two {os : List Operand} {x y : XO} (h : lowXs os = some [x, y]) : ∃ o o', os = [o, o'] ∧ lowX o = some x ∧ lowX o' = some y := by
  cases os with
  | nil => simp [lowXs] at h
  | cons o os =>
    obtain ⟨z, zs, h1, h2, h3⟩ := lowXs_cons h
    cases h3
    obtain ⟨o', h4, h5⟩ := lowXs_one h2
    exact ⟨o, o', by rw [h4], h1, h5⟩

theorem V_call (c : Call) : VOk P G names (.call c) := by
  intro φ H w T a p v o ho hl hr hx he
  obtain ⟨callee, args, ts⟩ := c
  simp only [lowOp, lowCall, Option.bind_eq_bind, Option.bind_eq_some_iff, Option.pure_def] at hl
  obtain ⟨xs, hxs, hl⟩ := hl
  cases callee with
  | value f =>
    exfalso
    cases f with
    | func f =>
      simp only [] at hl
      split at hl
      · split at hl
        · cases hl; simp [evalV] at he
        · cases hl
      · cases hl
    | _ =>
      simp only [Option.bind_eq_some_iff, Option.some.injEq] at hl
      obtain ⟨y, _, rfl⟩ := hl
      simp [evalV] at he
  | invoke r m =>
    exfalso
    simp only [Option.bind_eq_some_iff, Option.some.injEq] at hl
    obtain ⟨y, _, z, _, rfl⟩ := hl
    simp [evalV] at he
  | builtin b =>
    simp only [] at hl
    split at hl
    · rename_i x t hts
      obtain ⟨o1, ho1, hx1⟩ := lowXs_one hxs
      have hargs : args = #[o1] := by apply Array.ext'; simpa using ho1
      have hts2 : ts = #[t] := by apply Array.ext'; simpa using hts
      subst hargs
      subst hts2
      have vx := hx o1 (by simp [Op.operands, Call.operands]) x hx1
      split at hl
      · rename_i e hu
        cases hl
        simp only [evalV] at he
        split at he
        · rename_i e1
          rw [e1] at vx; simp only [VR] at vx
          cases he
          exact ⟨.int .i64 0, run_builtin_exec ho (by simp [builtin, Builtin.len_, run_underlying hu, vx, goInt]), rfl⟩
        · rename_i i1 off1 len cap1 sz1 e1
          rw [e1] at vx; obtain ⟨b, s, n, c, d, _, vx, _⟩ := vx
          cases he
          exact ⟨.int .i64 len, run_builtin_exec ho (by simp [builtin, Builtin.len_, run_underlying hu, vx, goInt]), rfl⟩
        · cases he
      · rename_i hu
        cases hl
        simp only [evalV] at he
        split at he
        · rename_i s e1
          rw [e1] at vx; simp only [VR] at vx
          cases he
          have hsz : (⟨s.toArray⟩ : ByteArray).size = s.length := by show s.toArray.size = _; simp
          exact ⟨.int .i64 s.length, run_builtin_exec ho (by simp [builtin, Builtin.len_, run_underlying hu, vx, goInt, hsz]), rfl⟩
        · cases he
      · rename_i k e hu
        cases hl
        simp only [evalV] at he
        split at he
        · rename_i e1
          rw [e1] at vx; simp only [VR] at vx
          cases he
          exact ⟨.int .i64 0, run_builtin_exec ho (by simp [builtin, Builtin.len_, run_underlying hu, vx, goInt]), rfl⟩
        · rename_i i2 e1
          rw [e1] at vx
          obtain ⟨b, s0, n0, h1, vx⟩ := vx
          split at he
          · rename_i es clock hg
            cases he
            obtain ⟨b', s', n', q1, _, co, q2, q3⟩ := hr.obj i2 _ hg
            rw [h1] at q1
            cases q1
            obtain ⟨l, rfl, hers⟩ := q3
            have hlen : ∀ {es : List (AV × AV × Nat)} {l : List MapEntry}, ERs φ es l → l.length = es.length := fun {es} => by
              induction es with
              | nil => intro l h; simp [ERs] at h; simp [h]
              | cons x es ih => obtain ⟨k, v, b⟩ := x; intro l h; obtain ⟨e, es', rfl, _, _, _, h⟩ := h; simp [ih h]
            refine ⟨.int .i64 (l.length : Int), run_builtin_exec ho (by simp [builtin, Builtin.len_, run_underlying hu, vx, goInt, getObj, Sem.run, q2]), ?_⟩
            rw [hlen hers]
            rfl
          · cases he
        · cases he
      · rename_i n e hu
        cases hl
        simp only [evalV, opnd] at he
        cases he
        exact ⟨.int .i64 n, run_builtin_exec ho (by simp [builtin, Builtin.len_, run_underlying hu, goInt]), rfl⟩
      · cases hl
    · rename_i x t hts
      obtain ⟨o1, ho1, hx1⟩ := lowXs_one hxs
      have hargs : args = #[o1] := by apply Array.ext'; simpa using ho1
      have hts2 : ts = #[t] := by apply Array.ext'; simpa using hts
      subst hargs
      subst hts2
      have vx := hx o1 (by simp [Op.operands, Call.operands]) x hx1
      split at hl
      · rename_i e hu
        cases hl
        simp only [evalV] at he
        split at he
        · rename_i e1
          rw [e1] at vx; simp only [VR] at vx
          cases he
          exact ⟨.int .i64 0, run_builtin_exec ho (by simp [builtin, Builtin.cap_, run_underlying hu, vx, goInt]), rfl⟩
        · rename_i e1
          rw [e1] at vx; obtain ⟨b, s, n, c, d, _, vx, _, _, _, hc⟩ := vx
          cases he
          have := hc _ rfl
          subst this
          exact ⟨.int .i64 c, run_builtin_exec ho (by simp [builtin, Builtin.cap_, run_underlying hu, vx, goInt]), rfl⟩
        · cases he
      · cases hl
    · exfalso
      split at hl
      · split at hl
        · split at hl
          · split at hl
            · cases hl; simp [evalV] at he
            · cases hl
          · cases hl
        · cases hl
      · cases hl
    · exfalso
      split at hl
      · simp only [Option.bind_eq_some_iff, Option.some.injEq] at hl
        obtain ⟨_, _, rfl⟩ := hl
        simp [evalV] at he
      · cases hl
    · cases hl
      obtain ⟨o1, o2, ho1, hx1, hx2⟩ := lowXs_two hxs
      have hargs : args = #[o1, o2] := by apply Array.ext'; simpa using ho1
      subst hargs
      have vx := hx o1 (by simp [Op.operands, Call.operands]) _ hx1
      have vy := hx o2 (by simp [Op.operands, Call.operands]) _ hx2
      simp only [evalV] at he
      split at he
      · rename_i k n1 k2 n2 e1 e2
        rw [e1] at vx; rw [e2] at vy
        simp only [VR] at vx vy
        cases he
        refine ⟨.int k (if n2 < n1 then n2 else n1), run_builtin_exec ho (by simp [builtin, Builtin.min_, Builtin.min2, vx, vy]), ?_⟩
        rw [ltI_eq]
        by_cases hlt : n2 < n1 <;> simp [hlt, VR]
      · cases he
    · cases hl
      obtain ⟨o1, o2, ho1, hx1, hx2⟩ := lowXs_two hxs
      have hargs : args = #[o1, o2] := by apply Array.ext'; simpa using ho1
      subst hargs
      have vx := hx o1 (by simp [Op.operands, Call.operands]) _ hx1
      have vy := hx o2 (by simp [Op.operands, Call.operands]) _ hx2
      simp only [evalV] at he
      split at he
      · rename_i k n1 k2 n2 e1 e2
        rw [e1] at vx; rw [e2] at vy
        simp only [VR] at vx vy
        cases he
        refine ⟨.int k (if n2 > n1 then n2 else n1), run_builtin_exec ho (by simp [builtin, Builtin.max_, Builtin.max2, vx, vy]), ?_⟩
        rw [ltI_eq]
        by_cases hlt : n1 < n2 <;> simp [hlt, VR]
      · cases he
    · cases hl

/-- All of it. -/
theorem evalV_sound (op : Op) : VOk P G names op := by
  cases op
  case move x => exact V_move x
  case assign x => exact V_assign x
  case pick c x y => exact V_pick c x y
  case build t ps => exact V_build t ps
  case load t x => exact V_load t x
  case nilCheck x => exact V_nilCheck x
  case binOp op t x y yt => exact V_binOp op t x y yt
  case unOp op t x => exact V_unOp op t x
  case convert s d x => exact V_convert s d x
  case makeInterface t x => exact V_makeInterface t x
  case makeFunc fn f c => exact V_makeFunc fn f c
  case slice t x lo hi mx => exact V_slice t x lo hi mx
  case fieldAddr s x f => exact V_fieldAddr s x f
  case field t x f => exact V_field t x f
  case indexAddr t x i => exact V_indexAddr t x i
  case index t x i => exact V_index t x i
  case lookup t x k ok => exact V_lookup t x k ok
  case typeAssert x xt t ok => exact V_typeAssert x xt t ok
  case extract x n => exact V_extract x n
  case call c => exact V_call c
  all_goals
    intro φ H w T a p v o ho hl hr hx he
    exfalso
    clear hx ho hr
    simp only [lowOp, Option.bind_eq_bind, Option.pure_def] at hl
    repeat' (first | (rw [Option.bind_eq_some_iff] at hl; obtain ⟨_, _, hl⟩ := hl) | split at hl)
    all_goals first
      | (cases hl; done)
      | (cases hl; simp [evalV] at he; done)
end
end Go.Ev
