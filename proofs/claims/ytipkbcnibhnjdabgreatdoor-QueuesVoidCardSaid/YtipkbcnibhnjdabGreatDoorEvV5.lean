/-
What leaves the heap alone gives the model's value.
-/
import Derived.Test.YtipkbcnibhnjdabGreatDoorEvV4
set_option linter.unusedVariables false
set_option linter.unusedSimpArgs false
namespace Go.Ev
section
variable {P : Program} {G : List (Nat × List AV)} {φ : Emb} {H : Hp} {w : World} {T : Tm} {a : Act}

theorem eqGuard_plain {op : BinOp} {t : TypeId} {x y : Operand} {u v : Value} (h1 : ¬ (u = .nilIface ∧ v = .nilIface)) (h2 : ∀ cs ds, ¬ (u = .agg cs ∧ v = .agg ds)) :
    (eqGuard op t x y u v).run P w = .ok () w := by
  cases op
  case eql =>
    unfold eqGuard
    simp only [Bool.not_true, Bool.false_eq_true, if_false]
    split
    · exact absurd ⟨rfl, rfl⟩ h1
    · exact absurd ⟨rfl, rfl⟩ (h2 _ _)
    · simp
  case neq =>
    unfold eqGuard
    simp only [Bool.not_true, Bool.false_eq_true, if_false]
    split
    · exact absurd ⟨rfl, rfl⟩ h1
    · exact absurd ⟨rfl, rfl⟩ (h2 _ _)
    · simp
  all_goals simp [eqGuard]

/-- A comparison by 'Op.equal', negated or not. -/
theorem eq_bin {op : BinOp} {neg : Bool} (hop : op = (match neg with | false => .eql | true => .neq)) {t : TypeId} {x y : Operand} {u v : Value} {r : Bool}
    (hg : (eqGuard op t x y u v).run P w = .ok () w) (he : (Op.equal t u v).run P w = .ok r w)
    (hb : ∀ w, (binOp op t u v).run P w = ((Op.equal t u v).run P w).andThen fun b w' => .ok (.bool (xor neg b)) w') :
    (do eqGuard op t x y u v; binOp op t u v : Sem Value).run P w = .ok (.bool (xor neg r)) w := by
  simp only [Sem.run_bind, hg, Result.andThen_ok, hb, he]

theorem binOp_equal {op : BinOp} {neg : Bool} (hop : op = (match neg with | false => .eql | true => .neq)) {t : TypeId} {u v : Value}
    (hi : ∀ k n k' n', ¬ (u = .int k n ∧ v = .int k' n')) (hs : ∀ s s', ¬ (u = .string s ∧ v = .string s')) (hf : ∀ k b k' b', ¬ (u = .float k b ∧ v = .float k' b')) (hc : ∀ k b c k' b' c', ¬ (u = .complex k b c ∧ v = .complex k' b' c')) (w : World) :
    (binOp op t u v).run P w = ((Op.equal t u v).run P w).andThen fun b w' => .ok (.bool (xor neg b)) w' := by
  cases neg <;> simp only [] at hop <;> subst hop
  · have : binOp .eql t u v = (do pure (.bool (← Op.equal t u v)) : Sem Value) := by
      unfold binOp
      split <;> first | rfl | (exfalso; first | exact hi _ _ _ _ ⟨rfl, rfl⟩ | exact hs _ _ ⟨rfl, rfl⟩ | exact hf _ _ _ _ ⟨rfl, rfl⟩ | exact hc _ _ _ _ _ _ ⟨rfl, rfl⟩) | simp_all
    rw [this]
    simp
  · have : binOp .neq t u v = (do pure (.bool (!(← Op.equal t u v))) : Sem Value) := by
      unfold binOp
      split <;> first | rfl | (exfalso; first | exact hi _ _ _ _ ⟨rfl, rfl⟩ | exact hs _ _ ⟨rfl, rfl⟩ | exact hf _ _ _ _ ⟨rfl, rfl⟩ | exact hc _ _ _ _ _ _ ⟨rfl, rfl⟩) | simp_all
    rw [this]
    simp

theorem takeA_part {t : TypeId} {dd : TypeDesc} {off n : Nat} (hs : size? P t = some n) (hu : P.underlying t = some dd) {cs : List AV} {vs : List Value} (hv : VRs φ cs vs) {v : AV}
    (h : takeA (agg? P t) cs off n = some v) (w : World) : ∃ u, (part t vs.toArray off).run P w = .ok u w ∧ VR φ v u := by
  unfold takeA at h
  split at h
  · rename_i hag
    split at h
    · rename_i l hl
      cases h
      obtain ⟨u, us, h1, h2, h3⟩ := part_sound hs (by rw [hag]; rfl) hu hv hl w
      unfold AsC at h3
      rw [hag] at h3
      simp only [] at h3
      subst h3
      exact ⟨_, h1, us, rfl, h2⟩
    · cases h
  · rename_i hag
    obtain ⟨u, h1, h2⟩ := hv.at h
    refine ⟨u, ?_, h2⟩
    simp only [part, Sem.run_bind, agg?_false hu hag, Result.andThen_ok, Bool.false_eq_true, if_false]
    simp [h1]

theorem zero?_sound {t : TypeId} {z : List AV} (h : zero? P t = some z) : ∃ i zv, P.info? t = some i ∧ i.zero = some zv ∧ VRs φ z zv.cells.toList := by
  unfold zero? at h
  split at h
  · rename_i i hi
    split at h
    · rename_i zv hz
      exact ⟨i, zv, hi, hz, liftL_sound φ _ _ _ h⟩
    · cases h
  · cases h
theorem zeroV?_sound {t : TypeId} {z : AV} (h : zeroV? P t = some z) : ∃ i zv, P.info? t = some i ∧ i.zero = some zv ∧ VR φ z zv := by
  unfold zeroV? at h
  split at h
  · rename_i i hi
    split at h
    · rename_i zv hz
      exact ⟨i, zv, hi, hz, liftV_sound φ _ _ _ h⟩
    · cases h
  · cases h

theorem lowO_sound {x : Option Operand} {y : Option XO} (h : lowO x = some y) (hx : ∀ o, x = some o → OpR φ T a o) : OpO φ (y.map (opnd T)) (x.map a.eval) := by
  cases x with
  | none => simp [lowO] at h; subst h; trivial
  | some o =>
    simp only [lowO] at h
    split at h
    · rename_i z hz
      cases h
      exact hx o rfl z hz
    · cases h

/-- The statement for one kind of operation. -/
def VOk (P : Program) (G : List (Nat × List AV)) (names : List String) (op : Op) : Prop :=
  ∀ (φ : Emb) (H : Hp) (w : World) (T : Tm) (a : Act) (p : XP) (v : AV) (o : Oper), o.op = op → lowOp P names op = some p → Rep P G φ H w → (∀ x ∈ op.operands, OpR φ T a x) → evalV G T H p = some v →
    ∃ u, (execOp a.eval o).run P w = .ok (.value u) w ∧ VR φ v u

variable {names : List String}

theorem V_move (x : Operand) : VOk P G names (.move x) := by
  intro φ H w T a p v o ho hl hr hx he
  simp only [lowOp, Option.bind_eq_bind, Option.bind_eq_some_iff, Option.pure_def, Option.some.injEq] at hl
  obtain ⟨y, hy, rfl⟩ := hl
  simp only [evalV] at he
  cases he
  exact ⟨a.eval x, by simp [execOp, ho], hx x (by simp [Op.operands]) y hy⟩
theorem V_assign (x : Operand) : VOk P G names (.assign x) := by
  intro φ H w T a p v o ho hl hr hx he
  simp only [lowOp, Option.bind_eq_bind, Option.bind_eq_some_iff, Option.pure_def, Option.some.injEq] at hl
  obtain ⟨y, hy, rfl⟩ := hl
  simp only [evalV] at he
  cases he
  exact ⟨a.eval x, by simp [execOp, ho], hx x (by simp [Op.operands]) y hy⟩
theorem V_pick (c x y : Operand) : VOk P G names (.pick c x y) := by
  intro φ H w T a p v o ho hl hr hx he
  simp only [lowOp, Option.bind_eq_bind, Option.bind_eq_some_iff, Option.pure_def, Option.some.injEq] at hl
  obtain ⟨c', hc, x', hx', y', hy', rfl⟩ := hl
  simp only [evalV] at he
  have vc := hx c (by simp [Op.operands]) c' hc
  split at he
  · rename_i e
    rw [e] at vc
    cases he
    simp only [VR] at vc
    exact ⟨a.eval x, by simp [execOp, ho, vc, asBool], hx x (by simp [Op.operands]) x' hx'⟩
  · rename_i e
    rw [e] at vc
    cases he
    simp only [VR] at vc
    exact ⟨a.eval y, by simp [execOp, ho, vc, asBool], hx y (by simp [Op.operands]) y' hy'⟩
  · cases he
theorem V_nilCheck (x : Operand) : VOk P G names (.nilCheck x) := by
  intro φ H w T a p v o ho hl hr hx he
  simp only [lowOp, Option.bind_eq_bind, Option.bind_eq_some_iff, Option.pure_def, Option.some.injEq] at hl
  obtain ⟨x', hx', rfl⟩ := hl
  simp only [evalV] at he
  have vx := hx x (by simp [Op.operands]) x' hx'
  split at he <;> try (cases he; done)
  · rename_i e
    rw [e] at vx
    cases he
    obtain ⟨b, s, n, h1, h2⟩ := vx
    exact ⟨_, by simp [execOp, ho, h2], b, s, n, h1, rfl⟩
  · rename_i e
    rw [e] at vx
    cases he
    simp only [VR] at vx
    exact ⟨_, by simp [execOp, ho, vx], rfl⟩
  · rename_i e
    rw [e] at vx
    cases he
    obtain ⟨fs, cs, h1, h2⟩ := vx
    exact ⟨_, by simp [execOp, ho, h1], fs, cs, rfl, h2⟩
  · rename_i e
    rw [e] at vx
    cases he
    obtain ⟨u, h1, h2⟩ := vx
    exact ⟨_, by simp [execOp, ho, h1], u, rfl, h2⟩
theorem hasU_some {t : TypeId} (h : hasU P t = some ()) : ∃ dd, P.underlying t = some dd := by
  unfold hasU at h
  split at h
  · exact ⟨_, by assumption⟩
  · cases h
theorem V_load (t : TypeId) (x : Operand) : VOk P G names (.load t x) := by
  intro φ H w T a p v o ho hl hr hx he
  simp only [lowOp, Option.bind_eq_bind, Option.bind_eq_some_iff, Option.pure_def] at hl
  obtain ⟨x', hx', _, hU, hl⟩ := hl
  obtain ⟨dd, hu⟩ := hasU_some hU
  have vx := hx x (by simp [Op.operands]) x' hx'
  split at hl
  · rename_i hag
    simp only [Option.bind_eq_some_iff, Option.some.injEq] at hl
    obtain ⟨n, hn, rfl⟩ := hl
    simp only [evalV] at he
    split at he
    · rename_i cs off hc
      split at he
      · rename_i l hl
        cases he
        obtain ⟨b, k, hv, hcell⟩ := cellsAt_sound hr vx hc
        obtain ⟨us, h1, h2, h3⟩ := run_load_cells (P := P) hcell hl
        refine ⟨.agg us.toArray, ?_, us, rfl, h2⟩
        simp [execOp, ho, hv, Instr.loadAt, Instr.sureAddr, loadVar, agg?_true hag, size?_run hn, h1]
      · cases he
    · cases he
  · rename_i hag
    cases hl
    simp only [evalV] at he
    split at he
    · rename_i cs off hc
      obtain ⟨b, k, hv, hcell⟩ := cellsAt_sound hr vx hc
      obtain ⟨u, h1, h2⟩ := hcell 0 v (by simpa using he)
      refine ⟨u, ?_, h2⟩
      simp at h1
      simp [execOp, ho, hv, Instr.loadAt, Instr.sureAddr, loadVar, agg?_false hu hag, h1]
    · cases he

theorem V_build (t : TypeId) (ps : Array (Nat × Operand)) : VOk P G names (.build t ps) := by
  intro φ H w T a p v o ho hl hr hx he
  simp only [lowOp, Option.bind_eq_bind, Option.bind_eq_some_iff, Option.pure_def] at hl
  obtain ⟨z, hz, hl⟩ := hl
  obtain ⟨i, zv, hi, hzv, hzr⟩ := zero?_sound (φ := φ) hz
  have hxs : ∀ x ∈ ps.toList, OpR φ T a x.2 := fun x hxm => hx x.2 (by simp [Op.operands]; exact ⟨x.1, by simpa using hxm⟩)
  have fin : ∀ (place : Nat → Option (Nat × Nat)) (qs : List (Nat × Nat × XO)), lowParts place ps.toList = some qs → p = .bd z qs →
      (∀ cells, Instr.fill place zv.cells (ps.toList.map fun x => (x.1, a.eval x.2)) = some cells → P.built t (ps.toList.map fun x => (x.1, a.eval x.2)) = some cells) →
      ∃ u, (execOp a.eval o).run P w = .ok (.value u) w ∧ VR φ v u := by
    intro place qs hq hp hb
    subst hp
    simp only [evalV] at he
    split at he
    · rename_i cs hf
      cases he
      obtain ⟨arr, r1, r2⟩ := fill_sound hq hxs hzr hf
      refine ⟨.agg arr, ?_, arr.toList, by simp, r2⟩
      have hbuild := run_build w t (ps.map fun x => (x.1, a.eval x.2)) arr (by simpa using hb arr r1)
      simp only [execOp, ho, Sem.run_bind]
      have e : (ps.map fun x => match x with | (i, x) => (i, a.eval x)) = ps.map fun x => (x.1, a.eval x.2) := rfl
      rw [e, hbuild]
      simp
    · cases he
  split at hl
  · rename_i fs hu
    split at hl
    · rename_i places hp
      simp only [Option.bind_eq_some_iff, Option.some.injEq] at hl
      obtain ⟨qs, hq, rfl⟩ := hl
      refine fin _ qs hq rfl fun cells hc => ?_
      simp only [Program.built, hi, hu, hzv, hp]
      simpa using hc
    · cases hl
  · rename_i n e hu
    simp only [Option.bind_eq_some_iff, Option.some.injEq] at hl
    obtain ⟨m, hm, qs, hq, rfl⟩ := hl
    refine fin _ qs hq rfl fun cells hc => ?_
    simp only [size?, Option.map_eq_some_iff] at hm
    obtain ⟨ie, hie, rfl⟩ := hm
    simp only [Program.built, hi, hu, hzv, hie]
    exact hc
  · cases hl

theorem V_unOp (op : UnOp) (t : TypeId) (x : Operand) : VOk P G names (.unOp op t x) := by
  intro φ H w T a p v o ho hl hr hx he
  simp only [lowOp, Option.bind_eq_bind, Option.bind_eq_some_iff, Option.pure_def] at hl
  obtain ⟨x', hx', hl⟩ := hl
  have vx := hx x (by simp [Op.operands]) x' hx'
  split at hl
  · cases hl
    simp only [evalV] at he
    split at he
    · rename_i e
      rw [e] at vx
      cases he
      simp only [VR] at vx
      exact ⟨_, by simp [execOp, ho, vx, Op.unary], rfl⟩
    · cases he
  · cases hl
    simp only [evalV] at he
    split at he
    · rename_i k n e
      rw [e] at vx
      cases he
      simp only [VR] at vx
      exact ⟨.int k (k.wrap (0 - n)), by simp [execOp, ho, vx, Op.unary, Op.intArith], by rw [wrapF_eq]; rfl⟩
    · cases he
  · cases hl

theorem V_convert (s d : TypeId) (x : Operand) : VOk P G names (.convert s d x) := by
  intro φ H w T a p v o ho hl hr hx he
  simp only [lowOp, Option.bind_eq_bind, Option.bind_eq_some_iff, Option.pure_def] at hl
  obtain ⟨x', hx', hl⟩ := hl
  have vx := hx x (by simp [Op.operands]) x' hx'
  split at hl
  · rename_i k1 k hs hd
    cases hl
    simp only [evalV] at he
    split at he
    · rename_i kk n e
      rw [e] at vx
      cases he
      simp only [VR] at vx
      exact ⟨.int k (k.wrap n), by simp [execOp, ho, vx, convert, run_underlying hs, run_underlying hd, Conv.intToInt], by rw [wrapF_eq]; rfl⟩
    · cases he
  · cases hl

theorem V_makeInterface (t : TypeId) (x : Operand) : VOk P G names (.makeInterface t x) := by
  intro φ H w T a p v o ho hl hr hx he
  simp only [lowOp, Option.bind_eq_bind, Option.bind_eq_some_iff, Option.pure_def] at hl
  obtain ⟨x', hx', hl⟩ := hl
  have vx := hx x (by simp [Op.operands]) x' hx'
  cases hu : P.underlying t with
  | none => simp only [hu] at hl; cases hl
  | some d =>
    simp only [hu] at hl
    cases d <;> first
      | (cases hl; done)
      | (cases hl
         simp only [evalV] at he
         cases he
         exact ⟨.iface t (a.eval x), by simp [execOp, ho, Instr.makeInterface, run_underlying hu], _, rfl, vx⟩)

theorem V_makeFunc (fn : Fn) (first captured : Array Operand) : VOk P G names (.makeFunc fn first captured) := by
  intro φ H w T a p v o ho hl hr hx he
  cases fn <;> try (simp [lowOp] at hl; done)
  case func f =>
    simp only [lowOp, Option.bind_eq_bind, Option.bind_eq_some_iff, Option.pure_def] at hl
    split at hl
    · rename_i hf
      simp only [Option.bind_eq_some_iff, Option.some.injEq] at hl
      obtain ⟨xs, h1, ys, h2, rfl⟩ := hl
      simp only [evalV] at he
      cases he
      have r1 := lowXs_sound (φ := φ) (T := T) (a := a) h1 fun x hxm => hx x (by simp [Op.operands]; left; simpa using hxm)
      have r2 := lowXs_sound (φ := φ) (T := T) (a := a) h2 fun x hxm => hx x (by simp [Op.operands]; right; simpa using hxm)
      refine ⟨.func (.func f) (first.map a.eval) (captured.map a.eval), by simp [execOp, ho, Instr.makeFunc], _, _, ?_, r1, r2⟩
      rw [tpos_toNat (Nat.le_of_ble_eq_true hf)]
      simp only [Nat.add_sub_cancel, Value.func.injEq, true_and]
      constructor <;> (apply Array.ext'; simp)
    · cases hl

theorem V_slice (t : TypeId) (x : Operand) (lo hi mx : Option Operand) : VOk P G names (.slice t x lo hi mx) := by
  intro φ H w T a p v o ho hl hr hx he
  simp only [lowOp, Option.bind_eq_bind, Option.bind_eq_some_iff, Option.pure_def] at hl
  split at hl
  · rename_i e hu
    simp only [Option.bind_eq_some_iff, Option.some.injEq] at hl
    obtain ⟨n, hn, x', hx', lo', hlo, hi', hhi, mx', hmx, rfl⟩ := hl
    have vx := hx x (by simp [Op.operands]) x' hx'
    have vlo := lowO_sound (φ := φ) (T := T) (a := a) hlo fun o ho => hx o (by simp [Op.operands, ho])
    have vhi := lowO_sound (φ := φ) (T := T) (a := a) hhi fun o ho => hx o (by simp [Op.operands, ho])
    have vmx := lowO_sound (φ := φ) (T := T) (a := a) hmx fun o ho => hx o (by simp [Op.operands, ho])
    simp only [evalV] at he
    split at he
    · rename_i i off len cap sz' ex
      split at he
      · rename_i hz
        cases Nat.eq_of_beq_eq_true hz
        rw [ex] at vx
        obtain ⟨b, s, m, c, d, h1, h2, h3, h4, h5, h6⟩ := vx
        obtain ⟨l, hh, mm, r1, r2⟩ := sliceA_sound (P := P) (w := w) h1 h3 h4 h5 h6 vlo vhi vmx he true
        refine ⟨_, ?_, r2⟩
        have hs : (Instr.sliceAt t (a.eval x) (lo.map a.eval) (hi.map a.eval) (mx.map a.eval)).run P w = .ok (.slice (some (if mm = l then ⟨b, s + d, none⟩ else (⟨b, s + d, none⟩ : Addr).add (l * n))) (hh - l) (mm - l)) w := by
          simp only [Instr.sliceAt, Sem.run_bind, run_underlying hu, Result.andThen_ok, Instr.slice, h2, r1, size?_run hn, Sem.run_pure]
          split <;> simp
        simp only [execOp, ho, Sem.run_bind, hs, Result.andThen_ok, Sem.run_pure]
      · cases he
    · cases he
  · cases hl
end
end Go.Ev
