/-
What leaves the heap alone gives the model's value: addresses, fields, elements, maps, tests of types, comparisons.
-/
import Derived.Test.YtipkbcnibhnjdabGreatDoorEvV5
import Derived.Laws.Strings
set_option linter.unusedVariables false
set_option linter.unusedSimpArgs false
namespace Go.Ev
section
variable {P : Program} {G : List (Nat × List AV)} {names : List String}

theorem V_fieldAddr (s : TypeId) (x : Operand) (f : Nat) : VOk P G names (.fieldAddr s x f) := by
  intro φ H w T a p v o ho hl hr hx he
  simp only [lowOp, Option.bind_eq_bind, Option.bind_eq_some_iff, Option.pure_def] at hl
  split at hl
  · rename_i fs hu
    simp only [Option.bind_eq_some_iff] at hl
    obtain ⟨fd, hfd, n, hn, hl⟩ := hl
    split at hl
    · cases hl
    · rename_i hz
      simp only [Option.bind_eq_some_iff, Option.some.injEq] at hl
      obtain ⟨x', hx', rfl⟩ := hl
      have vx := hx x (by simp [Op.operands]) x' hx'
      have hn0 : n ≠ 0 := by simpa using hz
      have place : ∀ b k, (fieldPlace ⟨b, k, none⟩ fd).run P w = .ok ⟨b, k + fd.offset, none⟩ w := fun b k => by
        simp [fieldPlace, size?_run hn, hn0, add_mk]
      simp only [evalV] at he
      split at he
      · rename_i i k e
        rw [e] at vx
        cases he
        obtain ⟨b, s0, m, h1, h2⟩ := vx
        refine ⟨.pointer (some ⟨b, s0 + k + fd.offset, none⟩), ?_, b, s0, m, h1, by rw [Nat.add_assoc]⟩
        simp [execOp, ho, Instr.fieldAt, run_underlying hu, hfd, h2, Instr.sureAddr, place]
      · rename_i g k e
        rw [e] at vx
        cases he
        simp only [VR] at vx
        refine ⟨.pointer (some ⟨g, k + fd.offset, none⟩), ?_, rfl⟩
        simp [execOp, ho, Instr.fieldAt, run_underlying hu, hfd, vx, Instr.sureAddr, place]
      · cases he
  · cases hl

theorem V_field (t : TypeId) (x : Operand) (f : Nat) : VOk P G names (.field t x f) := by
  intro φ H w T a p v o ho hl hr hx he
  simp only [lowOp, Option.bind_eq_bind, Option.bind_eq_some_iff, Option.pure_def] at hl
  split at hl
  · rename_i fs hu
    simp only [Option.bind_eq_some_iff, Option.some.injEq] at hl
    obtain ⟨fd, hfd, _, hU, x', hx', n, hn, rfl⟩ := hl
    obtain ⟨dd, hdd⟩ := hasU_some hU
    have vx := hx x (by simp [Op.operands]) x' hx'
    simp only [evalV] at he
    split at he
    · rename_i cs e
      rw [e] at vx
      obtain ⟨us, h1, h2⟩ := vx
      obtain ⟨u, r1, r2⟩ := takeA_part (P := P) hn hdd h2 he w
      refine ⟨u, ?_, r2⟩
      simp [execOp, ho, Instr.field, run_underlying hu, hfd, h1, asAgg, r1]
    · cases he
  · cases hl

theorem V_indexAddr (t : TypeId) (x i : Operand) : VOk P G names (.indexAddr t x i) := by
  intro φ H w T a p v o ho hl hr hx he
  simp only [lowOp, Option.bind_eq_bind, Option.bind_eq_some_iff, Option.pure_def] at hl
  split at hl
  · rename_i e hu
    simp only [Option.bind_eq_some_iff, Option.some.injEq] at hl
    obtain ⟨n, hn, x', hx', i', hi', rfl⟩ := hl
    have vx := hx x (by simp [Op.operands]) x' hx'
    have vi := hx i (by simp [Op.operands]) i' hi'
    simp only [evalV] at he
    split at he
    · rename_i bl off len cap sz kk nn e1 e2
      rw [e1] at vx
      rw [e2] at vi
      simp only [VR] at vi
      split at he
      · rename_i m hm
        have := natOf_eq hm
        subst this
        split at he
        · rename_i hlt
          have hlt := Nat.le_of_ble_eq_true hlt
          cases he
          obtain ⟨b, s0, mm, c, d, h1, h2, h3, h4, h5, h6⟩ := vx
          have hd := h5 (by omega)
          subst hd
          refine ⟨.pointer (some ⟨b, s0 + d + m * n, none⟩), ?_, b, s0, mm, h1, by rw [Nat.add_assoc]⟩
          have c1 : (0 : Int) ≤ (m : Int) ∧ (m : Int) < (len : Int) := ⟨by omega, by omega⟩
          simp [execOp, ho, Instr.indexAt, vi, asIntOf, run_underlying hu, h2, size?_run hn, add_mk]
          omega
        · cases he
      · cases he
    · cases he
  · rename_i len e hu
    simp only [Option.bind_eq_some_iff, Option.some.injEq] at hl
    obtain ⟨n, hn, x', hx', i', hi', rfl⟩ := hl
    have vx := hx x (by simp [Op.operands]) x' hx'
    have vi := hx i (by simp [Op.operands]) i' hi'
    simp only [evalV] at he
    split at he
    · rename_i kk nn e2
      rw [e2] at vi
      simp only [VR] at vi
      split at he
      · rename_i m hm
        have := natOf_eq hm
        subst this
        split at he
        · rename_i hlt
          have hlt := Nat.le_of_ble_eq_true hlt
          split at he
          · rename_i bl k e1
            rw [e1] at vx
            cases he
            obtain ⟨b, s0, mm, h1, h2⟩ := vx
            refine ⟨.pointer (some ⟨b, s0 + k + m * n, none⟩), ?_, b, s0, mm, h1, by rw [Nat.add_assoc]⟩
            simp [execOp, ho, Instr.indexAt, vi, asIntOf, run_underlying hu, h2, Instr.sureAddr, size?_run hn, add_mk]
            omega
          · rename_i g k e1
            rw [e1] at vx
            cases he
            simp only [VR] at vx
            refine ⟨.pointer (some ⟨g, k + m * n, none⟩), ?_, rfl⟩
            simp [execOp, ho, Instr.indexAt, vi, asIntOf, run_underlying hu, vx, Instr.sureAddr, size?_run hn, add_mk]
            omega
          · cases he
        · cases he
      · cases he
    · cases he
  · cases hl

theorem V_index (t : TypeId) (x i : Operand) : VOk P G names (.index t x i) := by
  intro φ H w T a p v o ho hl hr hx he
  simp only [lowOp, Option.bind_eq_bind, Option.bind_eq_some_iff, Option.pure_def] at hl
  split at hl
  · rename_i len e hu
    simp only [Option.bind_eq_some_iff, Option.some.injEq] at hl
    obtain ⟨_, hU, n, hn, x', hx', i', hi', rfl⟩ := hl
    obtain ⟨dd, hdd⟩ := hasU_some hU
    have vx := hx x (by simp [Op.operands]) x' hx'
    have vi := hx i (by simp [Op.operands]) i' hi'
    simp only [evalV] at he
    split at he
    · rename_i cs kk nn e1 e2
      rw [e1] at vx
      rw [e2] at vi
      simp only [VR] at vi
      obtain ⟨us, h1, h2⟩ := vx
      split at he
      · rename_i m hm
        have := natOf_eq hm
        subst this
        split at he
        · rename_i hlt
          have hlt := Nat.le_of_ble_eq_true hlt
          obtain ⟨u, r1, r2⟩ := takeA_part (P := P) hn hdd h2 he w
          refine ⟨u, ?_, r2⟩
          have c1 : (m : Int) < (len : Int) := by omega
          simp [execOp, ho, Instr.index, vi, asIntOf, run_underlying hu, h1, size?_run hn, r1]
          omega
        · cases he
      · cases he
    · cases he
  · rename_i hu
    simp only [Option.bind_eq_some_iff, Option.some.injEq] at hl
    obtain ⟨x', hx', i', hi', rfl⟩ := hl
    have vx := hx x (by simp [Op.operands]) x' hx'
    have vi := hx i (by simp [Op.operands]) i' hi'
    simp only [evalV] at he
    split at he
    · rename_i s kk nn e1 e2
      rw [e1] at vx
      rw [e2] at vi
      simp only [VR] at vi vx
      split at he
      · rename_i m hm
        have := natOf_eq hm
        subst this
        split at he
        · rename_i b hb
          cases he
          refine ⟨.int .u8 b.toNat, ?_, rfl⟩
          have hb' : (⟨s.toArray⟩ : ByteArray)[m]? = some b := by
            obtain ⟨h1, h2⟩ := List.getElem?_eq_some_iff.1 hb
            have hsz : m < (⟨s.toArray⟩ : ByteArray).size := by show m < s.toArray.size; simpa using h1
            rw [ByteArray.getElem?_lt' _ _ hsz, ← h2]
            rfl
          simp [execOp, ho, Instr.index, vi, asIntOf, run_underlying hu, vx, hb']
        · cases he
      · cases he
    · cases he
  · cases hl

theorem V_typeAssert (x : Operand) (xt t : TypeId) (ok : Bool) : VOk P G names (.typeAssert x xt t ok) := by
  intro φ H w T a p v o ho hl hr hx he
  simp only [lowOp] at hl
  have hne : ∃ d, P.underlying t = some d ∧ (∀ ms, d ≠ .interface ms) ∧ (do pure (.ta t (← zeroV? P t) (← lowX x) ok) : Option XP) = some p := by
    cases hu : P.underlying t with
    | none => simp only [hu] at hl; cases hl
    | some d =>
      simp only [hu] at hl
      refine ⟨d, rfl, ?_, ?_⟩
      · intro ms e; subst e; cases hl
      · cases d <;> first | exact hl | cases hl
  obtain ⟨d, hu, hni, hl⟩ := hne
  simp only [Option.bind_eq_bind, Option.bind_eq_some_iff, Option.pure_def, Option.some.injEq] at hl
  obtain ⟨z, hz, x', hx', rfl⟩ := hl
  obtain ⟨i, zv, hi, hzv, hzr⟩ := zeroV?_sound (φ := φ) hz
  have vx := hx x (by simp [Op.operands]) x' hx'
  have hzero : (zeroValue t).run P w = .ok zv w := by simp [zeroValue, typeInfo, hi, hzv]
  have ftup : ∀ b : Bool, VR φ (.tup [z, .bool b]) (.tuple #[zv, .bool b]) := fun b => ⟨[zv, .bool b], rfl, zv, _, rfl, hzr, _, _, rfl, rfl, rfl⟩
  simp only [evalV] at he
  split at he
  · rename_i e
    rw [e] at vx
    simp only [VR] at vx
    split at he
    · cases he
      refine ⟨_, ?_, ftup false⟩
      cases d <;> first | (exfalso; exact hni _ rfl) | simp [execOp, ho, Instr.typeAssert, run_underlying hu, vx, hzero]
    · cases he
  · rename_i t' u e
    rw [e] at vx
    obtain ⟨uv, h1, h2⟩ := vx
    split at he
    · rename_i ht
      cases Nat.eq_of_beq_eq_true ht
      cases he
      cases ok with
      | true =>
        refine ⟨.tuple #[uv, .bool true], ?_, [uv, .bool true], rfl, uv, _, rfl, h2, _, _, rfl, rfl, rfl⟩
        cases d <;> first | (exfalso; exact hni _ rfl) | simp [execOp, ho, Instr.typeAssert, run_underlying hu, h1]
      | false =>
        refine ⟨uv, ?_, h2⟩
        cases d <;> first | (exfalso; exact hni _ rfl) | simp [execOp, ho, Instr.typeAssert, run_underlying hu, h1]
    · rename_i ht
      have hne : t' ≠ t := fun e => by subst e; simp at ht
      split at he
      · cases he
        refine ⟨_, ?_, ftup false⟩
        cases d <;> first | (exfalso; exact hni _ rfl) | simp [execOp, ho, Instr.typeAssert, run_underlying hu, h1, hne, hzero]
      · cases he
  · cases he

theorem V_extract (x : Operand) (n : Nat) : VOk P G names (.extract x n) := by
  intro φ H w T a p v o ho hl hr hx he
  simp only [lowOp, Option.bind_eq_bind, Option.bind_eq_some_iff, Option.pure_def, Option.some.injEq] at hl
  obtain ⟨x', hx', rfl⟩ := hl
  have vx := hx x (by simp [Op.operands]) x' hx'
  simp only [evalV] at he
  split at he
  · rename_i vs e
    rw [e] at vx
    obtain ⟨us, h1, h2⟩ := vx
    obtain ⟨u, r1, r2⟩ := h2.at he
    refine ⟨u, ?_, r2⟩
    simp [execOp, ho, Instr.extract, h1, r1]
  · cases he

theorem okV {φ : Emb} (ok : Bool) (y : AV) (u : Value) (b : Bool) (hy : VR φ y u) : VR φ (match ok with | true => .tup [y, .bool b] | false => y) (if ok then .tuple #[u, .bool b] else u) := by
  cases ok with
  | true => exact ⟨[u, .bool b], rfl, u, _, rfl, hy, _, _, rfl, rfl, rfl⟩
  | false => exact hy
theorem V_lookup (t : TypeId) (x k : Operand) (ok : Bool) : VOk P G names (.lookup t x k ok) := by
  intro φ H w T a p v o ho hl hr hx he
  simp only [lowOp, Option.bind_eq_bind, Option.bind_eq_some_iff, Option.pure_def] at hl
  split at hl
  · rename_i kt e hu
    simp only [Option.bind_eq_some_iff, Option.some.injEq] at hl
    obtain ⟨d, hd, z, hz, x', hx', k', hk', rfl⟩ := hl
    obtain ⟨i, zv, hi, hzv, hzr⟩ := zeroV?_sound (φ := φ) hz
    have vx := hx x (by simp [Op.operands]) x' hx'
    have vk := hx k (by simp [Op.operands]) k' hk'
    have hzero : ∀ w, (zeroValue e).run P w = .ok zv w := fun w => by simp [zeroValue, typeInfo, hi, hzv]
    simp only [evalV] at he
    split at he
    · cases he
    · rename_i hko
      have hck := fun b => keyOk_sound (P := P) (φ := φ) hd (by decide : 20 ≤ 10000) vk hko b w
      split at he
      · rename_i e1
        rw [e1] at vx
        simp only [VR] at vx
        cases he
        refine ⟨_, ?_, okV ok z zv false hzr⟩
        have hf : (Instr.findKey kt (a.eval k) []).run P w = .ok none w := by
          obtain ⟨res, h1, h2⟩ := findKey_sound (P := P) (φ := φ) hd vk (l := []) (es := []) (r := none) rfl rfl w
          unfold FoundR at h2
          simp only [] at h2
          subst h2
          exact h1
        have hc := hck true
        simp [execOp, ho, Instr.lookup, run_underlying hu, vx, hc, hf, hzero]
      · rename_i i2 e1
        rw [e1] at vx
        obtain ⟨b, s0, n0, h1, h2⟩ := vx
        split at he
        · rename_i es clock hg
          obtain ⟨b', s', n', q1, _, co, q2, q3⟩ := hr.obj i2 _ hg
          rw [h1] at q1
          cases q1
          obtain ⟨l, rfl, hers⟩ := q3
          split at he
          · rename_i hf
            cases he
            obtain ⟨res, r1, r2⟩ := findKey_sound (P := P) (φ := φ) hd vk hers hf w
            unfold FoundR at r2
            simp only [] at r2
            subst r2
            refine ⟨_, ?_, okV ok z zv false hzr⟩
            have hc := hck l.isEmpty
            simp [execOp, ho, Instr.lookup, run_underlying hu, h2, getObj, Sem.run, q2, hc, r1, hzero]
          · rename_i j kk vv bb hf
            cases he
            obtain ⟨res, r1, r2⟩ := findKey_sound (P := P) (φ := φ) hd vk hers hf w
            obtain ⟨me, _, _, r3, _, r4, _⟩ := r2
            subst r3
            refine ⟨_, ?_, okV ok vv me.val true r4⟩
            have hc := hck l.isEmpty
            simp [execOp, ho, Instr.lookup, run_underlying hu, h2, getObj, Sem.run, q2, hc, r1]
          · cases he
        · cases he
      · cases he
  · cases hl
end
end Go.Ev
