/-
All operations that write; the next step: calls.
-/
import Derived.Test.YtipkbcnibhnjdabGreatDoorEvY
set_option linter.unusedVariables false
set_option linter.unusedSimpArgs false
namespace Go.Ev
section
variable {P : Program} {G : List (Nat × List AV)} {names : List String}

theorem W_call (c : Call) : WOk P G names (.call c) := by
  intro φ H H' w T a p v o ho hl hr hx he
  obtain ⟨callee, args, ts⟩ := c
  simp only [lowOp, lowCall, Option.bind_eq_bind, Option.bind_eq_some_iff, Option.pure_def] at hl
  obtain ⟨xs, hxs, hl⟩ := hl
  cases callee with
  | value f =>
    exfalso
    cases f with
    | func f =>
      simp only [] at hl
      split at hl
      · split at hl
        · cases hl; simp [evalW] at he
        · cases hl
      · cases hl
    | _ =>
      simp only [Option.bind_eq_some_iff, Option.some.injEq] at hl
      obtain ⟨y, _, rfl⟩ := hl
      simp [evalW] at he
  | invoke r m =>
    exfalso
    simp only [Option.bind_eq_some_iff, Option.some.injEq] at hl
    obtain ⟨y, _, z, _, rfl⟩ := hl
    simp [evalW] at he
  | builtin b =>
    simp only [] at hl
    split at hl
    · exfalso
      split at hl <;> first | (cases hl; done) | (cases hl; simp [evalW] at he; done)
    · exfalso
      split at hl <;> first | (cases hl; done) | (cases hl; simp [evalW] at he; done)
    · rename_i s x t u hts
      split at hl
      · rename_i e e2 hu hu2
        split at hl
        · rename_i i hi
          split at hl
          · rename_i z hz
            split at hl
            · rename_i hc
              simp only [Bool.and_eq_true, beq_iff_eq, Nat.ble_eq] at hc
              obtain ⟨⟨hzl, hz1⟩, htu⟩ := hc
              have htu := Nat.eq_of_beq_eq_true htu
              subst htu
              cases hl
              obtain ⟨i', zv, hi', hzv, hzr⟩ := zero?_sound (φ := φ) hz
              rw [hi] at hi'
              cases hi'
              obtain ⟨o1, o2, ho1, hx1, hx2⟩ := lowXs_two hxs
              have hargs : args = #[o1, o2] := by apply Array.ext'; simpa using ho1
              have hts2 : ts = #[t, t] := by apply Array.ext'; simpa using hts
              subst hargs
              subst hts2
              have v1 := hx o1 (by simp [Op.operands, Call.operands]) _ hx1
              have v2 := hx o2 (by simp [Op.operands, Call.operands]) _ hx2
              simp only [evalW] at he
              have hzs : zv.cells.size = i.size := by
                have := hzr.length
                simp at this
                omega
              obtain ⟨uu, w', φ', r1, r2, r3, r4⟩ := append_sound (ty := o.type) hu hi hzv hzs hz1 hr v1 v2 he
              refine ⟨.value uu, uu, w', φ', run_builtin_exec ho ?_, .inl rfl, r2, r3, r4⟩
              simp only [builtin]
              simp [r1]
            · cases hl
          · cases hl
        · cases hl
      · cases hl
    · rename_i m k t t2 hts
      split at hl
      · rename_i kt e hu
        simp only [Option.bind_eq_some_iff, Option.some.injEq] at hl
        obtain ⟨d, hd, rfl⟩ := hl
        obtain ⟨o1, o2, ho1, hx1, hx2⟩ := lowXs_two hxs
        have hargs : args = #[o1, o2] := by apply Array.ext'; simpa using ho1
        have hts2 : ts = #[t, t2] := by apply Array.ext'; simpa using hts
        subst hargs
        subst hts2
        have vm := hx o1 (by simp [Op.operands, Call.operands]) _ hx1
        have vk := hx o2 (by simp [Op.operands, Call.operands]) _ hx2
        simp only [evalW] at he
        split at he
        · rename_i e1 hko
          rw [e1] at vm
          simp only [VR] at vm
          cases he
          have hck := keyOk_sound (P := P) (φ := φ) hd (by decide : 20 ≤ 10000) vk hko true w
          refine ⟨.value (.tuple #[]), .tuple #[], w, φ, run_builtin_exec ho ?_, .inl rfl, ⟨[], rfl, rfl⟩, hr, Ext.refl φ _ w⟩
          simp [builtin, Builtin.delete_, run_underlying hu, vm, hck]
        · rename_i i e1 hko
          rw [e1] at vm
          obtain ⟨b, s, n, h1, vm⟩ := vm
          split at he
          · rename_i es clock hg
            obtain ⟨b', s', n', q1, _, co, q2, q3⟩ := hr.obj i _ hg
            rw [h1] at q1
            cases q1
            obtain ⟨l, rfl, hers⟩ := q3
            have hck := keyOk_sound (P := P) (φ := φ) hd (by decide : 20 ≤ 10000) vk hko l.isEmpty w
            split at he
            · rename_i hf
              cases he
              obtain ⟨res, r1, r2⟩ := findKey_sound (P := P) (φ := φ) hd vk hers hf w
              unfold FoundR at r2
              simp only [] at r2
              subst r2
              obtain ⟨z1, z2⟩ := hr.setMap (c' := clock) hg h1 q2 hers
              refine ⟨.value (.tuple #[]), .tuple #[], _, φ, run_builtin_exec ho ?_, .inl rfl, ⟨[], rfl, rfl⟩, z1, z2⟩
              have hso := run_setObj (P := P) q2 (.map l.toArray clock)
              simp [builtin, Builtin.delete_, run_underlying hu, vm, getObj, Sem.run, q2, hck, r1, hso]
            · rename_i j k2 v2 b2 hf
              cases he
              obtain ⟨res, r1, r2⟩ := findKey_sound (P := P) (φ := φ) hd vk hers hf w
              obtain ⟨me, _, g1, rfl, g2, g3, g4⟩ := r2
              simp only [Nat.sub_zero] at g1
              obtain ⟨z1, z2⟩ := hr.setMap (c' := clock) hg h1 q2 (hers.erase j)
              refine ⟨.value (.tuple #[]), .tuple #[], _, φ, run_builtin_exec ho ?_, .inl rfl, ⟨[], rfl, rfl⟩, z1, z2⟩
              have hso := run_setObj (P := P) q2 (.map (l.eraseIdx j).toArray clock)
              have her : l.toArray.eraseIdxIfInBounds j = (l.eraseIdx j).toArray := by
                have hj := (List.getElem?_eq_some_iff.1 g1).1
                simp [Array.eraseIdxIfInBounds, hj]
              simp only [builtin, Builtin.delete_, Sem.run_bind]
              simp [run_underlying hu, vm, getObj, Sem.run, q2, hck, r1, her, hso]
            · cases he
          · cases he
        · cases he
      · cases hl
    · cases hl; simp [evalW] at he
    · cases hl; simp [evalW] at he
    · cases hl

theorem evalW_sound (op : Op) : WOk P G names op := by
  cases op
  case store t a x => exact W_store t a x
  case mapUpdate t m k x => exact W_mapUpdate t m k x
  case insert t m k x => exact W_insert t m k x
  case mapEntry t m k => exact W_mapEntry t m k
  case entryStore t m s x => exact W_entryStore t m s x
  case call c => exact W_call c
  case makeFunc fn f c =>
    intro φ H H' w T a p v o ho hl hr hx he
    exfalso
    clear hx ho hr
    cases fn <;> simp only [lowOp, Option.bind_eq_bind, Option.pure_def] at hl
    all_goals repeat' (first | (rw [Option.bind_eq_some_iff] at hl; obtain ⟨_, _, hl⟩ := hl) | split at hl)
    all_goals first
      | (cases hl; done)
      | (cases hl; simp [evalW] at he; done)
  case binOp op t x y yt =>
    intro φ H H' w T a p v o ho hl hr hx he
    exfalso
    clear hx ho hr
    simp only [lowOp, lowBin, Option.bind_eq_bind, Option.pure_def] at hl
    repeat' (first | (rw [Option.bind_eq_some_iff] at hl; obtain ⟨_, _, hl⟩ := hl) | split at hl)
    all_goals first
      | (cases hl; done)
      | (cases hl; simp [evalW] at he; done)
  all_goals
    intro φ H H' w T a p v o ho hl hr hx he
    exfalso
    clear hx ho hr
    simp only [lowOp, Option.bind_eq_bind, Option.pure_def] at hl
    repeat' (first | (rw [Option.bind_eq_some_iff] at hl; obtain ⟨_, _, hl⟩ := hl) | split at hl)
    all_goals first
      | (cases hl; done)
      | (cases hl; simp [evalW] at he; done)
end
end Go.Ev
