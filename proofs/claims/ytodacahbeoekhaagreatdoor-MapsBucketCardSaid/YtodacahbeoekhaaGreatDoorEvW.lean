/-
What makes a new block, and what writes, gives the model's value and world.
-/
import Derived.Test.YtodacahbeoekhaaGreatDoorEvV7
import Derived.Laws.MakeOwn
import Derived.Laws.AppendOwn
namespace Go.Ev
section
variable {P : Program} {G : List (Nat × List AV)} {names : List String}

def bldV (b : Nat) : Bld → Value
  | .ptr => .pointer (some ⟨b, 0, none⟩)
  | .slc len cap _ => .slice (some ⟨b, 0, none⟩) len cap
  | .map => .map (some b)

/-- The statement for one kind of operation that makes a block. -/
def AOk (P : Program) (G : List (Nat × List AV)) (names : List String) (op : Op) : Prop :=
  ∀ (φ : Emb) (H : Hp) (w : World) (T : Tm) (a : Act) (p : XP) (ob : AObj) (bl : Bld) (o : Oper), o.op = op → lowOp P names op = some p → Rep P G φ H w → (∀ x ∈ op.operands, OpR φ T a x) → evalA T p = some (ob, bl) →
    ∃ cob n, (execOp a.eval o).run P w = .ok (.value (bldV w.heap.size bl)) (w.alloc cob) ∧ OR φ 0 n ob cob ∧ ∀ (ψ : Emb) i, ψ i = some (w.heap.size, 0, n) → VR ψ (bl.of i) (bldV w.heap.size bl)

theorem OR_cells {φ : Emb} {cs : List AV} {arr : Array Value} {t : TypeId} (h : VRs φ cs arr.toList) : OR φ 0 arr.size (.cells cs) (.cells arr t (0, 0)) := by
  have hl := h.length
  refine ⟨arr, t, rfl, by omega, by simp at hl; omega, fun j a hj => ?_⟩
  obtain ⟨v, h1, h2⟩ := h.at hj
  exact ⟨v, by simpa using h1, h2⟩

theorem VR_ptr {ψ : Emb} {i : Pos} {b n : Nat} (h : ψ i = some (b, 0, n)) : VR ψ (Bld.ptr.of i) (bldV b .ptr) := ⟨b, 0, n, h, rfl⟩

theorem A_alloc (e : TypeId) : AOk P G names (.alloc e) := by
  intro φ H w T a p ob bl o ho hl hr hx he
  simp only [lowOp, Option.bind_eq_bind, Option.bind_eq_some_iff, Option.pure_def, Option.some.injEq] at hl
  obtain ⟨z, hz, rfl⟩ := hl
  simp only [evalA] at he
  cases he
  obtain ⟨i, zv, hi, hzv, hzr⟩ := zero?_sound (φ := φ) hz
  refine ⟨.cells zv.cells e, zv.cells.size, ?_, OR_cells hzr, fun ψ i hi => VR_ptr hi⟩
  simp [execOp, ho, Instr.alloc, zeroValue, typeInfo, hi, hzv, newVar, newRow, bldV]
theorem A_box (e : TypeId) (x : Operand) : AOk P G names (.box e x) := by
  intro φ H w T a p ob bl o ho hl hr hx he
  simp only [lowOp, Option.bind_eq_bind, Option.bind_eq_some_iff, Option.pure_def, Option.some.injEq] at hl
  obtain ⟨x', hx', rfl⟩ := hl
  simp only [evalA] at he
  cases he
  have vx := hx x (by simp [Op.operands]) x' hx'
  refine ⟨.cells (a.eval x).cells e, (a.eval x).cells.size, ?_, OR_cells vx.cells, fun ψ i hi => VR_ptr hi⟩
  simp [execOp, ho, Instr.box, newVar, newRow, bldV]
theorem A_makeMap (t : TypeId) (r : Option Operand) : AOk P G names (.makeMap t r) := by
  intro φ H w T a p ob bl o ho hl hr hx he
  simp only [lowOp, Option.bind_eq_bind, Option.pure_def] at hl
  split at hl
  · rename_i k e hu
    simp only [Option.bind_eq_some_iff, Option.some.injEq] at hl
    obtain ⟨r', hr', rfl⟩ := hl
    have fin : ob = .mp [] 0 → bl = .map → (Instr.makeMap t (r.map a.eval)).run P w = .ok (.map (some w.heap.size)) (w.alloc (.map #[] 0)) →
        ∃ cob n, (execOp a.eval o).run P w = .ok (.value (bldV w.heap.size bl)) (w.alloc cob) ∧ OR φ 0 n ob cob ∧ ∀ (ψ : Emb) i, ψ i = some (w.heap.size, 0, n) → VR ψ (bl.of i) (bldV w.heap.size bl) := by
      intro h1 h2 h3
      subst h1
      subst h2
      refine ⟨.map #[] 0, 0, ?_, ⟨[], rfl, rfl⟩, fun ψ i hi => ⟨_, 0, 0, hi, rfl⟩⟩
      simp only [execOp, ho, Sem.run_bind, h3, Result.andThen_ok, Sem.run_pure, bldV]
    cases r with
    | none =>
      simp only [lowO] at hr'
      cases hr'
      simp only [evalA] at he
      cases he
      exact fin rfl rfl rfl
    | some x =>
      simp only [lowO] at hr'
      split at hr'
      · rename_i x' hx'
        cases hr'
        have vx := hx x (by simp [Op.operands]) x' hx'
        simp only [evalA] at he
        split at he
        · rename_i k1 n1 e1
          rw [e1] at vx
          simp only [VR] at vx
          cases he
          exact fin rfl rfl (by simp [Instr.makeMap, run_underlying hu, vx, asInt, asIntOf])
        · cases he
      · cases hr'
  · cases hl

theorem rep_length (z : List AV) : ∀ n, (rep n z).length = n * z.length
  | 0 => by simp [rep]
  | n + 1 => by simp [rep, rep_length z n, Nat.add_mul, Nat.add_comm]
theorem rep_get {z : List AV} (hz : 0 < z.length) : ∀ (n j : Nat), j < n * z.length → (rep n z)[j]? = z[j % z.length]?
  | 0, j, h => by simp at h
  | n + 1, j, h => by
    simp only [rep]
    by_cases hj : j < z.length
    · rw [List.getElem?_append_left hj, Nat.mod_eq_of_lt hj]
    · rw [List.getElem?_append_right (by omega), rep_get hz n (j - z.length) (by rw [Nat.add_mul] at h; omega)]
      congr 1
      rw [Nat.mod_eq_sub_mod (show j ≥ z.length by omega)]
theorem made_rep {φ : Emb} {z : List AV} {zc : Array Value} (h : VRs φ z zc.toList) (hz : 0 < z.length) (n : Nat) : VRs φ (rep n z) (madeCells zc (n * z.length)).toList := by
  have hl := h.length
  simp at hl
  refine VRs.of_index (by simp [rep_length, madeCells]) fun j av v hj hv => ?_
  have hjn : j < n * z.length := by
    have := (List.getElem?_eq_some_iff.1 hj).1
    rwa [rep_length] at this
  rw [rep_get hz n j hjn] at hj
  have hlt : j % z.length < zc.size := by rw [hl]; exact Nat.mod_lt _ hz
  have hv2 : v = zc[j % z.length] := by
    simp [madeCells, hjn] at hv
    rw [← hv]
    rw [hl]
    simp [hlt]
  subst hv2
  exact h.index hj (by simp [hlt])

theorem A_makeSlice (t : TypeId) (l c : Operand) : AOk P G names (.makeSlice t l c) := by
  intro φ H w T a p ob bl o ho hl hr hx he
  simp only [lowOp, Option.bind_eq_bind, Option.pure_def] at hl
  split at hl
  · rename_i e hu
    split at hl
    · rename_i i hi
      simp only [Option.bind_eq_some_iff] at hl
      obtain ⟨z, hz, hl⟩ := hl
      split at hl
      · rename_i hc
        simp only [Bool.and_eq_true, beq_iff_eq, Nat.ble_eq] at hc
        obtain ⟨hzl, hz1⟩ := hc
        simp only [Option.bind_eq_some_iff, Option.some.injEq] at hl
        obtain ⟨l', hl', c', hc', rfl⟩ := hl
        obtain ⟨i', zv, hi', hzv, hzr⟩ := zero?_sound (φ := φ) hz
        rw [hi] at hi'
        cases hi'
        have vl := hx l (by simp [Op.operands]) l' hl'
        have vc := hx c (by simp [Op.operands]) c' hc'
        simp only [evalA] at he
        split at he
        · rename_i n1 n2 e1 e2
          rw [e1] at vl
          rw [e2] at vc
          simp only [VR] at vl vc
          split at he
          · rename_i m1 m2 h1 h2
            have h1 := natOf_eq h1
            have h2 := natOf_eq h2
            subst h1
            subst h2
            split at he
            · rename_i hb
              simp only [Bool.and_eq_true, Nat.ble_eq] at hb
              obtain ⟨⟨b1, b2⟩, b3⟩ := hb
              cases he
              have hrun := run_make (P := P) w t e i zv hu hi hzv .i64 .i64 (m1 : Int) (m2 : Int) (by omega) (by omega) (by
                have : ((i.bytes : Int) * (m2 : Int)) = ((m2 * i.bytes : Nat) : Int) := by rw [Nat.mul_comm]; simp
                rw [this]; omega) (by omega)
              have hmade := made_rep hzr (by omega) m2
              rw [hzl] at hmade
              refine ⟨.cells (madeCells zv.cells (m2 * i.size)) e, (madeCells zv.cells (m2 * i.size)).size, ?_, OR_cells hmade, fun ψ i' hψ => ?_⟩
              · simp only [execOp, ho, Sem.run_bind, vl, vc, hrun, Result.andThen_ok, Sem.run_pure, bldV]
                simp
              · rw [size_madeCells] at hψ
                exact ⟨_, 0, _, m2, 0, hψ, rfl, b1, by omega, fun _ => rfl, fun x hx => by cases hx; rfl⟩
            · cases he
          · cases he
        · cases he
      · cases hl
    · cases hl
  · cases hl

theorem fillA_length : ∀ {ps : List (Nat × Nat × AV)} {cs cs' : List AV}, fillA cs ps = some cs' → cs'.length = cs.length
  | [], cs, cs', h => by simp [fillA] at h; rw [h]
  | (off, n, v) :: ps, cs, cs', h => by
    simp only [fillA] at h
    split at h
    · split at h
      · rename_i c1 hl
        obtain ⟨h1, h2⟩ := lay_eq hl
        rw [fillA_length h, h2]
        simp
        omega
      · cases h
    · cases h

theorem A_buildSlice (t : TypeId) (len : Nat) (ps : Array (Nat × Operand)) : AOk P G names (.buildSlice t len ps) := by
  intro φ H w T a p ob bl o ho hl hr hx he
  simp only [lowOp, Option.bind_eq_bind, Option.pure_def] at hl
  split at hl
  · rename_i e hu
    simp only [Option.bind_eq_some_iff] at hl
    obtain ⟨n, hn, z, hz, hl⟩ := hl
    split at hl
    · rename_i hc
      simp only [Bool.and_eq_true, beq_iff_eq, Nat.ble_eq] at hc
      obtain ⟨⟨hzl, hz1⟩, h24⟩ := hc
      simp only [Option.bind_eq_some_iff, Option.some.injEq] at hl
      obtain ⟨qs, hq, rfl⟩ := hl
      obtain ⟨i, zv, hi, hzv, hzr⟩ := zero?_sound (φ := φ) hz
      have hxs : ∀ x ∈ ps.toList, OpR φ T a x.2 := fun x hxm => hx x.2 (by simp [Op.operands]; exact ⟨x.1, by simpa using hxm⟩)
      simp only [evalA] at he
      split at he
      · rename_i cs hf
        cases he
        have hmade := made_rep hzr (by omega) len
        rw [hzl] at hmade
        obtain ⟨arr, r1, r2⟩ := fill_sound hq hxs hmade hf
        have hsz : arr.size = len * n := by
          have h1 := r2.length
          have h2 := fillA_length hf
          rw [rep_length, hzl] at h2
          simp at h1
          omega
        refine ⟨.cells arr e, arr.size, ?_, OR_cells r2, fun ψ i' hψ => ?_⟩
        · have e1 : (ps.map fun x => match x with | (i, x) => (i, a.eval x)) = ps.map fun x => (x.1, a.eval x.2) := rfl
          have h24' : ¬ (16777216 < len * n) := by omega
          have hfill : Instr.fill (fun i => some (i * n, n)) (madeCells zv.cells (len * n)) (ps.map fun x => (x.1, a.eval x.2)).toList = some arr := by simpa using r1
          simp only [execOp, ho, Sem.run_bind]
          rw [e1]
          by_cases h0 : len * n = 0
          · have r0 : Array.range 0 = #[] := rfl
            rw [h0, madeCells, r0] at hfill
            simp at hfill
            simp [Instr.buildSlice, run_underlying hu, size?_run hn, h0, r0, hfill, newRow, bldV]
          · simp [Instr.buildSlice, run_underlying hu, size?_run hn, h24', h0, zeroValue, typeInfo, hi, hzv]
            have hfill' : Instr.fill (fun i => some (i * n, n)) ((Array.range (len * n)).map (zv.cells[· % zv.cells.size]!)) (ps.map fun x => (x.1, a.eval x.2)).toList = some arr := hfill
            simp at hfill'
            simp [hfill', newRow, bldV]
        · rw [hsz] at hψ
          exact ⟨_, 0, _, len, 0, hψ, rfl, Nat.le_refl _, by omega, fun _ => rfl, fun x hx => by cases hx; rfl⟩
      · cases he
    · cases hl
  · cases hl

theorem evalA_sound (op : Op) : AOk P G names op := by
  cases op
  case alloc e => exact A_alloc e
  case box e x => exact A_box e x
  case makeMap t r => exact A_makeMap t r
  case makeSlice t l c => exact A_makeSlice t l c
  case buildSlice t len ps => exact A_buildSlice t len ps
  case makeFunc fn f c =>
    intro φ H w T a p ob bl o ho hl hr hx he
    exfalso
    clear hx ho hr
    cases fn <;> simp only [lowOp, Option.bind_eq_bind, Option.pure_def] at hl
    all_goals repeat' (first | (rw [Option.bind_eq_some_iff] at hl; obtain ⟨_, _, hl⟩ := hl) | split at hl)
    all_goals first
      | (cases hl; done)
      | (cases hl; simp [evalA] at he; done)
  case call c =>
    intro φ H w T a p ob bl o ho hl hr hx he
    exfalso
    have : kindOf p = 1 := by cases p <;> simp [evalA] at he <;> rfl
    obtain ⟨callee, args, ts⟩ := c
    clear hx ho hr
    simp only [lowOp, lowCall, Option.bind_eq_bind, Option.pure_def] at hl
    repeat' (first | (rw [Option.bind_eq_some_iff] at hl; obtain ⟨_, _, hl⟩ := hl) | split at hl)
    all_goals first
      | (cases hl; done)
      | (cases hl; simp [kindOf] at this; done)
  case binOp op t x y yt =>
    intro φ H w T a p ob bl o ho hl hr hx he
    exfalso
    clear hx ho hr
    simp only [lowOp, lowBin, Option.bind_eq_bind, Option.pure_def] at hl
    repeat' (first | (rw [Option.bind_eq_some_iff] at hl; obtain ⟨_, _, hl⟩ := hl) | split at hl)
    all_goals first
      | (cases hl; done)
      | (cases hl; simp [evalA] at he; done)
  all_goals
    intro φ H w T a p ob bl o ho hl hr hx he
    exfalso
    clear hx ho hr
    simp only [lowOp, Option.bind_eq_bind, Option.pure_def] at hl
    repeat' (first | (rw [Option.bind_eq_some_iff] at hl; obtain ⟨_, _, hl⟩ := hl) | split at hl)
    all_goals first
      | (cases hl; done)
      | (cases hl; simp [evalA] at he; done)
end
end Go.Ev
