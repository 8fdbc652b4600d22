/-
Joined texts.
-/
import Derived.Test.YtipkbcnibhnjdabGreatDoorEvV7
import Derived.Laws.MakeOwn
import Derived.Laws.AppendOwn
set_option linter.unusedVariables false
set_option linter.unusedSimpArgs false
/-
What makes a new block, and what writes, gives the model's value and world.
-/
namespace Go.Ev
section
variable {P : Program} {G : List (Nat × List AV)} {names : List String}

def bldV (b : Nat) : Bld → Value
  | .ptr => .pointer (some ⟨b, 0, none⟩)
  | .slc len cap _ => .slice (some ⟨b, 0, none⟩) len cap
  | .map => .map (some b)

/-- The statement for one kind of operation that makes a block. -/
def AOk (P : Program) (G : List (Nat × List AV)) (names : List String) (op : Op) : Prop :=
  ∀ (φ : Emb) (H : Hp) (w : World) (T : Tm) (a : Act) (p : XP) (ob : AObj) (bl : Bld) (o : Oper), o.op = op → lowOp P names op = some p → Rep P G φ H w → (∀ x ∈ op.operands, OpR φ T a x) → evalA T p = some (ob, bl) →
    ∃ cob n, (execOp a.eval o).run P w = .ok (.value (bldV w.heap.size bl)) (w.alloc cob) ∧ OR φ 0 n ob cob ∧ ∀ (ψ : Emb) i, ψ i = some (w.heap.size, 0, n) → VR ψ (bl.of i) (bldV w.heap.size bl)

theorem OR_cells {φ : Emb} {cs : List AV} {arr : Array Value} {t : TypeId} (h : VRs φ cs arr.toList) : OR φ 0 arr.size (.cells cs) (.cells arr t (0, 0)) := by
  have hl := h.length
  refine ⟨arr, t, rfl, by omega, by simp at hl; omega, fun j a hj => ?_⟩
  obtain ⟨v, h1, h2⟩ := h.at hj
  exact ⟨v, by simpa using h1, h2⟩

theorem VR_ptr {ψ : Emb} {i : Pos} {b n : Nat} (h : ψ i = some (b, 0, n)) : VR ψ (Bld.ptr.of i) (bldV b .ptr) := ⟨b, 0, n, h, rfl⟩

theorem A_alloc (e : TypeId) : AOk P G names (.alloc e) := by
  intro φ H w T a p ob bl o ho hl hr hx he
  simp only [lowOp, Option.bind_eq_bind, Option.bind_eq_some_iff, Option.pure_def, Option.some.injEq] at hl
  obtain ⟨z, hz, rfl⟩ := hl
  simp only [evalA] at he
  cases he
  obtain ⟨i, zv, hi, hzv, hzr⟩ := zero?_sound (φ := φ) hz
  refine ⟨.cells zv.cells e, zv.cells.size, ?_, OR_cells hzr, fun ψ i hi => VR_ptr hi⟩
  simp [execOp, ho, Instr.alloc, zeroValue, typeInfo, hi, hzv, newVar, newRow, bldV]
theorem A_box (e : TypeId) (x : Operand) : AOk P G names (.box e x) := by
  intro φ H w T a p ob bl o ho hl hr hx he
  simp only [lowOp, Option.bind_eq_bind, Option.bind_eq_some_iff, Option.pure_def, Option.some.injEq] at hl
  obtain ⟨x', hx', rfl⟩ := hl
  simp only [evalA] at he
  split at he
  case h_2 => cases he
  rename_i hknown
  cases he
  have vx := hx x (by simp [Op.operands]) x' hx'
  refine ⟨.cells (a.eval x).cells e, (a.eval x).cells.size, ?_, OR_cells (vx.cells hknown), fun ψ i hi => VR_ptr hi⟩
  simp [execOp, ho, Instr.box, newVar, newRow, bldV]
theorem A_makeMap (t : TypeId) (r : Option Operand) : AOk P G names (.makeMap t r) := by
  intro φ H w T a p ob bl o ho hl hr hx he
  simp only [lowOp, Option.bind_eq_bind, Option.pure_def] at hl
  split at hl
  · rename_i k e hu
    simp only [Option.bind_eq_some_iff, Option.some.injEq] at hl
    obtain ⟨r', hr', rfl⟩ := hl
    have fin : ob = .mp [] 0 → bl = .map → (Instr.makeMap t (r.map a.eval)).run P w = .ok (.map (some w.heap.size)) (w.alloc (.map #[] 0)) →
        ∃ cob n, (execOp a.eval o).run P w = .ok (.value (bldV w.heap.size bl)) (w.alloc cob) ∧ OR φ 0 n ob cob ∧ ∀ (ψ : Emb) i, ψ i = some (w.heap.size, 0, n) → VR ψ (bl.of i) (bldV w.heap.size bl) := by
      intro h1 h2 h3
      subst h1
      subst h2
      refine ⟨.map #[] 0, 0, ?_, ⟨[], rfl, rfl⟩, fun ψ i hi => ⟨_, 0, 0, hi, rfl⟩⟩
      simp only [execOp, ho, Sem.run_bind, h3, Result.andThen_ok, Sem.run_pure, bldV]
    cases r with
    | none =>
      simp only [lowO] at hr'
      cases hr'
      simp only [evalA] at he
      cases he
      exact fin rfl rfl rfl
    | some x =>
      simp only [lowO] at hr'
      split at hr'
      · rename_i x' hx'
        cases hr'
        have vx := hx x (by simp [Op.operands]) x' hx'
        simp only [evalA] at he
        split at he
        · rename_i k1 n1 e1
          rw [e1] at vx
          simp only [VR] at vx
          cases he
          exact fin rfl rfl (by simp [Instr.makeMap, run_underlying hu, vx, asInt, asIntOf])
        · cases he
      · cases hr'
  · cases hl

theorem rep_length (z : List AV) : ∀ n, (rep n z).length = n * z.length
  | 0 => by simp [rep]
  | n + 1 => by simp [rep, rep_length z n, Nat.add_mul, Nat.add_comm]
theorem rep_get {z : List AV} (hz : 0 < z.length) : ∀ (n j : Nat), j < n * z.length → (rep n z)[j]? = z[j % z.length]?
  | 0, j, h => by simp at h
  | n + 1, j, h => by
    simp only [rep]
    by_cases hj : j < z.length
    · rw [List.getElem?_append_left hj, Nat.mod_eq_of_lt hj]
    · rw [List.getElem?_append_right (by omega), rep_get hz n (j - z.length) (by rw [Nat.add_mul] at h; omega)]
      congr 1
      rw [Nat.mod_eq_sub_mod (show j ≥ z.length by omega)]
theorem made_rep {φ : Emb} {z : List AV} {zc : Array Value} (h : VRs φ z zc.toList) (hz : 0 < z.length) (n : Nat) : VRs φ (rep n z) (madeCells zc (n * z.length)).toList := by
  have hl := h.length
  simp at hl
  refine VRs.of_index (by simp [rep_length, madeCells]) fun j av v hj hv => ?_
  have hjn : j < n * z.length := by
    have := (List.getElem?_eq_some_iff.1 hj).1
    rwa [rep_length] at this
  rw [rep_get hz n j hjn] at hj
  have hlt : j % z.length < zc.size := by rw [hl]; exact Nat.mod_lt _ hz
  have hv2 : v = zc[j % z.length] := by
    simp [madeCells, hjn] at hv
    rw [← hv]
    rw [hl]
    simp [hlt]
  subst hv2
  exact h.index hj (by simp [hlt])

theorem A_makeSlice (t : TypeId) (l c : Operand) : AOk P G names (.makeSlice t l c) := by
  intro φ H w T a p ob bl o ho hl hr hx he
  simp only [lowOp, Option.bind_eq_bind, Option.pure_def] at hl
  split at hl
  · rename_i e hu
    split at hl
    · rename_i i hi
      simp only [Option.bind_eq_some_iff] at hl
      obtain ⟨z, hz, hl⟩ := hl
      split at hl
      · rename_i hc
        simp only [Bool.and_eq_true, beq_iff_eq, Nat.ble_eq] at hc
        obtain ⟨hzl, hz1⟩ := hc
        simp only [Option.bind_eq_some_iff, Option.some.injEq] at hl
        obtain ⟨l', hl', c', hc', rfl⟩ := hl
        obtain ⟨i', zv, hi', hzv, hzr⟩ := zero?_sound (φ := φ) hz
        rw [hi] at hi'
        cases hi'
        have vl := hx l (by simp [Op.operands]) l' hl'
        have vc := hx c (by simp [Op.operands]) c' hc'
        simp only [evalA] at he
        split at he
        · rename_i n1 n2 e1 e2
          rw [e1] at vl
          rw [e2] at vc
          simp only [VR] at vl vc
          split at he
          · rename_i m1 m2 h1 h2
            have h1 := natOf_eq h1
            have h2 := natOf_eq h2
            subst h1
            subst h2
            split at he
            · rename_i hb
              simp only [Bool.and_eq_true, Nat.ble_eq] at hb
              obtain ⟨⟨b1, b2⟩, b3⟩ := hb
              cases he
              have hrun := run_make (P := P) w t e i zv hu hi hzv .i64 .i64 (m1 : Int) (m2 : Int) (by omega) (by omega) (by
                have : ((i.bytes : Int) * (m2 : Int)) = ((m2 * i.bytes : Nat) : Int) := by rw [Nat.mul_comm]; simp
                rw [this]; omega) (by omega)
              have hmade := made_rep hzr (by omega) m2
              rw [hzl] at hmade
              refine ⟨.cells (madeCells zv.cells (m2 * i.size)) e, (madeCells zv.cells (m2 * i.size)).size, ?_, OR_cells hmade, fun ψ i' hψ => ?_⟩
              · simp only [execOp, ho, Sem.run_bind, vl, vc, hrun, Result.andThen_ok, Sem.run_pure, bldV]
                simp
              · rw [size_madeCells] at hψ
                exact ⟨_, 0, _, m2, 0, hψ, rfl, b1, by omega, fun _ => rfl, fun x hx => by cases hx; rfl⟩
            · cases he
          · cases he
        · cases he
      · cases hl
    · cases hl
  · cases hl

theorem fillA_length : ∀ {ps : List (Nat × Nat × AV)} {cs cs' : List AV}, fillA cs ps = some cs' → cs'.length = cs.length
  | [], cs, cs', h => by simp [fillA] at h; rw [h]
  | (off, n, v) :: ps, cs, cs', h => by
    simp only [fillA] at h
    split at h
    · split at h
      · rename_i c1 hl
        obtain ⟨h1, h2⟩ := lay_eq hl
        rw [fillA_length h, h2]
        simp
        omega
      · cases h
    · cases h

theorem A_buildSlice (t : TypeId) (len : Nat) (ps : Array (Nat × Operand)) : AOk P G names (.buildSlice t len ps) := by
  intro φ H w T a p ob bl o ho hl hr hx he
  simp only [lowOp, Option.bind_eq_bind, Option.pure_def] at hl
  split at hl
  · rename_i e hu
    simp only [Option.bind_eq_some_iff] at hl
    obtain ⟨n, hn, z, hz, hl⟩ := hl
    split at hl
    · rename_i hc
      simp only [Bool.and_eq_true, beq_iff_eq, Nat.ble_eq] at hc
      obtain ⟨⟨hzl, hz1⟩, h24⟩ := hc
      simp only [Option.bind_eq_some_iff, Option.some.injEq] at hl
      obtain ⟨qs, hq, rfl⟩ := hl
      obtain ⟨i, zv, hi, hzv, hzr⟩ := zero?_sound (φ := φ) hz
      have hxs : ∀ x ∈ ps.toList, OpR φ T a x.2 := fun x hxm => hx x.2 (by simp [Op.operands]; exact ⟨x.1, by simpa using hxm⟩)
      simp only [evalA] at he
      split at he
      · rename_i cs hf
        cases he
        have hmade := made_rep hzr (by omega) len
        rw [hzl] at hmade
        obtain ⟨arr, r1, r2⟩ := fill_sound hq hxs hmade hf
        have hsz : arr.size = len * n := by
          have h1 := r2.length
          have h2 := fillA_length hf
          rw [rep_length, hzl] at h2
          simp at h1
          omega
        refine ⟨.cells arr e, arr.size, ?_, OR_cells r2, fun ψ i' hψ => ?_⟩
        · have e1 : (ps.map fun x => match x with | (i, x) => (i, a.eval x)) = ps.map fun x => (x.1, a.eval x.2) := rfl
          have h24' : ¬ (16777216 < len * n) := by omega
          have hfill : Instr.fill (fun i => some (i * n, n)) (madeCells zv.cells (len * n)) (ps.map fun x => (x.1, a.eval x.2)).toList = some arr := by simpa using r1
          simp only [execOp, ho, Sem.run_bind]
          rw [e1]
          by_cases h0 : len * n = 0
          · have r0 : Array.range 0 = #[] := rfl
            rw [h0, madeCells, r0] at hfill
            simp at hfill
            simp [Instr.buildSlice, run_underlying hu, size?_run hn, h0, r0, hfill, newRow, bldV]
          · simp [Instr.buildSlice, run_underlying hu, size?_run hn, h24', h0, zeroValue, typeInfo, hi, hzv]
            have hfill' : Instr.fill (fun i => some (i * n, n)) ((Array.range (len * n)).map (zv.cells[· % zv.cells.size]!)) (ps.map fun x => (x.1, a.eval x.2)).toList = some arr := hfill
            simp at hfill'
            simp [hfill', newRow, bldV]
        · rw [hsz] at hψ
          exact ⟨_, 0, _, len, 0, hψ, rfl, Nat.le_refl _, by omega, fun _ => rfl, fun x hx => by cases hx; rfl⟩
      · cases he
    · cases hl
  · cases hl

theorem evalA_sound (op : Op) : AOk P G names op := by
  cases op
  case alloc e => exact A_alloc e
  case box e x => exact A_box e x
  case makeMap t r => exact A_makeMap t r
  case makeSlice t l c => exact A_makeSlice t l c
  case buildSlice t len ps => exact A_buildSlice t len ps
  case makeFunc fn f c =>
    intro φ H w T a p ob bl o ho hl hr hx he
    exfalso
    clear hx ho hr
    cases fn <;> simp only [lowOp, Option.bind_eq_bind, Option.pure_def] at hl
    all_goals repeat' (first | (rw [Option.bind_eq_some_iff] at hl; obtain ⟨_, _, hl⟩ := hl) | split at hl)
    all_goals first
      | (cases hl; done)
      | (cases hl; simp [evalA] at he; done)
  case call c =>
    intro φ H w T a p ob bl o ho hl hr hx he
    exfalso
    have : kindOf p = 1 := by cases p <;> simp [evalA] at he <;> rfl
    obtain ⟨callee, args, ts⟩ := c
    clear hx ho hr
    simp only [lowOp, lowCall, Option.bind_eq_bind, Option.pure_def] at hl
    repeat' (first | (rw [Option.bind_eq_some_iff] at hl; obtain ⟨_, _, hl⟩ := hl) | split at hl)
    all_goals first
      | (cases hl; done)
      | (cases hl; simp [kindOf] at this; done)
  case binOp op t x y yt =>
    intro φ H w T a p ob bl o ho hl hr hx he
    exfalso
    clear hx ho hr
    simp only [lowOp, lowBin, Option.bind_eq_bind, Option.pure_def] at hl
    repeat' (first | (rw [Option.bind_eq_some_iff] at hl; obtain ⟨_, _, hl⟩ := hl) | split at hl)
    all_goals first
      | (cases hl; done)
      | (cases hl; simp [evalA] at he; done)
  all_goals
    intro φ H w T a p ob bl o ho hl hr hx he
    exfalso
    clear hx ho hr
    simp only [lowOp, Option.bind_eq_bind, Option.pure_def] at hl
    repeat' (first | (rw [Option.bind_eq_some_iff] at hl; obtain ⟨_, _, hl⟩ := hl) | split at hl)
    all_goals first
      | (cases hl; done)
      | (cases hl; simp [evalA] at he; done)
end
end Go.Ev

/-
What writes gives the model's value and world.
-/
namespace Go.Ev
section
variable {P : Program} {G : List (Nat × List AV)} {φ : Emb} {H : Hp} {w : World}

theorem Rep.dropAt (h : Rep P G φ H w) (i : Pos) : Rep P G φ (H.drop i) w ∧ Ext φ H w φ (H.drop i) w := by
  have hl : ∀ {j : Pos} {o : AObj}, (H.drop i).t.get j = some o → H.t.get j = some o := fun {j o} hj => by
    by_cases e : i = j
    · subst e; simp only [Hp.drop, Tr.get_put_same] at hj; cases hj
    · simpa only [Hp.drop, Tr.get_put_ne _ _ e] using hj
  exact ⟨⟨fun j o hj => h.obj j o (hl hj), fun j k o o' b s n s' n' hj hk => h.inj j k o o' b s n s' n' (hl hj) (hl hk), h.fresh, h.size, h.glob⟩,
    ⟨fun _ _ x => x, fun _ _ => rfl, fun j o b s n hj h1 => .inr ⟨j, o, s, n, hl hj, h1, id⟩, fun _ _ _ => rfl, Nat.le_refl _, Nat.le_refl _, rfl, rfl, rfl⟩⟩

/-- A block goes on under a new number; the old one is forgotten. -/
theorem Rep.renew (h : Rep P G φ H w) {i : Pos} {o o' : AObj} {b s n s' n' : Nat} {w' : World} {c' : Obj} (hst : o.still = false) (hi : H.t.get i = some o) (hb : φ i = some (b, s, n)) (ho : OR φ s' n' o' c')
    (hsize : w'.heap.size = w.heap.size) (hat : w'.heap[b]? = some c') (hne : ∀ k, k ≠ b → w'.heap[k]? = w.heap[k]?) (hos : w'.os = w.os) (ht : w'.tape = w.tape) (hout : w'.output = w.output) :
    Rep P G (upd φ H.next (b, s', n')) ((H.drop i).add o') w' ∧ Ext φ H w (upd φ H.next (b, s', n')) ((H.drop i).add o') w' := by
  have hf : φ H.next = none := h.fresh _ (Nat.le_refl _)
  have hm := upd_mono (φ := φ) (i := H.next) (b, s', n') hf
  have hni : H.next ≠ i := fun e => by rw [e] at hf; rw [hf] at hb; cases hb
  have hl : ∀ {j : Pos} {p : AObj}, H.next ≠ j → ((H.drop i).add o').t.get j = some p → i ≠ j ∧ H.t.get j = some p := fun {j p} e hj => by
    simp only [Hp.add, Hp.drop] at hj
    rw [Tr.get_put_ne _ _ e] at hj
    by_cases e' : i = j
    · subst e'; rw [Tr.get_put_same] at hj; cases hj
    · rw [Tr.get_put_ne _ _ e'] at hj; exact ⟨e', hj⟩
  have hn : ((H.drop i).add o').t.get H.next = some o' := by simp only [Hp.add, Hp.drop]; rw [Tr.get_put_same]
  obtain ⟨b1, s1, n1, q1, q2, _⟩ := h.obj i o hi
  rw [hb] at q1
  cases q1
  constructor
  · constructor
    · intro j p hj
      by_cases e : H.next = j
      · subst e
        rw [hn] at hj
        cases hj
        exact ⟨b, s', n', upd_same _ _ _, q2, c', hat, ho.mono hm⟩
      · obtain ⟨e', hj⟩ := hl e hj
        obtain ⟨b', s2, n2, h1, h2, c, h3, h4⟩ := h.obj j p hj
        have hbb : b' ≠ b := fun e2 => e' (by subst e2; exact h.inj i j o p b' s n s2 n2 hi hj hb h1)
        exact ⟨b', s2, n2, hm _ _ h1, h2, c, by rw [hne _ hbb]; exact h3, h4.mono hm⟩
    · intro j k o1 o2 bb s1 n1 s2 n2 hj hk h1 h2
      by_cases e : H.next = j
      · by_cases e2 : H.next = k
        · rw [← e, ← e2]
        · subst e
          rw [upd_same] at h1
          cases h1
          obtain ⟨e', hk⟩ := hl e2 hk
          rw [upd_ne _ _ e2] at h2
          exact absurd (h.inj i k o o2 _ s n s2 n2 hi hk hb h2) e'
      · obtain ⟨e', hj⟩ := hl e hj
        rw [upd_ne _ _ e] at h1
        by_cases e2 : H.next = k
        · subst e2
          rw [upd_same] at h2
          cases h2
          exact absurd (h.inj i j o o1 _ s n s1 n1 hi hj hb h1) e'
        · obtain ⟨_, hk⟩ := hl e2 hk
          rw [upd_ne _ _ e2] at h2
          exact h.inj j k o1 o2 bb s1 n1 s2 n2 hj hk h1 h2
    · intro j hj
      have hnj : H.next ≠ j := fun e => by subst e; simp [Hp.add, Hp.drop, Pos.toNat_succ] at hj; omega
      rw [upd_ne _ _ hnj]
      exact h.fresh j (by simp [Hp.add, Hp.drop, Pos.toNat_succ] at hj; omega)
    · rw [hsize]; exact h.size
    · intro g cs hg
      obtain ⟨h1, c, t, f, h2, h3⟩ := h.glob g cs hg
      exact ⟨h1, c, t, f, by rw [hne _ (by omega)]; exact h2, h3⟩
  · refine ⟨hm, fun j hj => upd_ne _ _ (fun e => by rw [← e] at hj; omega), ?_, ?_, by omega, by simp [Hp.add, Hp.drop, Pos.toNat_succ], hos, ht, hout⟩
    · intro j p b' s2 n2 hj h1
      by_cases e : H.next = j
      · subst e
        rw [upd_same] at h1
        cases h1
        exact .inr ⟨i, o, s, n, hi, hb, fun e => by rw [hst] at e; cases e⟩
      · obtain ⟨_, hj⟩ := hl e hj
        rw [upd_ne _ _ e] at h1
        exact .inr ⟨j, p, s2, n2, hj, h1, id⟩
    · intro k _ hk
      exact hne k fun e => by have := hk i o s n hi (by rw [e]; exact hb); rw [hst] at this; cases this

/-- The statement for one kind of operation that writes. -/
def WOk (P : Program) (G : List (Nat × List AV)) (names : List String) (op : Op) : Prop :=
  ∀ (φ : Emb) (H H' : Hp) (w : World) (T : Tm) (a : Act) (p : XP) (v : AV) (o : Oper), o.op = op → lowOp P names op = some p → Rep P G φ H w → (∀ x ∈ op.operands, OpR φ T a x) → evalW T H p = some (v, H') →
    ∃ nx u w' φ', (execOp a.eval o).run P w = .ok nx w' ∧ (nx = .value u ∨ (nx = .skip ∧ u = undef)) ∧ VR φ' v u ∧ Rep P G φ' H' w' ∧ Ext φ H w φ' H' w'

theorem VR_undef (φ : Emb) : VR φ (.tup []) undef := ⟨[], rfl, rfl⟩

variable {names : List String}

theorem W_store (t : TypeId) (ad x : Operand) : WOk P G names (.store t ad x) := by
  intro φ H H' w T a p v o ho hl hr hx he
  simp only [lowOp, Option.bind_eq_bind, Option.bind_eq_some_iff, Option.pure_def, Option.some.injEq] at hl
  obtain ⟨ad', had, x', hx', n, hn, rfl⟩ := hl
  have va := hx ad (by simp [Op.operands]) ad' had
  have vx := hx x (by simp [Op.operands]) x' hx'
  simp only [evalW] at he
  split at he
  · rename_i hlen
    have hlen := Nat.eq_of_beq_eq_true hlen
    split at he
    · rename_i H1 hs
      cases he
      unfold storeA at hs
      split at hs
      · rename_i i off e1
        rw [e1] at va
        obtain ⟨b, s, m, h1, va⟩ := va
        split at hs
        · rename_i cs hg
          split at hs
          · rename_i hone
            split at hs
            · rename_i cs' hlay
              cases hs
              have hc := vx.cells (known_of_one hone)
              obtain ⟨cur, tt, q1, q2, q3, q4⟩ := hr.lay hg h1 hlay hc
              refine ⟨.skip, undef, _, φ, ?_, .inr ⟨rfl, rfl⟩, VR_undef φ, q3, q4⟩
              have hsz : (a.eval x).cells.size = n := by rw [← hlen, ← hc.length]; simp
              have hst := run_storeCells_at P b (s + off) tt (a.eval x).cells.toList 0 cur w q1 (by simpa using q2) (hc.oneCell hone)
              simp only [execOp, ho, Sem.run_bind, Instr.storeAt, va, Instr.sureAddr, Sem.run_pure, Result.andThen_ok, storeVar, size?_run hn, hsz, ne_eq, not_true_eq_false, if_false]
              simp only [Nat.add_zero] at hst
              rw [hst]
              simp
            · cases hs
          · cases hs
        · cases hs
      · cases hs
    · cases he
  · cases he

theorem run_setObj {b : Nat} {l : Array MapEntry} {c : Nat} (h : w.heap[b]? = some (.map l c)) (ob : Obj) : (setObj b ob).run P w = .ok () { w with heap := w.heap.setIfInBounds b ob } := by
  simp [setObj, Sem.run, h]

theorem Rep.setMap (h : Rep P G φ H w) {i : Pos} {es es' : List (AV × AV × Nat)} {c c' b s n : Nat} {l l' : List MapEntry} (hi : H.t.get i = some (.mp es c)) (hb : φ i = some (b, s, n))
    (hw : w.heap[b]? = some (.map l.toArray c)) (he : ERs φ es' l') :
    Rep P G φ (H.set i (.mp es' c')) { w with heap := w.heap.setIfInBounds b (.map l'.toArray c') } ∧ Ext φ H w φ (H.set i (.mp es' c')) { w with heap := w.heap.setIfInBounds b (.map l'.toArray c') } := by
  have hlt := h.block_lt hi hb
  exact h.turn rfl hi hb ⟨l', rfl, he⟩ (by simp) (by simp [hlt]) (fun k hk => by simp [Array.getElem?_setIfInBounds, Ne.symm hk]) rfl rfl rfl

theorem ERs.append {es fs : List (AV × AV × Nat)} {l m : List MapEntry} (h : ERs φ es l) (h' : ERs φ fs m) : ERs φ (es ++ fs) (l ++ m) := by
  induction es generalizing l with
  | nil => simp [ERs] at h; subst h; simpa using h'
  | cons x es ih =>
    obtain ⟨k, v, b⟩ := x
    obtain ⟨e, es', rfl, h1, h2, h3, h4⟩ := h
    exact ⟨e, es' ++ m, rfl, h1, h2, h3, ih h4⟩
theorem ERs.one {k v : AV} {b : Nat} {e : MapEntry} (h1 : VR φ k e.key) (h2 : VR φ v e.val) (h3 : e.born = b) : ERs φ [(k, v, b)] [e] := ⟨e, [], rfl, h1, h2, h3, rfl⟩
theorem ERs.set {es : List (AV × AV × Nat)} {l : List MapEntry} (h : ERs φ es l) (j : Nat) {k v : AV} {b : Nat} {e : MapEntry} (h1 : VR φ k e.key) (h2 : VR φ v e.val) (h3 : e.born = b) : ERs φ (es.set j (k, v, b)) (l.set j e) := by
  induction es generalizing l j with
  | nil => simp [ERs] at h; subst h; simp [ERs]
  | cons x es ih =>
    obtain ⟨k', v', b'⟩ := x
    obtain ⟨e', es', rfl, q1, q2, q3, q4⟩ := h
    cases j with
    | zero => exact ⟨e, es', rfl, h1, h2, h3, q4⟩
    | succ j => exact ⟨e', es'.set j e, rfl, q1, q2, q3, ih q4 j⟩
theorem ERs.erase {es : List (AV × AV × Nat)} {l : List MapEntry} (h : ERs φ es l) (j : Nat) : ERs φ (es.eraseIdx j) (l.eraseIdx j) := by
  induction es generalizing l j with
  | nil => simp [ERs] at h; subst h; simp [ERs]
  | cons x es ih =>
    obtain ⟨k', v', b'⟩ := x
    obtain ⟨e', es', rfl, q1, q2, q3, q4⟩ := h
    cases j with
    | zero => simpa using q4
    | succ j => exact ⟨e', es'.eraseIdx j, rfl, q1, q2, q3, ih q4 j⟩
theorem modify_set {l : List MapEntry} {j : Nat} {e : MapEntry} (h : l[j]? = some e) (f : MapEntry → MapEntry) : l.modify j f = l.set j (f e) := by
  apply List.ext_getElem?
  intro k
  rw [List.getElem?_modify, List.getElem?_set]
  by_cases hk : j = k
  · subst hk
    obtain ⟨h1, h2⟩ := List.getElem?_eq_some_iff.1 h
    simp [h2, h1]
  · simp [hk]

theorem W_mapUpdate' {t : TypeId} {m k x : Operand} {kt e : TypeId} (hu : P.underlying t = some (.map kt e)) {d : EQ} (hd : eqDesc P 20 kt = some d) {m' k' x' : XO} (hm' : lowX m = some m') (hk' : lowX k = some k') (hx' : lowX x = some x')
    {T : Tm} {a : Act} {H' : Hp} {v : AV} (hr : Rep P G φ H w) (vm : VR φ (opnd T m') (a.eval m)) (vk : VR φ (opnd T k') (a.eval k)) (vx : VR φ (opnd T x') (a.eval x)) (he : evalW T H (.mu d m' k' x') = some (v, H')) :
    ∃ w', (Instr.mapUpdate t (a.eval m) (a.eval k) (a.eval x)).run P w = .ok () w' ∧ v = .tup [] ∧ Rep P G φ H' w' ∧ Ext φ H w φ H' w' := by
  simp only [evalW] at he
  split at he
  · rename_i i e1 hko
    rw [e1] at vm
    obtain ⟨b, s, n, h1, vm⟩ := vm
    have hck := keyOk_sound (P := P) (φ := φ) hd (by decide : 20 ≤ 10000) vk hko false w
    split at he
    · rename_i es clock hg
      obtain ⟨b', s', n', q1, _, co, q2, q3⟩ := hr.obj i _ hg
      rw [h1] at q1
      cases q1
      obtain ⟨l, rfl, hers⟩ := q3
      split at he
      · rename_i hf
        cases he
        obtain ⟨res, r1, r2⟩ := findKey_sound (P := P) (φ := φ) hd vk hers hf w
        unfold FoundR at r2
        simp only [] at r2
        subst r2
        obtain ⟨z1, z2⟩ := hr.setMap (c' := clock + 1) hg h1 q2 (hers.append (ERs.one (e := { key := a.eval k, val := a.eval x, born := clock }) vk vx rfl))
        refine ⟨_, ?_, rfl, z1, z2⟩
        have hso := run_setObj (P := P) q2 (.map (l ++ [({ key := a.eval k, val := a.eval x, born := clock } : MapEntry)]).toArray (clock + 1))
        simp [Instr.mapUpdate, run_underlying hu, vm, getObj, Sem.run, q2, hck, r1]
        simpa using hso
      · rename_i j k2 v2 b2 hf
        split at he
        · rename_i hsame
          cases he
          obtain ⟨res, r1, r2⟩ := findKey_sound (P := P) (φ := φ) hd vk hers hf w
          obtain ⟨me, _, g1, rfl, g2, g3, g4⟩ := r2
          simp only [Nat.sub_zero] at g1
          obtain ⟨eqk, sb⟩ := flatSame_sound hsame g2 vk 9999
          have sb : Instr.sameBits 10000 me.key (a.eval k) = true := sb
          obtain ⟨z1, z2⟩ := hr.setMap (c' := clock) hg h1 q2 (hers.set j (e := { me with key := a.eval k, val := a.eval x }) vk vx g4)
          refine ⟨_, ?_, rfl, z1, z2⟩
          have hso := run_setObj (P := P) q2 (.map (l.set j { me with key := a.eval k, val := a.eval x }).toArray clock)
          have hmod := modify_set g1 fun e => { e with key := a.eval k, val := a.eval x }
          simp [Instr.mapUpdate, run_underlying hu, vm, getObj, Sem.run, q2, hck, r1, Instr.keyThatStays, g1, sb, hmod]
          simpa using hso
        · cases he
      · cases he
    · cases he
  · cases he

theorem W_mapUpdate (t : TypeId) (m k x : Operand) : WOk P G names (.mapUpdate t m k x) := by
  intro φ H H' w T a p v o ho hl hr hx he
  simp only [lowOp, Option.bind_eq_bind, Option.pure_def] at hl
  split at hl
  · rename_i kt e hu
    simp only [Option.bind_eq_some_iff, Option.some.injEq] at hl
    obtain ⟨d, hd, m', hm', k', hk', x', hx', rfl⟩ := hl
    obtain ⟨w', r1, rfl, r2, r3⟩ := W_mapUpdate' hu hd hm' hk' hx' hr (hx m (by simp [Op.operands]) m' hm') (hx k (by simp [Op.operands]) k' hk') (hx x (by simp [Op.operands]) x' hx') he
    exact ⟨.skip, undef, w', φ, by simp [execOp, ho, r1], .inr ⟨rfl, rfl⟩, VR_undef φ, r2, r3⟩
  · cases hl
theorem W_insert (t : TypeId) (m k x : Operand) : WOk P G names (.insert t m k x) := by
  intro φ H H' w T a p v o ho hl hr hx he
  simp only [lowOp, Option.bind_eq_bind, Option.pure_def] at hl
  split at hl
  · rename_i kt e hu
    simp only [Option.bind_eq_some_iff, Option.some.injEq] at hl
    obtain ⟨d, hd, m', hm', k', hk', x', hx', rfl⟩ := hl
    obtain ⟨w', r1, rfl, r2, r3⟩ := W_mapUpdate' hu hd hm' hk' hx' hr (hx m (by simp [Op.operands]) m' hm') (hx k (by simp [Op.operands]) k' hk') (hx x (by simp [Op.operands]) x' hx') he
    exact ⟨.skip, undef, w', φ, by simp [execOp, ho, r1], .inr ⟨rfl, rfl⟩, VR_undef φ, r2, r3⟩
  · cases hl

theorem W_mapEntry (t : TypeId) (m k : Operand) : WOk P G names (.mapEntry t m k) := by
  intro φ H H' w T a p v o ho hl hr hx he
  simp only [lowOp, Option.bind_eq_bind, Option.pure_def] at hl
  split at hl
  · rename_i kt e hu
    simp only [Option.bind_eq_some_iff, Option.some.injEq] at hl
    obtain ⟨d, hd, z, hz, m', hm', k', hk', rfl⟩ := hl
    obtain ⟨i0, zv, hi0, hzv, hzr⟩ := zeroV?_sound (φ := φ) hz
    have hzero : (zeroValue e).run P w = .ok zv w := by simp [zeroValue, typeInfo, hi0, hzv]
    have vm := hx m (by simp [Op.operands]) m' hm'
    have vk := hx k (by simp [Op.operands]) k' hk'
    simp only [evalW] at he
    split at he
    · rename_i i e1 hko
      rw [e1] at vm
      obtain ⟨b, s, n, h1, vm⟩ := vm
      have hck := keyOk_sound (P := P) (φ := φ) hd (by decide : 20 ≤ 10000) vk hko false w
      split at he
      · rename_i es clock hg
        obtain ⟨b', s', n', q1, _, co, q2, q3⟩ := hr.obj i _ hg
        rw [h1] at q1
        cases q1
        obtain ⟨l, rfl, hers⟩ := q3
        split at he
        · rename_i hf
          cases he
          obtain ⟨res, r1, r2⟩ := findKey_sound (P := P) (φ := φ) hd vk hers hf w
          unfold FoundR at r2
          simp only [] at r2
          subst r2
          obtain ⟨z1, z2⟩ := hr.setMap (c' := clock + 1) hg h1 q2 (hers.append (ERs.one (e := { key := a.eval k, val := zv, born := clock }) vk hzr rfl))
          refine ⟨.value (.tuple #[zv, goInt clock]), .tuple #[zv, goInt clock], _, φ, ?_, .inl rfl, ⟨[zv, goInt clock], rfl, zv, _, rfl, hzr, _, _, rfl, rfl, rfl⟩, z1, z2⟩
          have hso := run_setObj (P := P) q2 (.map (l ++ [({ key := a.eval k, val := zv, born := clock } : MapEntry)]).toArray (clock + 1))
          simp [execOp, ho, Instr.mapEntry, run_underlying hu, vm, getObj, Sem.run, q2, hck, r1, hzero, hso]
        · rename_i j k2 v2 b2 hf
          split at he
          · rename_i hsame
            cases he
            obtain ⟨res, r1, r2⟩ := findKey_sound (P := P) (φ := φ) hd vk hers hf w
            obtain ⟨me, _, g1, rfl, g2, g3, g4⟩ := r2
            simp only [Nat.sub_zero] at g1
            obtain ⟨eqk, sb⟩ := flatSame_sound hsame g2 vk 9999
            have sb : Instr.sameBits 10000 me.key (a.eval k) = true := sb
            obtain ⟨z1, z2⟩ := hr.setMap (c' := clock) hg h1 q2 (hers.set j (e := { me with key := a.eval k }) vk g3 g4)
            refine ⟨.value (.tuple #[me.val, goInt me.born]), .tuple #[me.val, goInt me.born], _, φ, ?_, .inl rfl, ⟨[me.val, goInt me.born], rfl, me.val, _, rfl, g3, _, _, rfl, by rw [← g4]; rfl, rfl⟩, z1, z2⟩
            have hso := run_setObj (P := P) q2 (.map (l.set j { me with key := a.eval k }).toArray clock)
            have hmod := modify_set g1 fun e => { e with key := a.eval k }
            simp [execOp, ho, Instr.mapEntry, run_underlying hu, vm, getObj, Sem.run, q2, hck, r1, Instr.keyThatStays, g1, sb, hmod, hso]
          · cases he
        · cases he
      · cases he
    · cases he
  · cases hl
end
end Go.Ev
