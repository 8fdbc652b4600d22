/-
Operands, loads, comparisons: what the evaluator gives is what the model gives.
-/
import Derived.Test.YtipkbcnibhnjdabGreatDoorEvH
import Derived.Laws.StructEq
import Derived.LaidEqlPtr
import Derived.ChangeKeysEq
set_option linter.unusedVariables false
set_option linter.unusedSimpArgs false
namespace Go.Ev

theorem Pos.toNat_ofNatF : ∀ (f n : Nat), 0 < n → n < 2 ^ (f + 1) → (Pos.ofNatF f n).toNat = n
  | 0, n, e, e' => by simp [Pos.ofNatF, Pos.toNat]; omega
  | f + 1, n, e, e' => by
    simp only [Pos.ofNatF]
    have hp : (2 : Nat) ^ (f + 1 + 1) = 2 * 2 ^ (f + 1) := by rw [Nat.pow_succ]; omega
    split
    · simp [Pos.toNat]; omega
    · split
      · simp only [Pos.toNat]; rw [Pos.toNat_ofNatF f (n / 2) (by omega) (by omega)]; omega
      · simp only [Pos.toNat]; rw [Pos.toNat_ofNatF f (n / 2) (by omega) (by omega)]; omega
theorem tpos_toNat {t : Nat} (h : t ≤ 100000) : (tpos t).toNat = t + 1 := Pos.toNat_ofNatF 40 (t + 1) (by omega) (by omega)
theorem tpos_inj {t u : Nat} (h : t ≤ 100000) (h' : u ≤ 100000) (e : tpos t = tpos u) : t = u := by
  have := congrArg Pos.toNat e
  rw [tpos_toNat h, tpos_toNat h'] at this
  omega

theorem bytes_toList (s : ByteArray) : (⟨s.data.toList.toArray⟩ : ByteArray) = s := by cases s; simp

mutual
theorem liftV_sound (φ : Emb) : ∀ (f : Nat) (v : Value) (a : AV), liftV f v = some a → VR φ a v
  | 0, _, _, h => by simp [liftV] at h
  | f + 1, v, a, h => by
    cases v with
    | bool b => simp [liftV] at h; subst h; rfl
    | int k n => simp [liftV] at h; subst h; rfl
    | string s => simp [liftV] at h; subst h; simp [VR]
    | pointer o => cases o <;> simp [liftV] at h; subst h; rfl
    | slice o l c =>
      cases o with
      | none => cases l <;> cases c <;> simp [liftV] at h; subst h; rfl
      | some _ => simp [liftV] at h
    | map o => cases o <;> simp [liftV] at h; subst h; rfl
    | nilFunc => simp [liftV] at h; subst h; rfl
    | nilIface => simp [liftV] at h; subst h; rfl
    | agg cs =>
      simp only [liftV] at h
      split at h
      · rename_i l hl
        simp at h
        subst h
        exact ⟨cs.toList, by simp, liftL_sound φ f cs.toList l hl⟩
      · simp at h
    | tuple cs =>
      simp only [liftV] at h
      split at h
      · rename_i l hl
        simp at h
        subst h
        exact ⟨cs.toList, by simp, liftL_sound φ f cs.toList l hl⟩
      · simp at h
    | _ => simp [liftV] at h
theorem liftL_sound (φ : Emb) : ∀ (f : Nat) (vs : List Value) (l : List AV), liftL f vs = some l → VRs φ l vs
  | 0, _, _, h => by simp [liftL] at h
  | f + 1, [], l, h => by simp [liftL] at h; subst h; rfl
  | f + 1, v :: vs, l, h => by
    simp only [liftL] at h
    split at h
    · rename_i a m ha hm
      simp at h
      subst h
      exact ⟨v, vs, rfl, liftV_sound φ f v a ha, liftL_sound φ f vs m hm⟩
    · simp at h
end

/-- An operand, low and as it stands. -/
def OpR (φ : Emb) (T : Tm) (a : Act) (x : Operand) : Prop := ∀ xo, lowX x = some xo → VR φ (opnd T xo) (a.eval x)
/-- All temporaries. -/
def FR (φ : Emb) (T : Tm) (a : Act) : Prop := ∀ t, t ≤ 100000 → VR φ (opnd T (.t (tpos t))) (a.tmps.getD t undef)

theorem FR.opR {φ : Emb} {T : Tm} {a : Act} (h : FR φ T a) (x : Operand) : OpR φ T a x := by
  intro xo hx
  cases x with
  | tmp t =>
    simp only [lowX] at hx
    split at hx
    · rename_i ht
      simp at hx
      subst hx
      exact h t (Nat.le_of_ble_eq_true ht)
    · simp at hx
  | const v =>
    simp only [lowX, Option.map_eq_some_iff] at hx
    obtain ⟨b, hb, rfl⟩ := hx
    exact liftV_sound φ _ v b hb
  | global g => simp [lowX] at hx; subst hx; rfl
  | func f =>
    simp only [lowX] at hx
    split at hx
    · rename_i hf
      simp at hx
      subst hx
      refine ⟨[], [], ?_, rfl, rfl⟩
      rw [tpos_toNat (Nat.le_of_ble_eq_true hf)]
      rfl
    · simp at hx

theorem lowXs_sound {φ : Emb} {T : Tm} {a : Act} : ∀ {os : List Operand} {xs : List XO}, lowXs os = some xs → (∀ x ∈ os, OpR φ T a x) → VRs φ (opnds T xs) (os.map a.eval)
  | [], xs, h, _ => by simp [lowXs] at h; subst h; rfl
  | x :: l, xs, h, hx => by
    simp only [lowXs] at h
    split at h
    · rename_i y m hy hm
      simp at h
      subst h
      exact ⟨_, _, rfl, hx x (by simp) y hy, lowXs_sound hm fun z hz => hx z (by simp [hz])⟩
    · simp at h

-- the shape of a value by its abstract one
section
variable {φ : Emb}
theorem VR.cells {x : AV} {v : Value} (h : VR φ x v) (hk : x.known = true) : VRs φ x.cells v.cells.toList := by
  cases x <;> simp only [VR] at h
  case any => cases hk
  case agg cs => obtain ⟨vs, rfl, h2⟩ := h; simpa [AV.cells, Value.cells] using h2
  case ptr => obtain ⟨b, s, n, h1, rfl⟩ := h; exact ⟨_, [], rfl, ⟨b, s, n, h1, rfl⟩, rfl⟩
  case slc => obtain ⟨b, s, n, c, d, h1, rfl, h2⟩ := h; exact ⟨_, [], rfl, ⟨b, s, n, c, d, h1, rfl, h2⟩, rfl⟩
  case map => obtain ⟨b, s, n, h1, rfl⟩ := h; exact ⟨_, [], rfl, ⟨b, s, n, h1, rfl⟩, rfl⟩
  case fn => obtain ⟨fs, cs, rfl, h2⟩ := h; exact ⟨_, [], rfl, ⟨fs, cs, rfl, h2⟩, rfl⟩
  case ifc => obtain ⟨u, rfl, h2⟩ := h; exact ⟨_, [], rfl, ⟨u, rfl, h2⟩, rfl⟩
  case tup => obtain ⟨vs, rfl, h2⟩ := h; exact ⟨_, [], rfl, ⟨vs, rfl, h2⟩, rfl⟩
  all_goals (subst h; exact ⟨_, [], rfl, rfl, rfl⟩)
theorem VRs.oneCell {l : List AV} {vs : List Value} (h : VRs φ l vs) (hl : allOne l = true) : ∀ v ∈ vs, v.oneCell' = true := by
  induction l generalizing vs with
  | nil => simp [VRs] at h; simp [h]
  | cons a l ih =>
    obtain ⟨v, vs', rfl, h2, h3⟩ := h
    simp [allOne] at hl
    intro u hu
    rcases List.mem_cons.1 hu with rfl | hu
    · cases a <;> simp only [VR] at h2 <;> simp [AV.oneCell] at hl
      case ptr => obtain ⟨b, s, n, h1, rfl⟩ := h2; rfl
      case slc => obtain ⟨b, s, n, c, d, h1, rfl, h2⟩ := h2; rfl
      case map => obtain ⟨b, s, n, h1, rfl⟩ := h2; rfl
      case fn => obtain ⟨fs, cs, rfl, h2⟩ := h2; rfl
      case ifc => obtain ⟨u, rfl, h2⟩ := h2; rfl
      all_goals (subst h2; rfl)
    · exact ih h3 hl.2 u hu
end

theorem known_of_one {x : AV} (h : allOne x.cells = true) : x.known = true := by
  cases x <;> first | rfl | (simp [AV.cells, allOne, AV.oneCell] at h)

theorem add_mk (b o n : Nat) : (⟨b, o, none⟩ : Addr).add n = ⟨b, o + n, none⟩ := by unfold Addr.add; split <;> simp_all

section
variable {P : Program} {G : List (Nat × List AV)} {φ : Emb} {H : Hp} {w : World}

theorem cell_of_heap {w : World} {b j : Nat} {c : Array Value} {t : TypeId} {f : Nat × Nat} (h : w.heap[b]? = some (.cells c t f)) : w.cell? ⟨b, j, none⟩ = c[j]? := by simp [World.cell?, h]

theorem gfind_mem {g : Nat} : ∀ {G : List (Nat × List AV)} {cs : List AV}, gfind g G = some cs → (g, cs) ∈ G
  | [], _, h => by simp [gfind] at h
  | (g', cs') :: G, cs, h => by
    simp only [gfind] at h
    split at h
    · rename_i e
      have := Nat.eq_of_beq_eq_true e
      simp at h
      subst h
      subst this
      simp
    · exact List.mem_cons_of_mem _ (gfind_mem h)

/-- Where a pointer's cells lie. -/
theorem cellsAt_sound (hr : Rep P G φ H w) {x : AV} {v : Value} (hx : VR φ x v) {cs : List AV} {off : Nat} (h : cellsAt H G x = some (cs, off)) :
    ∃ b o, v = .pointer (some ⟨b, o, none⟩) ∧ ∀ (j : Nat) a, at? cs (off + j) = some a → ∃ u, w.cell? ⟨b, o + j, none⟩ = some u ∧ VR φ a u := by
  cases x <;> try (simp [cellsAt] at h; done)
  case ptr i k =>
    obtain ⟨b, s, n, hφ, rfl⟩ := hx
    simp only [cellsAt] at h
    split at h
    · rename_i cs' hg
      simp at h
      obtain ⟨rfl, rfl⟩ := h
      obtain ⟨b', s', n', h1, _, c, h2, h3⟩ := hr.obj i _ hg
      rw [hφ] at h1
      cases h1
      obtain ⟨cur, t, rfl, _, _, h4⟩ := h3
      refine ⟨b, s + k, rfl, fun j a ha => ?_⟩
      obtain ⟨u, hu, hv⟩ := h4 _ a ha
      exact ⟨u, by rw [cell_of_heap h2, Nat.add_assoc]; exact hu, hv⟩
    · rename_i k' m' c' hg
      split at h
      · rename_i hk
        have hk := Nat.eq_of_beq_eq_true hk
        subst hk
        simp at h
        obtain ⟨rfl, rfl⟩ := h
        obtain ⟨b', s', n', h1, _, c, h2, h3⟩ := hr.obj i _ hg
        rw [hφ] at h1
        cases h1
        obtain ⟨o, g1, g2⟩ := h3
        cases o with
        | cells cs2 =>
          obtain rfl : cs2 = _ := g1
          obtain ⟨cur, t, rfl, _, _, h4⟩ := g2
          refine ⟨b, s + k, rfl, fun j a ha => ?_⟩
          obtain ⟨u, hu, hv⟩ := h4 _ a ha
          exact ⟨u, by rw [cell_of_heap h2, Nat.add_assoc]; exact hu, hv⟩
        | mp => exact g1.elim
        | gh => exact g1.elim
        | ro => exact g1.elim
      · simp at h
    · rename_i m' c' hg
      simp at h
      obtain ⟨rfl, rfl⟩ := h
      obtain ⟨b', s', n', h1, _, c, h2, h3⟩ := hr.obj i _ hg
      rw [hφ] at h1
      cases h1
      obtain ⟨cur, t, f, rfl, _, _, h4⟩ := h3
      refine ⟨b, s + k, rfl, fun j a ha => ?_⟩
      obtain ⟨u, hu, hv⟩ := h4 _ a ha
      exact ⟨u, by rw [cell_of_heap h2, Nat.add_assoc]; exact hu, hv⟩
    · simp at h
  case gp g k =>
    simp only [cellsAt] at h
    split at h
    · rename_i cs' hm
      simp at h
      obtain ⟨rfl, rfl⟩ := h
      obtain ⟨_, c, t, f, h2, h3⟩ := hr.glob g cs' (gfind_mem hm)
      refine ⟨g, k, hx, fun j a ha => ?_⟩
      obtain ⟨u, hu, hv⟩ := h3 _ a ha
      exact ⟨u, by rw [cell_of_heap h2]; exact hu, hv φ⟩
    · simp at h

theorem run_load_cells {b o n : Nat} {cs : List AV} {off : Nat} {l : List AV}
    (hc : ∀ (j : Nat) a, at? cs (off + j) = some a → ∃ u, w.cell? ⟨b, o + j, none⟩ = some u ∧ VR φ a u) (hl : cut cs off n = some l) :
    ∃ us : List Value, (loadCells ⟨b, o, none⟩ n).run P w = .ok us.toArray w ∧ VRs φ l us ∧ us.length = n := by
  obtain ⟨h1, rfl⟩ := cut_eq hl
  have hsz : ∀ j, j < n → ∃ v, w.cell? ⟨b, o + j, none⟩ = some v := fun j hj => by
    obtain ⟨v, hv, _⟩ := hc j (cs[off + j]'(by omega)) (by rw [at?_eq]; exact List.getElem?_eq_getElem (by omega))
    exact ⟨v, hv⟩
  refine ⟨(List.range n).map fun j => (w.cell? ⟨b, o + j, none⟩).getD undef, ?_, VRs.of_index (by simp; omega) ?_, by simp⟩
  · exact run_loadCells w ⟨b, o, none⟩ n _ fun j hj => by
      obtain ⟨v, hv⟩ := hsz j hj
      rw [add_mk, hv]
      rfl
  · intro j a v ha hv
    have hj : j < n := by
      have := (List.getElem?_eq_some_iff.1 hv).1
      simpa using this
    rw [List.getElem?_take_of_lt hj, List.getElem?_drop] at ha
    obtain ⟨u, hu, hr⟩ := hc j a (by rw [at?_eq]; exact ha)
    simp [hj, hu] at hv
    subst hv
    exact hr

theorem agg?_true {t : TypeId} (h : agg? P t = true) (w : World) : (isAgg t).run P w = .ok true w := by
  unfold agg? at h
  split at h
  · rename_i hu; simp [isAgg, run_underlying hu]
  · rename_i hu; simp [isAgg, run_underlying hu]
  · simp at h
theorem agg?_false {t : TypeId} {d : TypeDesc} (hu : P.underlying t = some d) (h : agg? P t = false) (w : World) : (isAgg t).run P w = .ok false w := by
  unfold agg? at h
  rw [hu] at h
  cases d <;> simp at h <;> simp [isAgg, run_underlying hu]
theorem size?_run {t : TypeId} {n : Nat} (h : size? P t = some n) (w : World) : (sizeOf t).run P w = .ok n w := by
  simp only [size?, Option.map_eq_some_iff] at h
  obtain ⟨i, hi, rfl⟩ := h
  simp [sizeOf, typeInfo, hi]
end
end Go.Ev
