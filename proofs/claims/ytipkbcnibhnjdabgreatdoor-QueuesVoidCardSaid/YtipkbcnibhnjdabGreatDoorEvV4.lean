/-
Filling cells, pointers compared, slices cut.
-/
import Derived.Test.YtipkbcnibhnjdabGreatDoorEvV3
set_option linter.unusedVariables false
set_option linter.unusedSimpArgs false
namespace Go.Ev
section
variable {P : Program} {G : List (Nat × List AV)} {φ : Emb} {H : Hp} {w : World} {T : Tm} {a : Act}

theorem fold_lay (off : Nat) : ∀ (vs : List Value) (k : Nat) (arr : Array Value), off + k + vs.length ≤ arr.size →
    ((vs.zipIdx k).foldl (fun cs (x : Value × Nat) => cs.setIfInBounds (off + x.2) x.1) arr).toList = arr.toList.take (off + k) ++ vs ++ arr.toList.drop (off + k + vs.length)
  | [], k, arr, _ => by simp
  | v :: vs, k, arr, h => by
    have hl : off + k + vs.length + 1 ≤ arr.size := by simpa [Nat.add_assoc] using h
    simp only [List.zipIdx_cons, List.foldl_cons]
    rw [fold_lay off vs (k + 1) (arr.setIfInBounds (off + k) v) (by simp; omega)]
    have e := list_seg_step arr.toList (off + k) v vs (by simp; omega)
    simpa [Array.toList_setIfInBounds, Nat.add_assoc] using e

theorem VRs.lay {cs vs cs' : List AV} {off : Nat} {xs us : List Value} (h : Ev.lay cs off vs = some cs') (hx : VRs φ cs xs) (hv : VRs φ vs us) :
    off + us.length ≤ xs.length ∧ VRs φ cs' (xs.take off ++ us ++ xs.drop (off + us.length)) := by
  obtain ⟨h1, rfl⟩ := lay_eq h
  have l1 := hx.length
  have l2 := hv.length
  refine ⟨by omega, ?_⟩
  have tk : VRs φ (cs.take off) (xs.take off) := VRs.of_index (by simp [l1]) fun j c v hj hj' => by
    have hjo : j < off := by
      have := (List.getElem?_eq_some_iff.1 hj).1
      simp at this
      omega
    rw [List.getElem?_take_of_lt hjo] at hj hj'
    exact hx.index hj hj'
  have dp : VRs φ (cs.drop (off + vs.length)) (xs.drop (off + us.length)) := VRs.of_index (by simp [l1, l2]) fun j c v hj hj' => by
    rw [List.getElem?_drop] at hj hj'
    rw [l2] at hj'
    exact hx.index hj hj'
  exact (tk.append hv).append dp

theorem fill_sound {place : Nat → Option (Nat × Nat)} : ∀ {po : List (Nat × Operand)} {ps : List (Nat × Nat × XO)}, lowParts place po = some ps → (∀ x ∈ po, OpR φ T a x.2) →
    ∀ {cs cs' : List AV} {arr : Array Value}, VRs φ cs arr.toList → fillA cs (partsA T ps) = some cs' →
    ∃ arr', Instr.fill place arr (po.map fun x => (x.1, a.eval x.2)) = some arr' ∧ VRs φ cs' arr'.toList
  | [], ps, h, _, cs, cs', arr, hc, hf => by
    simp [lowParts] at h
    subst h
    simp [partsA, fillA] at hf
    subst hf
    exact ⟨arr, rfl, hc⟩
  | (i, x) :: po, ps, h, hx, cs, cs', arr, hc, hf => by
    simp only [lowParts] at h
    split at h
    · rename_i off n y m hp hy hm
      cases h
      simp only [partsA, fillA] at hf
      split at hf
      · rename_i hn
        simp only [Bool.and_eq_true] at hn
        obtain ⟨hn, hknown⟩ := hn
        have hn := Nat.eq_of_beq_eq_true hn
        split at hf
        · rename_i cs1 hl
          have hv : VRs φ (opnd T y).cells (a.eval x).cells.toList := (hx (i, x) (by simp) y hy).cells hknown
          have hlen := hv.length
          obtain ⟨h1, h2⟩ := VRs.lay hl hc hv
          have hsz : (a.eval x).cells.size = n := by rw [← hn, ← hlen]; simp
          have hfold := fold_lay off (a.eval x).cells.toList 0 arr (by simpa using h1)
          obtain ⟨arr', r1, r2⟩ := fill_sound hm (fun z hz => hx z (by simp [hz])) (arr := ((a.eval x).cells.toList.zipIdx 0).foldl (fun cs (x : Value × Nat) => cs.setIfInBounds (off + x.2) x.1) arr) (by rw [hfold]; simpa using h2) hf
          refine ⟨arr', ?_, r2⟩
          have hle : ¬ (arr.size < off + n) := by simp at h1; omega
          simp only [List.map_cons, Instr.fill, hp, hsz]
          have hcond : (decide (n ≠ n) || decide (off + n > arr.size)) = false := by simp; omega
          simp only [ne_eq, not_true_eq_false, decide_false, Bool.false_or, gt_iff_lt, decide_eq_true_eq, hle, if_false]
          rw [← r1]
          congr 1
          rw [← Array.foldl_toList]
          simp [Array.toList_zipIdx]
        · cases hf
      · cases hf
    · cases h

theorem sameAddr_other {b1 b2 : Nat} {o1 o2 : Nat} {ca cb : Array Value} {ta tb : TypeId} (hne : b1 ≠ b2) (ha : w.heap[b1]? = some (.cells ca ta (0, 0))) (hb : w.heap[b2]? = some (.cells cb tb (0, 0))) :
    (sameAddr ⟨b1, o1, none⟩ ⟨b2, o2, none⟩).run P w = .ok false w :=
  run_sameAddr_other w (fun e => hne (by cases e; rfl)) ha hb
theorem sameAddr_same {b o1 o2 : Nat} : (sameAddr ⟨b, o1, none⟩ ⟨b, o2, none⟩).run P w = .ok (Nat.beq o1 o2) w := by
  unfold sameAddr
  simp only [beq_self_eq_true, if_true, Sem.run_pure]
  congr 1
  rw [Bool.eq_iff_iff]
  simp

theorem equal_ptr (hr : Rep P G φ H w) {x y : AV} {u v : Value} (hx : VR φ x u) (hy : VR φ y v) {t e : TypeId} {n : Nat} (hu : P.underlying t = some (.pointer e)) (hn : size? P e = some n) (hz : n ≠ 0) {r : Bool}
    (h : eqP H 0 x y = some r) : ∀ D : Nat, (Op.equalIn (D + 1) t u v).run P w = .ok r w := by
  intro D
  match x, y, h with
  | .ptr i o1, .ptr j o2, h =>
    obtain ⟨b1, s1, n1, h1, rfl⟩ := hx
    obtain ⟨b2, s2, n2, h2, rfl⟩ := hy
    simp only [eqP] at h
    have key : (Op.equalIn (D + 1) t (.pointer (some ⟨b1, s1 + o1, none⟩)) (.pointer (some ⟨b2, s2 + o2, none⟩))).run P w = (sameAddr ⟨b1, s1 + o1, none⟩ ⟨b2, s2 + o2, none⟩).run P w := by
      simp [Op.equalIn, run_underlying hu, size?_run hn, hz]
    rw [key]
    split at h
    · rename_i hs
      cases Pos.same_eq hs
      rw [h1] at h2
      cases h2
      cases h
      rw [sameAddr_same]
      congr 1
      rw [Bool.eq_iff_iff]
      simp
    · rename_i hs
      split at h
      · rename_i c1 c2 g1 g2
        cases h
        obtain ⟨b1', s1', n1', k1, _, d1, l1, m1⟩ := hr.obj i _ g1
        obtain ⟨b2', s2', n2', k2, _, d2, l2, m2⟩ := hr.obj j _ g2
        rw [h1] at k1
        rw [h2] at k2
        cases k1
        cases k2
        obtain ⟨a1, t1, rfl, _⟩ := m1
        obtain ⟨a2, t2, rfl, _⟩ := m2
        have hne : b1 ≠ b2 := fun e => by
          subst e
          have := hr.inj i j _ _ b1 s1 n1 s2 n2 g1 g2 h1 h2
          subst this
          rw [Pos.same_self] at hs
          cases hs
        exact sameAddr_other hne l1 l2
      · cases h
  | .nilp, .nilp, h =>
    simp only [eqP] at h
    cases h
    simp only [VR] at hx hy
    subst hx hy
    simp [Op.equalIn, run_underlying hu]
  | .nilp, .ptr _ _, h =>
    simp only [eqP] at h
    cases h
    simp only [VR] at hx
    subst hx
    obtain ⟨b2, s2, n2, h2, rfl⟩ := hy
    simp [Op.equalIn, run_underlying hu]
  | .ptr _ _, .nilp, h =>
    simp only [eqP] at h
    cases h
    simp only [VR] at hy
    subst hy
    obtain ⟨b2, s2, n2, h2, rfl⟩ := hx
    simp [Op.equalIn, run_underlying hu]
theorem equal_slc {x y : AV} {u v : Value} (hx : VR φ x u) (hy : VR φ y v) {t e : TypeId} (hu : P.underlying t = some (.slice e)) {r : Bool}
    (h : eqP H 1 x y = some r) : ∀ D : Nat, (Op.equalIn (D + 1) t u v).run P w = .ok r w := by
  intro D
  match x, y, h with
  | .nils, .nils, h =>
    simp only [eqP] at h
    cases h
    simp only [VR] at hx hy
    subst hx hy
    simp [Op.equalIn, run_underlying hu]
  | .nils, .slc .., h =>
    simp only [eqP] at h
    cases h
    simp only [VR] at hx
    subst hx
    obtain ⟨b, s, n, c, d, h1, rfl, _⟩ := hy
    simp [Op.equalIn, run_underlying hu]
  | .slc .., .nils, h =>
    simp only [eqP] at h
    cases h
    simp only [VR] at hy
    subst hy
    obtain ⟨b, s, n, c, d, h1, rfl, _⟩ := hx
    simp [Op.equalIn, run_underlying hu]
theorem equal_map {x y : AV} {u v : Value} (hx : VR φ x u) (hy : VR φ y v) {t k e : TypeId} (hu : P.underlying t = some (.map k e)) {r : Bool}
    (h : eqP H 2 x y = some r) : ∀ D : Nat, (Op.equalIn (D + 1) t u v).run P w = .ok r w := by
  intro D
  match x, y, h with
  | .nilm, .nilm, h =>
    simp only [eqP] at h
    cases h
    simp only [VR] at hx hy
    subst hx hy
    simp [Op.equalIn, run_underlying hu]
  | .nilm, .map _, h =>
    simp only [eqP] at h
    cases h
    simp only [VR] at hx
    subst hx
    obtain ⟨b, s, n, h1, rfl⟩ := hy
    simp [Op.equalIn, run_underlying hu]
  | .map _, .nilm, h =>
    simp only [eqP] at h
    cases h
    simp only [VR] at hy
    subst hy
    obtain ⟨b, s, n, h1, rfl⟩ := hx
    simp [Op.equalIn, run_underlying hu]
theorem equal_fn {x y : AV} {u v : Value} (hx : VR φ x u) (hy : VR φ y v) {t : TypeId} {ps rs : Array TypeId} {va : Bool} (hu : P.underlying t = some (.func ps rs va)) {r : Bool}
    (h : eqP H 3 x y = some r) : ∀ D : Nat, (Op.equalIn (D + 1) t u v).run P w = .ok r w := by
  intro D
  match x, y, h with
  | .nilf, .nilf, h =>
    simp only [eqP] at h
    cases h
    simp only [VR] at hx hy
    subst hx hy
    simp [Op.equalIn, run_underlying hu]
  | .nilf, .fn .., h =>
    simp only [eqP] at h
    cases h
    simp only [VR] at hx
    subst hx
    obtain ⟨fs, cs, rfl, _⟩ := hy
    simp [Op.equalIn, run_underlying hu]
  | .fn .., .nilf, h =>
    simp only [eqP] at h
    cases h
    simp only [VR] at hy
    subst hy
    obtain ⟨fs, cs, rfl, _⟩ := hx
    simp [Op.equalIn, run_underlying hu]


/-- an operand that may be missing -/
def OpO (φ : Emb) (x : Option AV) (v : Option Value) : Prop :=
  match x, v with
  | none, none => True
  | some a, some u => VR φ a u
  | _, _ => False

theorem run_bound {v : AV} {u : Value} (hv : VR φ v u) {d n y : Nat} (h : bnd (some v) d = some n) (hy : n ≤ y) (code : BoundsCode) : (Instr.sliceBound u y code).run P w = .ok n w := by
  cases v <;> simp only [bnd] at h <;> try (cases h; done)
  case int k m =>
    have := natOf_eq h
    subst this
    simp only [VR] at hv
    subst hv
    simp [Instr.sliceBound, asIntOf, hy]

theorem run_bounds {lo hi mx : Option AV} {lo' hi' mx' : Option Value} (h1 : OpO φ lo lo') (h2 : OpO φ hi hi') (h3 : OpO φ mx mx') {isSlice : Bool} {len cap l h m : Nat}
    (e1 : bnd lo 0 = some l) (e2 : bnd hi len = some h) (e3 : bnd mx cap = some m) (hl : l ≤ h) (hh : hi = none ∨ h ≤ m) (hm : m ≤ cap) (hx : mx = none ∨ hi ≠ none) :
    (Instr.sliceBounds isSlice len cap lo' hi' mx').run P w = .ok (l, h, m) w := by
  unfold Instr.sliceBounds
  cases mx with
  | none =>
    cases mx' with
    | some _ => exact h3.elim
    | none =>
      simp only [bnd] at e3
      cases e3
      cases hi with
      | none =>
        cases hi' with
        | some _ => exact h2.elim
        | none =>
          simp only [bnd] at e2
          cases e2
          cases lo with
          | none =>
            cases lo' with
            | some _ => exact h1.elim
            | none => simp only [bnd] at e1; cases e1; simp
          | some v =>
            cases lo' with
            | none => exact h1.elim
            | some u => simp [run_bound h1 e1 hl]
      | some v2 =>
        cases hi' with
        | none => exact h2.elim
        | some u2 =>
          have hh := hh.resolve_left (by simp)
          have b2 := fun code => run_bound (P := P) (w := w) h2 e2 hh code
          cases lo with
          | none =>
            cases lo' with
            | some _ => exact h1.elim
            | none => simp only [bnd] at e1; cases e1; simp [b2]
          | some v =>
            cases lo' with
            | none => exact h1.elim
            | some u => simp [b2, run_bound h1 e1 hl]
  | some v3 =>
    cases mx' with
    | none => exact h3.elim
    | some u3 =>
      have b3 := fun code => run_bound (P := P) (w := w) h3 e3 hm code
      cases hi with
      | none => simp at hx
      | some v2 =>
        cases hi' with
        | none => exact h2.elim
        | some u2 =>
          have hh := hh.resolve_left (by simp)
          have b2 := fun code => run_bound (P := P) (w := w) h2 e2 hh code
          cases lo with
          | none =>
            cases lo' with
            | some _ => exact h1.elim
            | none => simp only [bnd] at e1; cases e1; simp [b2, b3]
          | some v =>
            cases lo' with
            | none => exact h1.elim
            | some u => simp [b2, b3, run_bound h1 e1 hl]

theorem bnd_none {x : Option AV} {d n : Nat} (h : bnd x d = some n) : x = none → n = d := by
  intro e; subst e; simp only [bnd] at h; cases h; rfl
theorem bnd_some {x : Option AV} {d n : Nat} (h : bnd x d = some n) (d' : Nat) : x ≠ none → bnd x d' = some n := by
  intro e
  cases x with
  | none => exact absurd rfl e
  | some v => cases v <;> first | exact h | (simp [bnd] at h)

/-- what a slice expression gives, of a base that lies at d -/
theorem sliceA_sound {i : Pos} {b s n c d off len sz : Nat} {cap : Option Nat} (hφ : φ i = some (b, s, n)) (hlc : len ≤ c) (hfit : d + c * sz ≤ n) (hd : 0 < len → d = off) (hcap : ∀ x, cap = some x → c = x)
    {lo hi mx : Option AV} {lo' hi' mx' : Option Value} (h1 : OpO φ lo lo') (h2 : OpO φ hi hi') (h3 : OpO φ mx mx') {v : AV} (h : sliceA sz i off len cap lo hi mx = some v) (isSlice : Bool) :
    ∃ l hh m, (Instr.sliceBounds isSlice len c lo' hi' mx').run P w = .ok (l, hh, m) w ∧ VR φ v (.slice (some (if m = l then ⟨b, s + d, none⟩ else (⟨b, s + d, none⟩ : Addr).add (l * sz))) (hh - l) (m - l)) := by
  unfold sliceA at h
  split at h
  · rename_i l hh e1 e2
    split at h
    · cases h
    · rename_i hc
      simp only [Bool.and_eq_true, Nat.ble_eq] at hc
      obtain ⟨c1, c2⟩ := hc
      split at h
      · cases h
        refine ⟨l, hh, c, run_bounds h1 h2 h3 e1 e2 rfl c1 (.inr (by omega)) (Nat.le_refl _) (.inl rfl), ?_⟩
        refine ⟨b, s, n, c - l, if c = l then d else d + l * sz, hφ, ?_, by omega, ?_, ?_, ?_⟩
        · split <;> simp [add_mk, Nat.add_assoc]
        · split
          · rename_i e; subst e; simp; omega
          · have : d + l * sz + (c - l) * sz = d + c * sz := by
              rw [Nat.add_assoc, ← Nat.add_mul]; congr 2; omega
            omega
        · intro hpos
          have hdo := hd (by omega)
          have hne : c ≠ l := by omega
          rw [if_neg hne, hdo]
          cases cap with
          | none => rfl
          | some y =>
            have := hcap y rfl
            subst this
            simp only [shiftA]
            split
            · rename_i e; exact absurd (Nat.eq_of_beq_eq_true e) hne
            · rfl
        · intro x hx
          cases cap with
          | none => simp at hx
          | some y => simp at hx; rw [hcap y rfl]; exact hx
      · rename_i v3
        split at h
        · rename_i v2 m e3
          split at h
          · rename_i hc
            simp only [Bool.and_eq_true, Nat.ble_eq] at hc
            obtain ⟨c3, c4⟩ := hc
            have c5 : m ≤ c := by
              cases cap with
              | none => simp at c4; omega
              | some y => simp at c4; rw [hcap y rfl]; omega
            cases h
            refine ⟨l, hh, m, run_bounds h1 h2 h3 e1 e2 (bnd_some e3 c (by simp)) c1 (.inr c3) c5 (.inr (by simp)), ?_⟩
            refine ⟨b, s, n, m - l, if m = l then d else d + l * sz, hφ, ?_, by omega, ?_, ?_, ?_⟩
            · split <;> simp [add_mk, Nat.add_assoc]
            · have hmc : m * sz ≤ c * sz := Nat.mul_le_mul_right _ c5
              split
              · rename_i e; subst e; simp; omega
              · have : d + l * sz + (m - l) * sz = d + m * sz := by
                  rw [Nat.add_assoc, ← Nat.add_mul]; congr 2; omega
                omega
            · intro hpos
              have hdo := hd (by omega)
              have hne : m ≠ l := by omega
              rw [if_neg hne, hdo]
              unfold shiftA
              simp only []
              split
              · rename_i e; exact absurd (Nat.eq_of_beq_eq_true e) hne
              · rfl
            · intro x hx; simp at hx; exact hx
          · cases h
        · cases h
  · cases h

end
end Go.Ev
