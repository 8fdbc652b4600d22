/-
Equality of values by their cells; a key's look; the search in a map.
-/
import Derived.Test.YtipkbcnibhnjdabGreatDoorEvV2
set_option linter.unusedVariables false
set_option linter.unusedSimpArgs false
namespace Go.Ev
section
variable {P : Program} {φ : Emb}

/-- A value of a type and its cells. -/
def AsC (P : Program) (t : TypeId) (u : Value) (us : List Value) : Prop := match agg? P t with
  | true => u = .agg us.toArray
  | false => us = [u]

theorem part_sound {t : TypeId} {dd : TypeDesc} {off n : Nat} (hs : size? P t = some n) (ha : (agg? P t || Nat.beq n 1) = true) (hu : P.underlying t = some dd) {xs l : List AV} {vs : List Value}
    (hv : VRs φ xs vs) (hc : cut xs off n = some l) (w : World) : ∃ u us, (part t vs.toArray off).run P w = .ok u w ∧ VRs φ l us ∧ AsC P t u us := by
  obtain ⟨h1, rfl⟩ := cut_eq hc
  have hlen := hv.length
  have hvr : VRs φ ((xs.drop off).take n) ((vs.drop off).take n) := by
    refine VRs.of_index (by simp; omega) fun j a v hj hj' => ?_
    have hjn : j < n := by
      have := (List.getElem?_eq_some_iff.1 hj).1
      simp at this
      omega
    rw [List.getElem?_take_of_lt hjn, List.getElem?_drop] at hj hj'
    exact hv.index hj hj'
  unfold AsC
  cases hag : agg? P t with
  | true =>
    refine ⟨.agg ((vs.drop off).take n).toArray, (vs.drop off).take n, ?_, hvr, rfl⟩
    simp only [part, Sem.run_bind, agg?_true hag, Result.andThen_ok, if_true, size?_run hs, Sem.run_pure]
    congr 2
    simp [List.extract_eq_take_drop]
  | false =>
    rw [hag] at ha
    have hn : n = 1 := by simpa using ha
    subst hn
    have hlt : off < vs.length := by omega
    refine ⟨vs[off], (vs.drop off).take 1, ?_, hvr, ?_⟩
    · simp only [part, Sem.run_bind, agg?_false hu hag, Result.andThen_ok, Bool.false_eq_true, if_false]
      simp [hlt]
    · apply List.ext_getElem?
      intro j
      cases j with
      | zero => simp [hlt]
      | succ j => simp; omega

theorem eqDesc_under {f : Nat} {t : TypeId} {d : EQ} (h : eqDesc P f t = some d) : ∃ dd, P.underlying t = some dd := by
  cases f with
  | zero => simp [eqDesc] at h
  | succ f =>
    simp only [eqDesc] at h
    split at h <;> first | exact ⟨_, by assumption⟩ | (cases h)

theorem eqC_sound (f : Nat) :
    (∀ (t : TypeId) (d : EQ) (D : Nat), eqDesc P f t = some d → f ≤ D → ∀ (xs ys : List AV) (x y : Value) (us vs : List Value) (r : Bool), VRs φ xs us → VRs φ ys vs → AsC P t x us → AsC P t y vs →
      eqC d xs ys = some r → ∀ w, (Op.equalIn D t x y).run P w = .ok r w) ∧
    (∀ (fs : List Field) (ds : List (Nat × Nat × EQ)) (D : Nat), eqDescs P f fs = some ds → f ≤ D → ∀ (xs ys : List AV) (us vs : List Value) (r : Bool), VRs φ xs us → VRs φ ys vs →
      eqFs ds xs ys = some r → ∀ w, (Op.eqFields D us.toArray vs.toArray fs).run P w = .ok r w) := by
  induction f with
  | zero => exact ⟨fun t d D h => by simp [eqDesc] at h, fun fs ds D h => by simp [eqDescs] at h⟩
  | succ f ih =>
    obtain ⟨ihA, ihB⟩ := ih
    constructor
    · intro t d D h hD xs ys x y us vs r hx hy hax hay he w
      obtain ⟨D', rfl⟩ : ∃ D', D = D' + 1 := ⟨D - 1, by omega⟩
      simp only [eqDesc] at h
      split at h
      · rename_i k hu
        cases h
        have hag : agg? P t = false := by simp [agg?, hu]
        simp only [AsC, hag] at hax hay
        subst hax
        subst hay
        match xs, ys, he with
        | [a], [b], he =>
          simp only [eqC] at he
          obtain ⟨v, vs', e1, h1, h2⟩ := hx
          obtain ⟨v', vs'', e2, h3, h4⟩ := hy
          cases e1
          cases e2
          match a, b, he with
          | .int k1 a, .int k2 b, he =>
            simp only [eqLi] at he
            split at he
            · rename_i e
              cases kidx_inj e
              cases he
              simp only [VR] at h1 h3
              subst h1
              subst h3
              rw [eqI_eq]
              exact run_equalIn_int w D' t k1 k a b hu
            · cases he
      · rename_i hu
        cases h
        have hag : agg? P t = false := by simp [agg?, hu]
        simp only [AsC, hag] at hax hay
        subst hax
        subst hay
        match xs, ys, he with
        | [a], [b], he =>
          simp only [eqC] at he
          obtain ⟨v, vs', e1, h1, h2⟩ := hx
          obtain ⟨v', vs'', e2, h3, h4⟩ := hy
          cases e1
          cases e2
          match a, b, he with
          | .bool a, .bool b, he =>
            simp only [eqLb] at he
            cases he
            simp only [VR] at h1 h3
            subst h1
            subst h3
            exact run_equalIn_bool' w D' t a b hu
      · rename_i hu
        cases h
        have hag : agg? P t = false := by simp [agg?, hu]
        simp only [AsC, hag] at hax hay
        subst hax
        subst hay
        match xs, ys, he with
        | [a], [b], he =>
          simp only [eqC] at he
          obtain ⟨v, vs', e1, h1, h2⟩ := hx
          obtain ⟨v', vs'', e2, h3, h4⟩ := hy
          cases e1
          cases e2
          match a, b, he with
          | .str a, .str b, he =>
            simp only [eqLs] at he
            cases he
            simp only [VR] at h1 h3
            subst h1
            subst h3
            rw [strEq_eq]
            have := run_equalIn_string w D' t ⟨a.toArray⟩ ⟨b.toArray⟩ hu
            rw [ba_toList, ba_toList] at this
            exact this
      · rename_i fs hu
        split at h
        · cases h
        · rename_i hst
          split at h
          · rename_i l hl
            cases h
            have hag : agg? P t = true := by simp [agg?, hu]
            simp only [AsC, hag] at hax hay
            subst hax
            subst hay
            have hf : P.fieldsOf t = fs := by simp [Program.fieldsOf, hu]
            rw [run_equalIn_struct w D' t _ _ (by rw [hf]; exact hu) hst, hf]
            simp only [eqC] at he
            exact ihB fs.toList l D' hl (by omega) xs ys us vs r hx hy he w
          · cases h
      · cases h
    · intro fs ds D h hD xs ys us vs r hx hy he w
      cases fs with
      | nil =>
        simp only [eqDescs] at h
        cases h
        simp only [eqFs] at he
        cases he
        simp [Op.eqFields]
      | cons fd fs =>
        simp only [eqDescs] at h
        split at h
        · rename_i n d m hname hs hd hm
          split at h
          · rename_i hag
            cases h
            simp only [eqFs] at he
            split at he
            · rename_i a b ha hb
              obtain ⟨dd, hu⟩ := eqDesc_under hd
              obtain ⟨u1, us1, r1, v1, c1⟩ := part_sound hs hag hu hx ha w
              obtain ⟨u2, us2, r2, v2, c2⟩ := part_sound hs hag hu hy hb w
              have hne : fd.name ≠ "_" := by simpa using hname
              simp only [Op.eqFields, Sem.run_ite, hne, ne_eq, not_false_eq_true, if_true, Sem.run_bind, r1, Result.andThen_ok, r2]
              split at he
              · rename_i hc
                rw [ihA fd.type d D hd (by omega) a b u1 u2 us1 us2 true v1 v2 c1 c2 hc w]
                simp only [Result.andThen_ok, Bool.not_true, Bool.false_eq_true, if_false]
                exact ihB fs m D hm (by omega) xs ys us vs r hx hy he w
              · rename_i hc
                cases he
                rw [ihA fd.type d D hd (by omega) a b u1 u2 us1 us2 false v1 v2 c1 c2 hc w]
                simp
              · cases he
            · cases he
          · cases h
        · cases h

/-- the fields of a key, looked at one behind the other -/
def ckFields (empty : Bool) (n : Nat) (cs : Array Value) : List Field → Sem Unit
  | [] => pure ()
  | f :: fs => do
    if f.name ≠ "_" then Instr.checkKey empty n f.type (← part f.type cs f.offset)
    ckFields empty n cs fs
theorem run_checkKey_struct (empty : Bool) (n : Nat) (t : TypeId) (fs : Array Field) (cs : Array Value) (ht : P.underlying t = some (.struct fs)) (w : World) :
    (Instr.checkKey empty (n + 1) t (.agg cs)).run P w = (ckFields empty n cs fs.toList).run P w := by
  simp only [Instr.checkKey, Sem.run_bind, run_underlying ht, Result.andThen_ok]
  rw [← Array.forIn_toList]
  generalize fs.toList = l
  clear ht
  induction l generalizing w with
  | nil => simp [ckFields]
  | cons f l ih =>
    simp only [List.forIn_cons, ckFields, Sem.run_bind, Sem.run_ite]
    split
    · generalize (part f.type cs f.offset).run P w = r1
      cases r1 with
      | ok a w1 =>
        simp only [Result.andThen_ok]
        generalize (Instr.checkKey empty n f.type a).run P w1 = r2
        cases r2 with
        | ok b w2 => simp only [Result.andThen_ok, Sem.run_pure]; exact ih w2
        | halt x w2 => simp [Result.andThen]
      | halt x w1 => simp [Result.andThen]
    · simp only [Sem.run_pure, Result.andThen_ok]
      exact ih w

theorem checkKey_sound (empty : Bool) (f : Nat) :
    (∀ (t : TypeId) (d : EQ) (D : Nat), eqDesc P f t = some d → f ≤ D → ∀ (xs : List AV) (x : Value) (us : List Value), VRs φ xs us → AsC P t x us →
      eqC d xs xs = some true → ∀ w, (Instr.checkKey empty D t x).run P w = .ok () w) ∧
    (∀ (fs : List Field) (ds : List (Nat × Nat × EQ)) (D : Nat), eqDescs P f fs = some ds → f ≤ D → ∀ (xs : List AV) (us : List Value), VRs φ xs us →
      eqFs ds xs xs = some true → ∀ w, (ckFields empty D us.toArray fs).run P w = .ok () w) := by
  induction f with
  | zero => exact ⟨fun t d D h => by simp [eqDesc] at h, fun fs ds D h => by simp [eqDescs] at h⟩
  | succ f ih =>
    obtain ⟨ihA, ihB⟩ := ih
    constructor
    · intro t d D h hD xs x us hx hax he w
      obtain ⟨D', rfl⟩ : ∃ D', D = D' + 1 := ⟨D - 1, by omega⟩
      simp only [eqDesc] at h
      split at h
      · rename_i k hu
        simp [Instr.checkKey, run_underlying hu]
      · rename_i hu
        simp [Instr.checkKey, run_underlying hu]
      · rename_i hu
        simp [Instr.checkKey, run_underlying hu]
      · rename_i fs hu
        split at h
        · cases h
        · split at h
          · rename_i l hl
            cases h
            have hag : agg? P t = true := by simp [agg?, hu]
            simp only [AsC, hag] at hax
            subst hax
            rw [run_checkKey_struct empty D' t fs _ hu]
            simp only [eqC] at he
            exact ihB fs.toList l D' hl (by omega) xs us hx he w
          · cases h
      · cases h
    · intro fs ds D h hD xs us hx he w
      cases fs with
      | nil => simp [ckFields]
      | cons fd fs =>
        simp only [eqDescs] at h
        split at h
        · rename_i n d m hname hs hd hm
          split at h
          · rename_i hag
            cases h
            simp only [eqFs] at he
            split at he
            · rename_i a b ha hb
              rw [ha] at hb
              cases hb
              obtain ⟨dd, hu⟩ := eqDesc_under hd
              obtain ⟨u1, us1, r1, v1, c1⟩ := part_sound hs hag hu hx ha w
              have hne : fd.name ≠ "_" := by simpa using hname
              split at he
              · rename_i hc
                simp only [ckFields, Sem.run_ite, hne, ne_eq, not_false_eq_true, if_true, Sem.run_bind, r1, Result.andThen_ok, ihA fd.type d D hd (by omega) a u1 us1 v1 c1 hc w]
                exact ihB fs m D hm (by omega) xs us hx he w
              · cases he
              · cases he
            · cases he
          · cases h
        · cases h

theorem AsC_agg {t : TypeId} {us : List Value} (h : agg? P t = true) : AsC P t (.agg us.toArray) us := by unfold AsC; rw [h]
theorem AsC_one {t : TypeId} {v : Value} (h : agg? P t = false) : AsC P t v [v] := by unfold AsC; rw [h]

theorem eqDesc_st {f : Nat} {t : TypeId} {fs : List (Nat × Nat × EQ)} (h : eqDesc P f t = some (.st fs)) : agg? P t = true := by
  cases f with
  | zero => simp [eqDesc] at h
  | succ f =>
    simp only [eqDesc] at h
    split at h
    · cases h
    · cases h
    · cases h
    · rename_i fs hu; simp [agg?, hu]
    · cases h
theorem eqDesc_leaf {f : Nat} {t : TypeId} {d : EQ} (h : eqDesc P f t = some d) (hd : ∀ fs, d ≠ .st fs) : agg? P t = false := by
  cases f with
  | zero => simp [eqDesc] at h
  | succ f =>
    simp only [eqDesc] at h
    split at h
    · rename_i hu; simp [agg?, hu]
    · rename_i hu; simp [agg?, hu]
    · rename_i hu; simp [agg?, hu]
    · split at h
      · cases h
      · split at h
        · cases h; exact absurd rfl (hd _)
        · cases h
    · cases h

theorem eqV_sound {f D : Nat} {t : TypeId} {d : EQ} (hd : eqDesc P f t = some d) (hD : f ≤ D) {a b : AV} {x y : Value} (hx : VR φ a x) (hy : VR φ b y) {r : Bool} (h : eqV d a b = some r) (w : World) :
    (Op.equalIn D t x y).run P w = .ok r w := by
  cases d with
  | st fs =>
    cases a <;> try (simp [eqV] at h; done)
    cases b <;> try (simp [eqV] at h; done)
    obtain ⟨us, rfl, h1⟩ := hx
    obtain ⟨vs, rfl, h2⟩ := hy
    simp only [eqV] at h
    exact (eqC_sound f).1 t _ D hd hD _ _ _ _ us vs r h1 h2 (AsC_agg (eqDesc_st hd)) (AsC_agg (eqDesc_st hd)) (by simpa [eqC] using h) w
  | li =>
    have hag := eqDesc_leaf hd (by simp)
    exact (eqC_sound f).1 t _ D hd hD [a] [b] _ _ [x] [y] r ⟨_, _, rfl, hx, rfl⟩ ⟨_, _, rfl, hy, rfl⟩ (AsC_one hag) (AsC_one hag) (by simpa [eqC, eqV] using h) w
  | lb =>
    have hag := eqDesc_leaf hd (by simp)
    exact (eqC_sound f).1 t _ D hd hD [a] [b] _ _ [x] [y] r ⟨_, _, rfl, hx, rfl⟩ ⟨_, _, rfl, hy, rfl⟩ (AsC_one hag) (AsC_one hag) (by simpa [eqC, eqV] using h) w
  | ls =>
    have hag := eqDesc_leaf hd (by simp)
    exact (eqC_sound f).1 t _ D hd hD [a] [b] _ _ [x] [y] r ⟨_, _, rfl, hx, rfl⟩ ⟨_, _, rfl, hy, rfl⟩ (AsC_one hag) (AsC_one hag) (by simpa [eqC, eqV] using h) w

theorem eqItems_sound {f D : Nat} {e : TypeId} {i : TypeInfo} {d : EQ} (hi : P.info? e = some i) (hd : eqDesc P f e = some d) (hD : f ≤ D) (hag : (agg? P e || Nat.beq i.size 1) = true) {xs ys : List AV} {us vs : List Value} (hx : VRs φ xs us) (hy : VRs φ ys vs) (w : World) :
    ∀ (l : List Nat) (r : Bool), eqFs (l.map fun j => (j * i.size, i.size, d)) xs ys = some r → (Op.eqItems D e (P.cellsOf e) us.toArray vs.toArray l).run P w = .ok r w
  | [], r, h => by
    simp only [List.map_nil, eqFs] at h
    cases h
    simp [Op.eqItems]
  | j :: l, r, h => by
    have hc : P.cellsOf e = i.size := by simp [Program.cellsOf, hi]
    have hs : size? P e = some i.size := by simp [size?, hi]
    simp only [List.map_cons, eqFs] at h
    split at h
    · rename_i a b ha hb
      obtain ⟨dd, hu⟩ := eqDesc_under hd
      obtain ⟨u1, us1, r1, v1, c1⟩ := part_sound hs hag hu hx ha w
      obtain ⟨u2, us2, r2, v2, c2⟩ := part_sound hs hag hu hy hb w
      simp only [Op.eqItems, Sem.run_bind, hc, r1, Result.andThen_ok, r2]
      split at h
      · rename_i he
        rw [(eqC_sound f).1 e d D hd hD a b u1 u2 us1 us2 true v1 v2 c1 c2 he w]
        simp only [Result.andThen_ok, Bool.not_true, Bool.false_eq_true, if_false]
        have := eqItems_sound hi hd hD hag hx hy w l r h
        rwa [hc] at this
      · rename_i he
        cases h
        rw [(eqC_sound f).1 e d D hd hD a b u1 u2 us1 us2 false v1 v2 c1 c2 he w]
        simp
      · cases h
    · cases h
theorem eqV_soundA {f D : Nat} {t : TypeId} {d : EQ} (hd : eqDescA P f t = some d) (hD : f + 1 ≤ D) {a b : AV} {x y : Value} (hx : VR φ a x) (hy : VR φ b y) {r : Bool} (h : eqV d a b = some r) (w : World) :
    (Op.equalIn D t x y).run P w = .ok r w := by
  unfold eqDescA at hd
  split at hd
  · rename_i n e hu
    split at hd
    · rename_i i d' hi hd'
      split at hd
      · rename_i hag
        cases hd
        cases a <;> try (simp [eqV] at h; done)
        cases b <;> try (simp [eqV] at h; done)
        obtain ⟨us, rfl, h1⟩ := hx
        obtain ⟨vs, rfl, h2⟩ := hy
        simp only [eqV] at h
        obtain ⟨D', rfl⟩ : ∃ D', D = D' + 1 := ⟨D - 1, by omega⟩
        rw [run_equalIn_array w D' _ _ hu hi]
        exact eqItems_sound hi hd' (by omega) hag h1 h2 w _ r h
      · cases hd
    · cases hd
  · exact eqV_sound hd (by omega) hx hy h w

theorem keyOk_sound {f D : Nat} {t : TypeId} {d : EQ} (hd : eqDesc P f t = some d) (hD : f ≤ D) {a : AV} {x : Value} (hx : VR φ a x) (h : keyOk d a = true) (empty : Bool) (w : World) :
    (Instr.checkKey empty D t x).run P w = .ok () w := by
  unfold keyOk at h
  split at h
  · rename_i h
    cases d with
    | st fs =>
      cases a <;> try (simp [eqV] at h; done)
      obtain ⟨us, rfl, h1⟩ := hx
      simp only [eqV] at h
      exact (checkKey_sound empty f).1 t _ D hd hD _ _ us h1 (AsC_agg (eqDesc_st hd)) (by simpa [eqC] using h) w
    | li =>
      have hag := eqDesc_leaf hd (by simp)
      exact (checkKey_sound empty f).1 t _ D hd hD [a] _ [x] ⟨_, _, rfl, hx, rfl⟩ (AsC_one hag) (by simpa [eqC, eqV] using h) w
    | lb =>
      have hag := eqDesc_leaf hd (by simp)
      exact (checkKey_sound empty f).1 t _ D hd hD [a] _ [x] ⟨_, _, rfl, hx, rfl⟩ (AsC_one hag) (by simpa [eqC, eqV] using h) w
    | ls =>
      have hag := eqDesc_leaf hd (by simp)
      exact (checkKey_sound empty f).1 t _ D hd hD [a] _ [x] ⟨_, _, rfl, hx, rfl⟩ (AsC_one hag) (by simpa [eqC, eqV] using h) w
  · cases h

/-- what the search finds, in the model's words -/
def FoundR (φ : Emb) (es : List MapEntry) (i0 : Nat) (r : Option (Nat × AV × AV × Nat)) (res : Option (Nat × Value)) : Prop :=
  match r with
  | none => res = none
  | some (j, k, v, b) => ∃ e, i0 ≤ j ∧ es[j - i0]? = some e ∧ res = some (j, e.val) ∧ VR φ k e.key ∧ VR φ v e.val ∧ e.born = b

theorem FoundR.step {es : List MapEntry} {e : MapEntry} {i0 : Nat} {r : Option (Nat × AV × AV × Nat)} {res : Option (Nat × Value)} (h : FoundR φ es (i0 + 1) r res) : FoundR φ (e :: es) i0 r res := by
  unfold FoundR at *
  split
  · exact h
  · obtain ⟨e', h1, h2, h3⟩ := h
    refine ⟨e', by omega, ?_, h3⟩
    rename_i j _ _ _
    have : j - i0 = (j - (i0 + 1)) + 1 := by omega
    rw [this]
    simpa using h2

theorem findAsking_sound {t : TypeId} {d : EQ} (hd : eqDesc P 20 t = some d) {k : AV} {kv : Value} (hk : VR φ k kv) (w : World) : ∀ (l : List (AV × AV × Nat)) (es : List MapEntry) (i : Nat) (r : Option (Nat × AV × AV × Nat)),
    ERs φ l es → findA d k l i = some r → ∃ res, (Instr.findAsking t kv es i).run P w = .ok res w ∧ FoundR φ es i r res
  | [], es, i, r, he, h => by
    simp only [ERs] at he
    subst he
    simp [findA] at h
    subst h
    exact ⟨none, by simp [Instr.findAsking], rfl⟩
  | (k', v', b) :: l, es, i, r, he, h => by
    obtain ⟨e, es', rfl, h1, h2, h3, h4⟩ := he
    simp only [findA] at h
    split at h
    · rename_i heq
      cases h
      refine ⟨some (i, e.val), ?_, e, Nat.le_refl _, by simp, rfl, h1, h2, h3⟩
      simp [Instr.findAsking, Op.equal, eqV_sound hd (by decide : 20 ≤ Op.maxDepth) hk h1 heq w]
    · rename_i heq
      obtain ⟨res, hr, hf⟩ := findAsking_sound hd hk w l es' (i + 1) r h4 h
      refine ⟨res, ?_, hf.step⟩
      simp [Instr.findAsking, Op.equal, eqV_sound hd (by decide : 20 ≤ Op.maxDepth) hk h1 heq w, hr]
    · cases h

theorem findNow_sound {kind : TypeDesc} {k : AV} {kv : Value} {d : EQ} (hs : ∀ (k' : AV) (kv' : Value) (r : Bool), VR φ k' kv' → eqV d k k' = some r → Instr.sameNow kind kv kv' = some r) : ∀ (l : List (AV × AV × Nat)) (es : List MapEntry) (i : Nat) (r : Option (Nat × AV × AV × Nat)),
    ERs φ l es → findA d k l i = some r → ∃ res, Instr.findNow kind kv es i = some res ∧ FoundR φ es i r res
  | [], es, i, r, he, h => by
    simp only [ERs] at he
    subst he
    simp [findA] at h
    subst h
    exact ⟨none, by simp [Instr.findNow], rfl⟩
  | (k', v', b) :: l, es, i, r, he, h => by
    obtain ⟨e, es', rfl, h1, h2, h3, h4⟩ := he
    simp only [findA] at h
    split at h
    · rename_i heq
      cases h
      refine ⟨some (i, e.val), ?_, e, Nat.le_refl _, by simp, rfl, h1, h2, h3⟩
      simp [Instr.findNow, hs k' e.key true h1 heq]
    · rename_i heq
      obtain ⟨res, hr, hf⟩ := findNow_sound hs l es' (i + 1) r h4 h
      exact ⟨res, by simp [Instr.findNow, hs k' e.key false h1 heq, hr], hf.step⟩
    · cases h

theorem findKey_sound {t : TypeId} {d : EQ} (hd : eqDesc P 20 t = some d) {k : AV} {kv : Value} (hk : VR φ k kv) {l : List (AV × AV × Nat)} {es : List MapEntry} {r : Option (Nat × AV × AV × Nat)}
    (he : ERs φ l es) (h : findA d k l 0 = some r) (w : World) : ∃ res, (Instr.findKey t kv es).run P w = .ok res w ∧ FoundR φ es 0 r res := by
  have hd0 := hd
  simp only [eqDesc] at hd
  split at hd
  · rename_i kk hu
    cases hd
    obtain ⟨res, h1, h2⟩ := findNow_sound (kind := .int kk) (kv := kv) (fun k' kv' r hk' hh => by
      simp only [eqV] at hh
      match k, k', hh with
      | .int k1 a, .int k2 b, hh =>
        simp only [eqLi] at hh
        split at hh
        · rename_i e
          cases kidx_inj e
          cases hh
          simp only [VR] at hk hk'
          subst hk
          subst hk'
          simp [Instr.sameNow, eqI_eq]
        · cases hh) l es 0 r he h
    exact ⟨res, by simp [Instr.findKey, run_underlying hu, h1], h2⟩
  · rename_i hu
    cases hd
    obtain ⟨res, h1, h2⟩ := findNow_sound (kind := .bool) (kv := kv) (fun k' kv' r hk' hh => by
      simp only [eqV] at hh
      match k, k', hh with
      | .bool a, .bool b, hh =>
        simp only [eqLb] at hh
        cases hh
        simp only [VR] at hk hk'
        subst hk
        subst hk'
        simp [Instr.sameNow]) l es 0 r he h
    exact ⟨res, by simp [Instr.findKey, run_underlying hu, h1], h2⟩
  · rename_i hu
    cases hd
    obtain ⟨res, h1, h2⟩ := findNow_sound (kind := .string) (kv := kv) (fun k' kv' r hk' hh => by
      simp only [eqV] at hh
      match k, k', hh with
      | .str a, .str b, hh =>
        simp only [eqLs] at hh
        cases hh
        simp only [VR] at hk hk'
        subst hk
        subst hk'
        rw [strEq_eq]
        simp only [Instr.sameNow, beq_toListBytes, ba_toList]) l es 0 r he h
    exact ⟨res, by simp [Instr.findKey, run_underlying hu, h1], h2⟩
  · rename_i fs hu
    cases es with
    | nil =>
      cases l with
      | cons x l => obtain ⟨k1, v1, b1⟩ := x; obtain ⟨e, es', h0, _⟩ := he; cases h0
      | nil =>
        simp [findA] at h
        subst h
        exact ⟨none, by simp [Instr.findKey, run_underlying hu, Instr.findNow], rfl⟩
    | cons e es =>
      obtain ⟨res, h1, h2⟩ := findAsking_sound hd0 hk w l (e :: es) 0 r he h
      refine ⟨res, ?_, h2⟩
      have : Instr.findNow (.struct fs) kv (e :: es) 0 = none := by simp [Instr.findNow, Instr.sameNow]
      simp [Instr.findKey, run_underlying hu, this, h1]
  · cases hd

theorem flat1_sound {a b : AV} (h : flat1 a b = true) {x y : Value} (hx : VR φ a x) (hy : VR φ b y) (n : Nat) : x = y ∧ Instr.sameBits n x y = true := by
  match a, b, h with
  | .int k a, .int k' b, h =>
    simp only [flat1, Bool.and_eq_true] at h
    cases kidx_inj h.1
    have := h.2
    rw [eqI_eq] at this
    simp only [VR] at hx hy
    have e : a = b := by simpa using this
    subst hx hy e
    exact ⟨rfl, by cases n <;> simp [Instr.sameBits]⟩
  | .bool a, .bool b, h =>
    simp only [flat1] at h
    simp only [VR] at hx hy
    have e : a = b := by simpa using h
    subst hx hy e
    exact ⟨rfl, by cases n <;> simp [Instr.sameBits]⟩
  | .str a, .str b, h =>
    simp only [flat1, strEq_eq] at h
    simp only [VR] at hx hy
    have e : a = b := by simpa using h
    subst hx hy e
    exact ⟨rfl, by cases n <;> simp [Instr.sameBits, beq_toListBytes]⟩
theorem flats_sound : ∀ {a b : List AV}, flats a b = true → ∀ {x y : List Value}, VRs φ a x → VRs φ b y → ∀ n, x = y ∧ (x.zip y).all (fun (u, v) => Instr.sameBits n u v) = true
  | [], [], _, x, y, hx, hy, n => by simp only [VRs] at hx hy; subst hx hy; simp
  | a :: l, b :: m, h, x, y, ⟨v, vs, e1, h1, h2⟩, ⟨u, us, e2, h3, h4⟩, n => by
    subst e1 e2
    simp only [flats, Bool.and_eq_true] at h
    obtain ⟨r1, r2⟩ := flat1_sound h.1 h1 h3 n
    obtain ⟨r3, r4⟩ := flats_sound h.2 h2 h4 n
    subst r1 r3
    simp [r2]
    simpa using r4
theorem flatSame_sound {a b : AV} (h : flatSame a b = true) {x y : Value} (hx : VR φ a x) (hy : VR φ b y) (n : Nat) : x = y ∧ Instr.sameBits (n + 1) x y = true := by
  cases a
  case agg as =>
    cases b
    case agg bs =>
      simp only [flatSame] at h
      obtain ⟨us, rfl, h1⟩ := hx
      obtain ⟨vs, rfl, h2⟩ := hy
      obtain ⟨e, h3⟩ := flats_sound h h1 h2 n
      subst e
      exact ⟨rfl, by simp [Instr.sameBits] ; simpa using h3⟩
    all_goals (simp [flatSame, flat1] at h)
  all_goals exact flat1_sound (by cases b <;> simpa [flatSame] using h) hx hy (n + 1)
end
end Go.Ev
