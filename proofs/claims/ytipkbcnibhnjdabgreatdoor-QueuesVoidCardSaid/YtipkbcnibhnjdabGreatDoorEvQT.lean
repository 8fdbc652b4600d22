/-
Joined texts.
-/
import Derived.Test.YtipkbcnibhnjdabGreatDoorEvNP
set_option linter.unusedVariables false
set_option linter.unusedSimpArgs false
/-
A region that draws its order: one operation carries it on, whatever comes next.
-/
namespace Go.Ev

/-- no heavy one, no allocation that comes up -/
def Set.calm (S : Set) (p : Nat) : Role → Prop
  | .heavy => False
  | .alloc _ => S.want p ≠ some true
  | _ => True

section
variable {S : Set}

theorem Set.OK.ne_pos (ok : S.OK) {p q i j : Nat} {r r' : Role} (h : S.l[p]? = some (i, r)) (h' : S.l[q]? = some (j, r')) (hne : p ≠ q) : i ≠ j := fun e => by
  subst e
  exact hne (ok.pos_unique h h')

theorem Set.OK.dst_ne' (ok : S.OK) {i j : Nat} {o o' : Oper} {d : Nat} (ho : S.ops[i]? = some o) (ho' : S.ops[j]? = some o') (hij : i ≠ j) (hd : o'.dst = some d) : o.dst ≠ some d ∧ (d ∈ tmpsOf S.ops.toList o → anc S.A i j = true ∨ anc S.A j i = true) := by
  obtain ⟨hi, e1⟩ := Array.getElem?_eq_some_iff.1 ho
  obtain ⟨hj, e2⟩ := Array.getElem?_eq_some_iff.1 ho'
  have := ok.dst_ne hi hj hij (d := d) (by rw [Set.OK.oper_eq hj, e2]; exact hd)
  rwa [Set.OK.oper_eq hi, e1] at this

/-- A temporary that an operation reads. -/
theorem Set.OK.tmpAt (ok : S.OK) {D : Nat → Prop} {φ : Emb} {a : Act} (hf : FrI S D φ a) {p i : Nat} {r : Role} {o : Oper} (hx : S.l[p]? = some (i, r)) (ho : S.ops[i]? = some o) (hn : ¬ D i) (hanc : ∀ j, j < S.ops.size → anc S.A i j = true → D j) (hcl : ∀ i j, i < S.ops.size → D i → j < S.ops.size → anc S.A i j = true → D j) {t : Nat} (ht : t ≤ 100000)
    (hm : t ∈ tmpsOf S.ops.toList o) : VR φ (opnd (S.f p).T (.t (tpos t))) (a.tmps.getD t undef) := by
  have hpL : p ≤ S.l.length := Nat.le_of_lt (List.getElem?_eq_some_iff.1 hx).1
  by_cases hw : ∃ (q j : Nat) (r' : Role) (o' : Oper), q ≠ p ∧ S.l[q]? = some (j, r') ∧ S.ops[j]? = some o' ∧ o'.dst = some t
  · obtain ⟨q, j, r', o', hqp, hq, ho', hd⟩ := hw
    have hij := ok.ne_pos hx hq (Ne.symm hqp)
    have hj : j < S.ops.size := (Array.getElem?_eq_some_iff.1 ho').1
    rcases (ok.dst_ne' ho ho' hij hd).2 hm with ha | ha
    case inr =>
      have hi : i < S.ops.size := (Array.getElem?_eq_some_iff.1 ho).1
      have hnj : ¬ D j := fun h => hn (hcl j i hj h hi ha)
      obtain ⟨p', r'', hlt, hp'⟩ := (ok.at hq).2.2 i hi ha
      have : p = p' := ok.pos_unique hx hp'
      subst this
      have hk : (S.f p).T.get (tpos t) = (S.f 0).T.get (tpos t) := ok.tkeep' ht (Nat.zero_le _) hpL fun s i2 rr o2 _ h2 h3 h4 => (ok.dst_ne' h4 ho' (ok.ne_pos h3 hq (by omega)) hd).1
      simp only [opnd, hk]
      refine hf.rest t ht fun j2 o2 h1 h2 => ?_
      by_cases e : j2 = j
      · subst e; exact absurd h2 hnj
      · exact (ok.dst_ne' h1 ho' e hd).1
    obtain ⟨q', r'', hlt, hq'⟩ := (ok.at hx).2.2 j hj ha
    have : q = q' := ok.pos_unique hq hq'
    subst this
    have hv := hf.done q j r' o' t hq ho' hd (hanc j hj ha)
    have hk : (S.f p).T.get (tpos t) = (S.f (q + 1)).T.get (tpos t) := ok.tkeep' ht (by omega) hpL fun s i2 rr o2 h1 h2 h3 h4 => (ok.dst_ne' h4 ho' (ok.ne_pos h3 hq (by omega)) hd).1
    simp only [opnd, hk]
    exact hv
  · have hno : ∀ (q j : Nat) (r' : Role) (o' : Oper), q ≠ p → S.l[q]? = some (j, r') → S.ops[j]? = some o' → o'.dst ≠ some t := fun q j r' o' h1 h2 h3 h4 => hw ⟨q, j, r', o', h1, h2, h3, h4⟩
    have hk : (S.f p).T.get (tpos t) = (S.f 0).T.get (tpos t) := ok.tkeep' ht (Nat.zero_le _) hpL fun s i2 rr o2 _ h2 h3 h4 => hno s i2 rr o2 (by omega) h3 h4
    simp only [opnd, hk]
    refine hf.rest t ht fun j o' h1 h2 h3 => ?_
    obtain ⟨q, r', hq⟩ := ok.pos (Array.getElem?_eq_some_iff.1 h1).1
    by_cases e : q = p
    · subst e
      rw [hx] at hq
      cases hq
      exact hn h2
    · exact hno q j r' o' e hq h1 h3

theorem Set.OK.frStep (ok : S.OK) {D : Nat → Prop} {φ φ' : Emb} {a : Act} (hf : FrI S D φ a) (hmono : ∀ i x, φ i = some x → φ' i = some x) {p i : Nat} {r : Role} {o : Oper} (hx : S.l[p]? = some (i, r)) (ho : S.ops[i]? = some o) {v : AV} {u : Value}
    (hT : (S.f (p + 1)).T = (S.f p).T.set (o.dst.map tpos) v) (hd : ∀ d, o.dst = some d → d < S.nt ∧ d ≤ 100000) (hv : VR φ' v u) : FrI S (fun j => j = i ∨ D j) φ' (a.put o.dst u) := by
  have put_ne : ∀ t, o.dst ≠ some t → (a.put o.dst u).tmps.getD t undef = a.tmps.getD t undef := fun t hne => by
    cases hdst : o.dst with
    | none => rfl
    | some d =>
      have hne : d ≠ t := fun e => hne (by rw [hdst, e])
      simp [Act.put, Array.getElem?_setIfInBounds_ne hne]
  refine ⟨fun q j r' o' d hq ho' hd' hD => ?_, fun t ht hno => ?_, ?_, ?_⟩
  · by_cases e : q = p
    · subst e
      rw [hx] at hq
      cases hq
      rw [ho] at ho'
      cases ho'
      obtain ⟨h1, h2⟩ := hd d hd'
      have hlt : d < a.tmps.size := Nat.lt_of_lt_of_le h1 hf.room
      rw [hT, hd']
      simp only [opnd, Option.map_some, Tm.set, Tr.get_put_same, Act.put]
      simp [hlt]
      exact hv
    · have hij := ok.ne_pos hx hq (Ne.symm e)
      rw [put_ne d (ok.dst_ne' ho ho' hij hd').1]
      rcases hD with rfl | hD
      · exact absurd rfl hij
      · exact (hf.done q j r' o' d hq ho' hd' hD).mono hmono
  · rw [put_ne t (hno i o ho (.inl rfl))]
    exact (hf.rest t ht fun j o' h1 h2 => hno j o' h1 (.inr h2)).mono hmono
  · cases hdst : o.dst with
    | none => exact hf.room
    | some d => simp [Act.put]; exact hf.room
  · cases hdst : o.dst with
    | none => exact hf.defers
    | some d => exact hf.defers

theorem Set.OK.frEnd (ok : S.OK) {D : Nat → Prop} {φ : Emb} {a : Act} (hf : FrI S D φ a) (hall : ∀ i, i < S.ops.size → D i) : FrOK φ (S.f S.l.length).T a S.nt := by
  refine ⟨fun t ht => ?_, hf.room, hf.defers⟩
  by_cases hw : ∃ (q j : Nat) (r' : Role) (o' : Oper), S.l[q]? = some (j, r') ∧ S.ops[j]? = some o' ∧ o'.dst = some t
  · obtain ⟨q, j, r', o', hq, ho', hd⟩ := hw
    have hv := hf.done q j r' o' t hq ho' hd (hall j (Array.getElem?_eq_some_iff.1 ho').1)
    have hk : (S.f S.l.length).T.get (tpos t) = (S.f (q + 1)).T.get (tpos t) := ok.tkeep' ht (List.getElem?_eq_some_iff.1 hq).1 (Nat.le_refl _) fun s i2 rr o2 h1 h2 h3 h4 => (ok.dst_ne' h4 ho' (ok.ne_pos h3 hq (by omega)) hd).1
    simp only [opnd, hk]
    exact hv
  · have hno : ∀ (q j : Nat) (r' : Role) (o' : Oper), S.l[q]? = some (j, r') → S.ops[j]? = some o' → o'.dst ≠ some t := fun q j r' o' h2 h3 h4 => hw ⟨q, j, r', o', h2, h3, h4⟩
    have hk : (S.f S.l.length).T.get (tpos t) = (S.f 0).T.get (tpos t) := ok.tkeep' ht (Nat.zero_le _) (Nat.le_refl _) fun s i2 rr o2 _ h2 h3 h4 => hno s i2 rr o2 h3 h4
    simp only [opnd, hk]
    refine hf.rest t ht fun j o' h1 h2 h3 => ?_
    obtain ⟨q, r', hq⟩ := ok.pos (Array.getElem?_eq_some_iff.1 h1).1
    exact hno q j r' o' hq h1 h3

theorem Set.OK.heavy_pos (ok : S.OK) {k : Nat} (hk : k < S.m) : ∃ q j, S.l[q]? = some (j, .heavy) ∧ rank S.l q = k ∧ (heavyOf S.l).getD k S.ops.size = j ∧ j < S.ops.size := by
  obtain ⟨q, j, h1, h2, h3⟩ := heavy_at S.l.length k (by rw [rank_len]; exact hk)
  have := (rank_heavy h2 S.ops.size).1
  rw [h3] at this
  exact ⟨q, j, h2, h3, this, (ok.at h2).1⟩
end

section
variable {S : Set} {φ0 : Emb} {Hs : Hp} {w0 : World}

/-- Nothing of the heap turns: any operation but a heavy one and an allocation that comes up. -/
theorem Inv.idle (ok : S.OK) {D : Nat → Prop} {φ : Emb} {k : Nat} {w : World} (inv : Inv S φ0 Hs w0 D φ k w) {p i : Nat} {r : Role} (hx : S.l[p]? = some (i, r)) (hn : ¬ D i) (hr : S.calm p r) :
    Inv S φ0 Hs w0 (fun j => j = i ∨ D j) φ k w := by
  have other : ∀ {q j : Nat} {r' : Role}, S.l[q]? = some (j, r') → r' ≠ r → j ≠ i := fun {q j r'} hq hne e => by
    subst e
    have := ok.pos_unique hx hq
    subst this
    rw [hx] at hq
    cases hq
    exact hne rfl
  have wanted : ∀ {q j c : Nat}, S.l[q]? = some (j, .alloc c) → S.want q = some true → j = i ∨ D j → D j := fun {q j c} hq hw h => by
    rcases h with rfl | h
    · exfalso
      have := ok.pos_unique hx hq
      subst this
      rw [hx] at hq
      cases hq
      exact hr hw
    · exact h
  refine ⟨inv.le, fun q j hq => ?_, inv.rep, inv.ext, inv.nx, fun q j c hq hD hk hw => inv.pend q j c hq (wanted hq hw hD) hk hw, fun q j c q' j' c' b s n s' n' h1 h2 h3 h4 h5 h6 h7 h8 => inv.dist q j c q' j' c' b s n s' n' h1 (wanted h1 h4 h2) h3 h4 h5 (wanted h5 h8 h6) h7 h8, fun q j c hq hD => inv.notyet q j c hq fun h => hD (.inr h)⟩
  rw [← inv.heavy q j hq]
  have hne : j ≠ i := other hq (fun e => by subst e; exact hr)
  simp [hne]

theorem Inv.kept (ok : S.OK) (hb0 : Hs.next = S.base) {D : Nat → Prop} {φ : Emb} {k : Nat} {w : World} (inv : Inv S φ0 Hs w0 D φ k w) {p i c : Nat} (hx : S.l[p]? = some (i, .alloc c)) :
    Hs.next.toNat ≤ (S.base.plus c).toNat ∧ (S.base.plus c).toNat < (S.V k).next.toNat := by
  have h := (ok.role hx).1
  have := inv.nx
  rw [Pos.toNat_plus] at this ⊢
  rw [hb0]
  omega

/-- An allocation. -/
theorem Inv.alloc (ok : S.OK) (hb0 : Hs.next = S.base) {D : Nat → Prop} {φ : Emb} {k : Nat} {w : World} (inv : Inv S φ0 Hs w0 D φ k w) {p i c : Nat} (hx : S.l[p]? = some (i, .alloc c)) (hn : ¬ D i) {o : AObj} {bl : Bld} {cob : Obj} {n : Nat} (hm : S.made p = some (o, bl)) (ho : OR φ 0 n o cob) :
    Inv S φ0 Hs w0 (fun j => j = i ∨ D j) (upd φ (S.base.plus c) (w.heap.size, 0, n)) k (w.alloc cob) := by
  have hφ := inv.notyet p i c hx hn
  have hm' := upd_mono (φ := φ) (i := S.base.plus c) (w.heap.size, 0, n) hφ
  obtain ⟨hge, hlt⟩ := inv.kept ok hb0 hx
  have hlive : ∀ o, (S.V k).t.get (S.base.plus c) ≠ some o := fun o h => by
    obtain ⟨b, s, m, h1, _⟩ := inv.rep.obj _ _ h
    rw [hφ] at h1; cases h1
  have cne : ∀ {q j c' : Nat}, S.l[q]? = some (j, .alloc c') → j ≠ i → S.base.plus c ≠ S.base.plus c' := fun {q j c'} hq hne e => by
    have := Pos.plus_inj e
    subst this
    have := ok.alloc_unique hx hq
    subst this
    rw [hx] at hq
    cases hq
    exact hne rfl
  have old : ∀ {q j c' : Nat}, S.l[q]? = some (j, .alloc c') → D j → k ≤ rank S.l q → S.want q = some true → ∀ b s n', φ (S.base.plus c') = some (b, s, n') → b < w.heap.size := fun {q j c'} hq hD hk hw b s n' hφ' => by
    obtain ⟨b', n2, _, _, cob', _, h2, _, h4, _⟩ := inv.pend q j c' hq hD hk hw
    rw [h2] at hφ'
    cases hφ'
    exact (Array.getElem?_eq_some_iff.1 h4).1
  have newAt : ∀ {q j c' : Nat}, S.l[q]? = some (j, .alloc c') → j = i → c' = c := fun {q j c'} hq e => by
    subst e
    have := ok.pos_unique hx hq
    subst this
    rw [hx] at hq
    cases hq
    rfl
  refine ⟨inv.le, fun q j hq => ?_, inv.rep.ghost hφ hlt cob n, inv.ext.ghost hφ hge hlive cob n, inv.nx, fun q j c' hq hD hk hw => ?_, fun q j c1 q' j' c2 b s n1 s' n2 h1 h2 h3 h4 h5 h6 h7 h8 h9 h10 => ?_, fun q j c' hq hD => ?_⟩
  · rw [← inv.heavy q j hq]
    have hne : j ≠ i := fun e => by
      subst e
      have := ok.pos_unique hx hq
      subst this
      rw [hx] at hq
      cases hq
    simp [hne]
  · by_cases e : j = i
    · have ec := newAt hq e
      subst e; subst ec
      have := ok.pos_unique hx hq
      subst this
      refine ⟨w.heap.size, n, o, bl, cob, hm, upd_same _ _ _, inv.ext.size, by rw [heap_alloc_get, if_pos rfl], ho.mono hm', fun j' o' s m hj hφ' => ?_⟩
      rw [upd_ne _ _ (fun e => by subst e; exact hlive _ hj)] at hφ'
      have := inv.rep.block_lt hj hφ'
      omega
    · have hD : D j := hD.resolve_left e
      obtain ⟨b, n', o', bl', cob', m1, m2, m3, m4, m5, m6⟩ := inv.pend q j c' hq hD hk hw
      have hb := old hq hD hk hw b 0 n' m2
      refine ⟨b, n', o', bl', cob', m1, hm' _ _ m2, m3, by rw [heap_alloc_get, if_neg (by omega)]; exact m4, m5.mono hm', fun j' o'' s m hj hφ' => ?_⟩
      rw [upd_ne _ _ (fun e => by subst e; exact hlive _ hj)] at hφ'
      exact m6 j' o'' s m hj hφ'
  · by_cases e1 : j = i
    · have ec1 := newAt h1 e1
      by_cases e2 : j' = i
      · rw [ec1, newAt h5 e2]
      · have hD' : D j' := h6.resolve_left e2
        subst ec1
        rw [upd_same] at h9
        rw [upd_ne _ _ (cne h5 e2)] at h10
        have := old h5 hD' h7 h8 _ _ _ h10
        cases h9
        omega
    · have hD : D j := h2.resolve_left e1
      rw [upd_ne _ _ (cne h1 e1)] at h9
      by_cases e2 : j' = i
      · have ec2 := newAt h5 e2
        subst ec2
        rw [upd_same] at h10
        have := old h1 hD h3 h4 _ _ _ h9
        cases h10
        omega
      · have hD' : D j' := h6.resolve_left e2
        rw [upd_ne _ _ (cne h5 e2)] at h10
        exact inv.dist q j c1 q' j' c2 b s n1 s' n2 h1 hD h3 h4 h5 hD' h7 h8 h9 h10
  · have e : j ≠ i := fun e => hD (.inl e)
    rw [upd_ne _ _ (cne hq e)]
    exact inv.notyet q j c' hq fun h => hD (.inr h)

/-- A heavy one. -/
theorem Inv.turned (ok : S.OK) (hb0 : Hs.next = S.base) {D : Nat → Prop} {φ φ' : Emb} {k : Nat} {w w' : World} (inv : Inv S φ0 Hs w0 D φ k w) {p0 p i : Nat} (hx : S.l[p]? = some (i, .heavy)) (hn : ¬ D i) (hrk : rank S.l p = k) (hk0 : rank S.l p0 = k) (hp0 : p0 ≤ p)
    (hext : Ext φ0 Hs w0 φ (S.f p).H w) (hnext : (S.f p).H.next = (S.V k).next)
    (hlive : ∀ j o', (S.f p).H.t.get j = some o' → (∃ o'', (S.V k).t.get j = some o'') ∨ ∃ r i c, p0 ≤ r ∧ r < p ∧ S.l[r]? = some (i, .alloc c) ∧ S.want r = some true ∧ j = S.base.plus c)
    (hdone : ∀ r i c, p0 ≤ r → r < p → S.l[r]? = some (i, .alloc c) → D i)
    (hV : S.V (k + 1) = (S.f (p + 1)).H) (hrep' : Rep S.P S.E.globals φ' (S.f (p + 1)).H w') (hext' : Ext φ (S.f p).H w φ' (S.f (p + 1)).H w') : Inv S φ0 Hs w0 (fun j => j = i ∨ D j) φ' (k + 1) w' := by
  have hi : ∀ {q j : Nat} {c : Nat}, S.l[q]? = some (j, .alloc c) → j ≠ i := fun {q j c} hq e => by
    subst e
    have := ok.pos_unique hx hq
    subst this
    rw [hx] at hq
    cases hq
  have hle : k < S.m := by rw [← hrk]; exact (rank_heavy hx S.ops.size).2
  have stay : ∀ {q j c : Nat}, S.l[q]? = some (j, .alloc c) → φ' (S.base.plus c) = φ (S.base.plus c) := fun {q j c} hq => hext'.same _ (by rw [hnext]; exact (inv.kept ok hb0 hq).2)
  -- a pending block is none of the heap's
  have apart : ∀ {q j c : Nat}, S.l[q]? = some (j, .alloc c) → D j → k + 1 ≤ rank S.l q → S.want q = some true → ∀ b n, φ (S.base.plus c) = some (b, 0, n) → (∀ j' o' s m, (S.V k).t.get j' = some o' → φ j' ≠ some (b, s, m)) →
      ∀ j' o' s m, (S.f p).H.t.get j' = some o' → φ j' ≠ some (b, s, m) := fun {q j c} hq hD hk hw b n hφ hno j' o' s m hj hφ' => by
    rcases hlive j' o' hj with ⟨o'', h⟩ | ⟨r, i', c', h1, h2, h3, h4, rfl⟩
    · exact hno j' o'' s m h hφ'
    · have hr : k ≤ rank S.l r := by rw [← hk0]; exact rank_le h1
      have := inv.dist q j c r i' c' b _ _ _ _ hq hD (by omega) hw h3 (hdone r i' c' h1 h2 h3) hr h4 hφ hφ'
      subst this
      have := ok.alloc_unique hq h3
      subst this
      have := rank_le (l := S.l) (p := q) (q := p) (by omega)
      omega
  refine ⟨hle, fun q j hq => ?_, hV ▸ hrep', hV ▸ (hext.trans hext'), ?_, fun q j c hq hD hk hw => ?_, fun q j c1 q' j' c2 b s n1 s' n2 h1 h2 h3 h4 h5 h6 h7 h8 h9 h10 => ?_, fun q j c hq hD => ?_⟩
  · by_cases e : j = i
    · subst e
      have := ok.pos_unique hx hq
      subst this
      simp [hrk]
    · have hD := inv.heavy q j hq
      have hne : rank S.l q ≠ k := fun e' => e (by
        have h1 := (rank_heavy hq S.ops.size).1
        have h2 := (rank_heavy hx S.ops.size).1
        rw [e'] at h1
        rw [hrk] at h2
        exact h1.symm.trans h2)
      simp only [e, false_or, hD]
      omega
  · rw [hV]
    exact Nat.le_trans inv.nx (by rw [← hnext]; exact hext'.next)
  · have hD : D j := hD.resolve_left (hi hq)
    obtain ⟨b, n', o', bl', cob', m1, m2, m3, m4, m5, m6⟩ := inv.pend q j c hq hD (by omega) hw
    have hap := apart hq hD hk hw b n' m2 m6
    have hb : b < w.heap.size := (Array.getElem?_eq_some_iff.1 m4).1
    refine ⟨b, n', o', bl', cob', m1, hext'.mono _ _ m2, m3, by rw [hext'.frame b hb fun j o s n h e => absurd e (hap j o s n h)]; exact m4, m5.mono hext'.mono, fun j' o'' s m hj hφ' => ?_⟩
    rw [hV] at hj
    rcases hext'.img j' o'' b s m hj hφ' with h | ⟨j2, o2, s2, n2, h1, h2, _⟩
    · omega
    · exact hap j2 o2 s2 n2 h1 h2
  · have hD : D j := h2.resolve_left (hi h1)
    have hD' : D j' := h6.resolve_left (hi h5)
    rw [stay h1] at h9
    rw [stay h5] at h10
    exact inv.dist q j c1 q' j' c2 b s n1 s' n2 h1 hD (by omega) h4 h5 hD' (by omega) h8 h9 h10
  · rw [stay hq]
    exact inv.notyet q j c hq fun h => hD (.inr h)
end
end Go.Ev

/-
A region that draws its order, whole.
-/
namespace Go.Ev

def cnt (l : List Bool) : Nat := l.count false
theorem cnt_set : ∀ {l : List Bool} {i : Nat}, l[i]? = some false → cnt (l.set i true) + 1 = cnt l
  | [], _, h => by simp at h
  | b :: l, 0, h => by simp at h; subst h; simp [cnt]
  | b :: l, i + 1, h => by
    have := cnt_set (l := l) (i := i) (by simpa using h)
    simp only [cnt, List.set_cons_succ, List.count_cons] at this ⊢
    omega

section
variable {S : Set} {φ0 : Emb} {Hs : Hp} {w0 : World}

theorem Set.OK.one (ok : S.OK) (hg0 : S.P.globals.size ≤ w0.heap.size) (hb0 : Hs.next = S.base) {D : Nat → Prop} {φ : Emb} {k : Nat} {a : Act} {w : World} (inv : Inv S φ0 Hs w0 D φ k w) (hf : FrI S D φ a) {i : Nat} {o : Oper} (ho : S.ops[i]? = some o) (hn : ¬ D i) (hanc : ∀ j, j < S.ops.size → anc S.A i j = true → D j) (hcl : ∀ i j, i < S.ops.size → D i → j < S.ops.size → anc S.A i j = true → D j)
    {K : Act → World → Prop} {Q : Exit → Act → World → Prop} (hK : ∀ φ' k' a' w', Inv S φ0 Hs w0 (fun j => j = i ∨ D j) φ' k' w' → FrI S (fun j => j = i ∨ D j) φ' a' → K a' w') : wpOp S.P S.ops Q i K a w := by
  have hi : i < S.ops.size := (Array.getElem?_eq_some_iff.1 ho).1
  obtain ⟨p, r, hx⟩ := ok.pos hi
  obtain ⟨o', x, v, ho', hrow, hl, hdst, hd, hT⟩ := ok.keep hx
  rw [ho] at ho'
  cases ho'
  obtain ⟨p1, p2, p3, p4⟩ := lowI_parts hl
  have hpL : p ≤ S.l.length := Nat.le_of_lt (List.getElem?_eq_some_iff.1 hx).1
  have hpL' : p + 1 ≤ S.l.length := (List.getElem?_eq_some_iff.1 hx).1
  have hst := ok.step p _ hrow
  have htmp : ∀ t, t ∈ tmpsOf S.ops.toList o → t ≤ 100000 → VR φ (opnd (S.f p).T (.t (tpos t))) (a.tmps.getD t undef) := fun t hm ht => ok.tmpAt hf hx ho hn hanc hcl ht hm
  have hop : ∀ y ∈ o.op.operands, OpR φ (S.f p).T a y := fun y hy => opR_of fun t e ht => htmp t (by
    unfold tmpsOf
    refine List.mem_append_left _ ?_
    rw [List.mem_filterMap]
    exact ⟨y, by simpa using hy, by rw [e]⟩) ht
  have hguard : ∀ b, wantedA (S.f p).T x.guard = some b → Region.wanted o (yielded S.ops a.tmps) = b := fun b hb => wanted_sound (φ := φ) p2 (fun j b' d hg hd' hle => htmp d (by
    unfold tmpsOf
    refine List.mem_append_right _ ?_
    rw [hg]
    simp only [Array.getElem?_toList, hd', Option.toList_some, List.mem_singleton]) hle) hb
  have hwant : ∀ b, wantedA (S.f p).T x.guard = some b → S.want p = some b := fun b hb => by simp [Set.want, hrow, hb]
  -- what a heavy one finds
  have heavyAt : r = .heavy → rank S.l p = k ∧ ∃ p0, p0 ≤ p ∧ rank S.l p0 = k ∧ (∀ r' i' c, p0 ≤ r' → r' < p → S.l[r']? = some (i', .alloc c) → D i') ∧ Rep S.P S.E.globals φ (S.f p).H w ∧ Ext φ0 Hs w0 φ (S.f p).H w ∧ (S.f p).H.next = (S.V k).next ∧
      (∀ j o', (S.f p).H.t.get j = some o' → (∃ o'', (S.V k).t.get j = some o'') ∨ ∃ r i c, p0 ≤ r ∧ r < p ∧ S.l[r]? = some (i, .alloc c) ∧ S.want r = some true ∧ j = S.base.plus c) ∧ S.V (k + 1) = (S.f (p + 1)).H := fun e => by
    subst e
    have hrk : rank S.l p = k := by
      have h1 := (not_congr (inv.heavy p i hx)).1 hn
      have h2 := ok.role hx
      simp only [] at h2
      cases hk : rank S.l p with
      | zero => omega
      | succ k1 =>
        have ha := h2 k1 hk
        have hk1 : k1 < S.m := by
          have := (rank_heavy hx S.ops.size).2
          unfold Set.m
          omega
        obtain ⟨q, j, h3, h4, h5, h6⟩ := ok.heavy_pos hk1
        rw [h5] at ha
        have := (inv.heavy q j h3).1 (hanc j h6 ha)
        omega
    obtain ⟨p0, h1, h2, h3⟩ := ok.stage hpL
    rw [hrk] at h2 h3
    have hdn : ∀ r' i' c, p0 ≤ r' → r' < p → S.l[r']? = some (i', .alloc c) → D i' := fun r' i' c h4 h5 h6 => by
      have hr' : rank S.l r' = k := by
        have g1 := rank_le (l := S.l) h4
        have g2 := rank_le (l := S.l) (Nat.le_of_lt h5)
        omega
      have g := (ok.role h6).2.2
      rw [hr'] at g
      have hm := (rank_heavy hx S.ops.size)
      rw [hrk] at hm
      rcases g with g | g
      · have := hm.2
        unfold Set.m at g
        omega
      · rw [hm.1] at g
        exact hanc i' (ok.at h6).1 g
    obtain ⟨d, rfl⟩ := Nat.le.dest h1
    obtain ⟨r1, r2, r3, r4⟩ := ok.abs hg0 inv h3 h2 hpL hrk hdn
    refine ⟨hrk, p0, h1, h2, hdn, r1, r2, r3, r4, ?_⟩
    have hs := stepD_hs hst
    simp only [] at hs
    have hh := (ok.hs _ hpL').1
    rw [hs.1, hs.2.1, ok.k_eq hpL, hrk] at hh
    simp only [hsOf, List.cons.injEq, Prod.mk.injEq, true_and] at hh
    exact hh.1.symm
  unfold wpOp
  rw [ho]
  simp only []
  cases hwa : wantedA (S.f p).T x.guard with
  | none => unfold stepD at hst; simp only [hwa] at hst; cases hst
  | some b =>
  rw [hguard b hwa]
  cases b with
  | false =>
    simp only [Bool.false_eq_true, if_false]
    have hT0 : (S.f (p + 1)).T = (S.f p).T.set (o.dst.map tpos) AV.undef := by
      rw [← p3]
      unfold stepD at hst
      simp only [hwa] at hst
      (repeat' split at hst) <;> first | (cases hst; done) | (simp only [Option.some.injEq] at hst; rw [← hst])
    have hfr := ok.frStep hf (fun _ _ h => h) hx ho hT0 hd (VR_undef φ)
    cases r with
    | heavy =>
      obtain ⟨hrk, p0, h1, h2, h3, r1, r2, r3, r4, hV⟩ := heavyAt rfl
      have eH : (S.f (p + 1)).H = (S.f p).H := by
        unfold stepD at hst
        simp only [hwa] at hst
        split at hst
        · simp only [Option.some.injEq] at hst; rw [← hst]
        · cases hst
      exact hK φ (k + 1) _ w (inv.turned ok hb0 hx hn hrk h2 h1 r2 r3 r4 h3 hV (eH ▸ r1) (eH ▸ Ext.refl φ _ w)) hfr
    | pure => exact hK φ k _ w (inv.idle ok hx hn trivial) hfr
    | read lo hi => exact hK φ k _ w (inv.idle ok hx hn trivial) hfr
    | alloc c => exact hK φ k _ w (inv.idle ok hx hn (by simp [Set.calm, hwant _ hwa])) hfr
  | true =>
    simp only [if_true]
    have value : ∀ H vv, Rep S.P S.E.globals φ H w → evalV S.E.globals (S.f p).T H x.op = some vv → (S.f (p + 1)).T = (S.f p).T.set x.dst vv → S.calm p r →
        o.wp S.P a w K Q := fun H vv hr he hT1 hrole => by
      obtain ⟨uv, r1, r2⟩ := evalV_sound o.op φ H w (S.f p).T a x.op vv o rfl p1 hr hop he
      unfold Oper.wp
      rw [r1]
      exact hK φ k _ w (inv.idle ok hx hn hrole) (ok.frStep hf (fun _ _ h => h) hx ho (p3 ▸ hT1) hd r2)
    cases r with
    | heavy =>
      obtain ⟨hrk, p0, h1, h2, h3, r1, r2, r3, r4, hV⟩ := heavyAt rfl
      unfold stepD at hst
      simp only [hwa] at hst
      split at hst
      · rename_i vv H' hev
        split at hst
        · simp only [Option.some.injEq] at hst
          have eH : (S.f (p + 1)).H = H' := by rw [← hst]
          have eT : (S.f (p + 1)).T = (S.f p).T.set x.dst vv := by rw [← hst]
          refine .inl (op_wp ok.good ok.meths p1 r1 hop hev fun u w' φ' s1 s2 s3 => ?_)
          exact hK φ' (k + 1) _ w' (inv.turned ok hb0 hx hn hrk h2 h1 r2 r3 r4 h3 hV (eH ▸ s2) (eH ▸ s3)) (ok.frStep hf s3.mono hx ho (p3 ▸ eT) hd s1)
        · cases hst
      · cases hst
    | pure =>
      unfold stepD at hst
      simp only [hwa] at hst
      split at hst
      · rename_i vv hev
        simp only [Option.some.injEq] at hst
        refine .inl (value ⟨.lf, (S.V k).next⟩ vv ?_ (by rw [← hev]; exact evalV_next ..) (by rw [← hst]) trivial)
        exact ⟨fun i o h => by simp [Tr.get_lf] at h, fun i j o o' b s n s' n' h => by simp [Tr.get_lf] at h, inv.rep.fresh, inv.rep.size, inv.rep.glob⟩
      · cases hst
    | read lo hi' =>
      have hlen : S.rows.length = S.l.length := by simp [Set.rows]
      obtain ⟨vv, e1, e2, e3⟩ := read_window (call := S.call) (E := S.E) (base := S.base) (l := S.rows) (f := S.f) (fun p x h => ok.step p x h) (V := S.V) (by rw [hlen]; exact ok.hs) hrow hwa
      rw [hlen, ok.k_eq (Nat.le_refl _), rank_len] at e3
      obtain ⟨g1, g2⟩ := ok.role hx
      refine .inl (value (S.V k) vv inv.rep (e3 k ?_ ?_ inv.le) e1 trivial)
      · cases lo with
        | zero => exact Nat.zero_le _
        | succ k1 =>
          obtain ⟨h1, h2⟩ := g1 k1 rfl
          obtain ⟨q, j, h3, h4, h5, h6⟩ := ok.heavy_pos h1
          rw [h5] at h2
          have := (inv.heavy q j h3).1 (hanc j h6 h2)
          omega
      · rcases Nat.lt_or_ge hi' S.m with hlt | hge
        · have g2 := g2.resolve_left (by omega)
          obtain ⟨q, j, h3, h4, h5, h6⟩ := ok.heavy_pos hlt
          rw [h5] at g2
          rcases Nat.lt_or_ge hi' k with hk | hk
          · exfalso
            -- j would have come up, and i ahead of it
            have hDj := (inv.heavy q j h3).2 (by omega)
            exact hn (hcl j i h6 hDj hi g2)
          · exact hk
        · exact Nat.le_trans inv.le hge
    | alloc c =>
      unfold stepD at hst
      simp only [hwa] at hst
      split at hst
      · rename_i ob bl hev
        simp only [Option.some.injEq] at hst
        obtain ⟨cob, n, r1, r2, r3⟩ := evalA_sound (G := S.E.globals) o.op φ (S.V k) w (S.f p).T a x.op ob bl o rfl p1 inv.rep hop hev
        refine .inl ?_
        unfold Oper.wp
        rw [r1]
        exact hK _ k _ _ (inv.alloc ok hb0 hx hn (o := ob) (bl := bl) (by simp only [Set.made, hrow, hev]) r2) (ok.frStep hf (upd_mono _ (inv.notyet p i c hx hn)) hx ho (v := bl.of (S.base.plus c)) (by rw [← p3, ← hst]) hd (r3 _ _ (upd_same _ _ _)))
      · cases hst
end
end Go.Ev

/-
A region that draws its order: the rule.
-/
namespace Go.Ev
section
variable {S : Set} {φ0 : Emb} {Hs : Hp} {w0 : World}

theorem Set.OK.all_done (ok : S.OK) {listed : Array Bool} {D : Nat → Prop} (hD : ∀ j, D j ↔ listed.getD j false = true) (hs : listed.size = S.ops.size) (hr : Region.ready .any S.ops listed = []) : ∀ n i, i < n → i < S.ops.size → D i
  | 0, i, h, _ => absurd h (Nat.not_lt_zero _)
  | n + 1, i, h, hi => by
    by_cases hl : listed.getD i false = true
    · exact (hD i).2 hl
    · exfalso
      have : i ∈ Region.ready .any S.ops listed := by
        unfold Region.ready
        rw [List.mem_filter]
        refine ⟨List.mem_range.2 hi, ?_⟩
        have hli : i < listed.size := by omega
        have e1 : listed.getD i true = listed.getD i false := by simp [hli]
        have e2 : listed.getD i false = false := by simpa using hl
        rw [e1, e2]
        simp only [Bool.not_false, Bool.true_and]
        have e3 : S.ops[i]? = some S.ops[i] := by simp [hi]
        rw [e3]
        simp only [Option.map_some, Option.getD_some, Array.all_eq_true']
        intro e he
        cases hb : Region.binds .any e with
        | false => rfl
        | true =>
          have hlt := ok.edge_lt hi (e := e) (by rw [Set.OK.oper_eq hi]; exact he) hb
          simp only [Bool.not_true, Bool.false_or]
          exact (hD e.on).1 (Set.OK.all_done ok hD hs hr n e.on (by omega) (by omega))
      rw [hr] at this
      cases this

theorem Set.OK.any (ok : S.OK) (hg0 : S.P.globals.size ≤ w0.heap.size) (hb0 : Hs.next = S.base) {Q : Exit → Act → World → Prop} (hQ : ∀ a w φ, FrOK φ (S.f S.l.length).T a S.nt → Rep S.P S.E.globals φ (S.f S.l.length).H w → Ext φ0 Hs w0 φ (S.f S.l.length).H w → Q .normal a w) :
    ∀ (fuel : Nat) (listed : Array Bool) (D : Nat → Prop) (φ : Emb) (k : Nat) (a : Act) (w : World), listed.size = S.ops.size → (∀ j, D j ↔ listed.getD j false = true) → (∀ i j, i < S.ops.size → D i → j < S.ops.size → anc S.A i j = true → D j) →
      Inv S φ0 Hs w0 D φ k w → FrI S D φ a → cnt listed.toList ≤ fuel → wpAny S.P .any S.ops Q fuel listed a w := by
  have fin : ∀ (listed : Array Bool) (D : Nat → Prop) (φ : Emb) (k : Nat) (a : Act) (w : World), listed.size = S.ops.size → (∀ j, D j ↔ listed.getD j false = true) → Inv S φ0 Hs w0 D φ k w → FrI S D φ a → Region.ready .any S.ops listed = [] → Q .normal a w := by
    intro listed D φ k a w hs hD inv hf hr
    have hall : ∀ i, i < S.ops.size → D i := fun i hi => ok.all_done hD hs hr (i + 1) i (Nat.lt_succ_self _) hi
    have hk : rank S.l S.l.length = k := by
      rw [rank_len]
      show S.m = k
      rcases Nat.lt_or_ge k S.m with h | h
      · obtain ⟨q, j, h1, h2, _, h4⟩ := ok.heavy_pos h
        have := (inv.heavy q j h1).1 (hall j h4)
        omega
      · exact Nat.le_antisymm h inv.le
    obtain ⟨p0, h1, h2, h3⟩ := ok.stage (Nat.le_refl S.l.length)
    rw [hk] at h2 h3
    obtain ⟨d, hd⟩ := Nat.le.dest h1
    obtain ⟨r1, r2, _, _⟩ := ok.abs hg0 inv h3 h2 (d := d) (by omega) (by rw [hd]; exact hk) fun r i c _ _ h => hall i (ok.at h).1
    rw [hd] at r1 r2
    exact hQ a w φ (ok.frEnd hf hall) r1 r2
  have cnt0 : ∀ (listed : Array Bool), listed.size = S.ops.size → cnt listed.toList = 0 → Region.ready .any S.ops listed = [] := by
    intro listed hs hc
    unfold Region.ready
    rw [List.filter_eq_nil_iff]
    intro i hi
    have hi := List.mem_range.1 hi
    have hli : i < listed.size := by omega
    have : listed[i] ≠ false := fun e => by
      have h0 := List.count_eq_zero.1 hc
      exact h0 (by rw [← e]; simp)
    have : listed.getD i true = true := by simp [hli]; simpa using this
    rw [this]
    simp
  intro fuel
  induction fuel with
  | zero =>
    intro listed D φ k a w hs hD hcl inv hf hc
    have h0 := cnt0 listed hs (by omega)
    exact ⟨h0, fin listed D φ k a w hs hD inv hf h0⟩
  | succ fuel ih =>
    intro listed D φ k a w hs hD hcl inv hf hc
    refine ⟨fin listed D φ k a w hs hD inv hf, fun i hi => ?_⟩
    unfold Region.ready at hi
    rw [List.mem_filter] at hi
    obtain ⟨hi, hr⟩ := hi
    have hi := List.mem_range.1 hi
    have hli : i < listed.size := by omega
    have e3 : S.ops[i]? = some S.ops[i] := by simp [hi]
    rw [e3] at hr
    simp only [Option.map_some, Option.getD_some, Bool.and_eq_true, Array.all_eq_true', Bool.not_eq_true'] at hr
    obtain ⟨hn, hedges⟩ := hr
    have hn0 : listed[i] = false := by simpa [hli] using hn
    have hnD : ¬ D i := by rw [hD]; simp [hli, hn0]
    have hanc : ∀ j, j < S.ops.size → anc S.A i j = true → D j := fun j hj ha => by
      obtain ⟨e, he, hb, h⟩ := ok.anc_edge hi hj ha
      rw [Set.OK.oper_eq hi] at he
      have := hedges e he
      rw [hb] at this
      have hDe : D e.on := (hD e.on).2 (by simpa using this)
      rcases h with rfl | h
      · exact hDe
      · have hlt := ok.edge_lt hi (e := e) (by rw [Set.OK.oper_eq hi]; exact he) hb
        exact hcl e.on j (by omega) hDe hj h
    refine ok.one hg0 hb0 inv hf e3 hnD hanc hcl fun φ' k' a' w' inv' hf' => ?_
    refine ih _ (fun j => j = i ∨ D j) φ' k' a' w' (by simp [hs]) (fun j => ?_) (fun i' j hi' hDi' hj ha => ?_) inv' hf' ?_
    · show (j = i ∨ D j) ↔ _
      by_cases e : i = j
      · subst e; simp [hli]
      · have hji : ¬ j = i := fun h => e h.symm
        have e1 : (listed.setIfInBounds i true).getD j false = listed.getD j false := by
          simp only [Array.getD_eq_getD_getElem?, Array.getElem?_setIfInBounds_ne e]
        rw [e1, hD]
        simp [hji]
    · rcases hDi' with rfl | h
      · exact .inr (hanc j hj ha)
      · exact .inr (hcl i' j hi' h hj ha)
    · have := cnt_set (l := listed.toList) (i := i) (by simp [hli, hn0])
      simp only [Array.toList_setIfInBounds]
      omega
end

section
variable {P : Program} {names : List String}

/-- The rule of a region that draws its order. -/
theorem rgd_wp {E : Env} {call : CallF} (hmix : P.follows .mixedOrders = true) (hg : GoodCall P E.globals call) (hm : methsOK P names E.meths = true) {id : Nat} {ops : Array Oper} {nt : Nat} {xs : List XI} {a : Nat} {l : List (Nat × Role)}
    (hlow : lowIs P names nt ops ops.toList = some xs) (hplan : ckPlan ops.toList a l = true) {φ : Emb} {T : Tm} {act : Act} {H : Hp} {w : World} (hf : FrOK φ T act nt) (hr : Rep P E.globals φ H w) {s : SD}
    (hrun : runD call E H.next (l.map fun x => (xs.getD x.1 default, x.2)) ⟨T, ⟨H.t, H.next.plus a⟩, 0, [(0, ⟨H.t, H.next.plus a⟩)], []⟩ = some s) {Q : Exit → Act → World → Prop}
    (hQ : ∀ a' w' φ', FrOK φ' s.T a' nt → Rep P E.globals φ' s.H w' → Ext φ H w φ' s.H w' → Q .normal a' w') : (Code.region id ops true).wp P Q act w := by
  obtain ⟨f, f0, f1, fstep⟩ := runD_states hrun
  have hlen : (l.map fun x => (xs.getD x.1 default, x.2)).length = l.length := by simp
  obtain ⟨V, v0, hV⟩ := states_hs _ f fstep (by rw [f0]) (by rw [f0]) (l.map fun x => (xs.getD x.1 default, x.2)).length (Nat.le_refl _)
  rw [hlen] at hV f1
  let S : Set := ⟨P, names, E, call, nt, ops, l, xs, a, H.next, f, V⟩
  have ok : S.OK := ⟨hg, hm, hlow, hplan, fstep, hV, v0, by show (f 0).k = 0; rw [f0], by show (f 0).H.next = _; rw [f0]⟩
  refine wp_region_any hmix ?_
  have hw0 : P.globals.size ≤ ({ w with drawn := w.drawn + 1 } : World).heap.size := hr.size
  have hr0 : Rep P E.globals φ ⟨H.t, H.next.plus a⟩ { w with drawn := w.drawn + 1 } :=
    ⟨hr.obj, hr.inj, fun i hi => hr.fresh i (by rw [Pos.toNat_plus] at hi; omega), hr.size, hr.glob⟩
  have he0 : Ext φ H { w with drawn := w.drawn + 1 } φ ⟨H.t, H.next.plus a⟩ { w with drawn := w.drawn + 1 } :=
    ⟨fun _ _ h => h, fun _ _ => rfl, fun i o b s n h1 h2 => .inr ⟨i, o, s, n, h1, h2, fun h => h⟩, fun _ _ _ => rfl, Nat.le_refl _, by rw [Pos.toNat_plus]; omega, rfl, rfl, rfl⟩
  have hVs : S.V 0 = ⟨H.t, H.next.plus a⟩ := by show V 0 = _; rw [v0, f0]
  refine ok.any (φ0 := φ) (Hs := H) (w0 := { w with drawn := w.drawn + 1 }) hw0 rfl (fun a' w' φ' h1 h2 h3 => ?_) ops.size (Array.replicate ops.size false) (fun _ => False) φ 0 act _ (by simp; rfl) (fun j => ?_) (fun _ _ _ h => h.elim) ?_ ?_ ?_
  · have e : S.f S.l.length = s := f1
    rw [e] at h1 h2 h3
    exact hQ a' w' φ' h1 h2 ((Ext.drew φ H w).trans h3)
  · by_cases h : j < ops.size <;> simp [h]
  · refine ⟨Nat.zero_le _, fun p i _ => ?_, hVs ▸ hr0, hVs ▸ he0, by rw [hVs]; exact Nat.le_refl _, fun _ _ _ _ h => h.elim, fun _ _ _ _ _ _ _ _ _ _ _ _ h => h.elim, fun p i c hx _ => ?_⟩
    · simp
    · refine hr.fresh _ ?_
      show H.next.toNat ≤ (H.next.plus c).toNat
      rw [Pos.toNat_plus]
      omega
  · refine ⟨fun _ _ _ _ _ _ _ _ h => h.elim, fun t ht _ => ?_, hf.room, hf.defers⟩
    show VR φ (opnd (f 0).T _) _
    rw [f0]
    exact hf.fr t ht
  · unfold cnt
    simp
end
end Go.Ev
