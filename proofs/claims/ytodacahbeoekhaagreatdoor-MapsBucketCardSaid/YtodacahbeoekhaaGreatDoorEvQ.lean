/-
A region that draws its order: one operation carries it on, whatever comes next.
-/
import Derived.Test.YtodacahbeoekhaaGreatDoorEvP
namespace Go.Ev

/-- no heavy one, no allocation that comes up -/
def Set.calm (S : Set) (p : Nat) : Role → Prop
  | .heavy => False
  | .alloc _ => S.want p ≠ some true
  | _ => True

section
variable {S : Set}

theorem Set.OK.ne_pos (ok : S.OK) {p q i j : Nat} {r r' : Role} (h : S.l[p]? = some (i, r)) (h' : S.l[q]? = some (j, r')) (hne : p ≠ q) : i ≠ j := fun e => by
  subst e
  exact hne (ok.pos_unique h h')

theorem Set.OK.dst_ne' (ok : S.OK) {i j : Nat} {o o' : Oper} {d : Nat} (ho : S.ops[i]? = some o) (ho' : S.ops[j]? = some o') (hij : i ≠ j) (hd : o'.dst = some d) : o.dst ≠ some d ∧ (d ∈ tmpsOf S.ops.toList o → anc S.A i j = true) := by
  obtain ⟨hi, e1⟩ := Array.getElem?_eq_some_iff.1 ho
  obtain ⟨hj, e2⟩ := Array.getElem?_eq_some_iff.1 ho'
  have := ok.dst_ne hi hj hij (d := d) (by rw [Set.OK.oper_eq hj, e2]; exact hd)
  rwa [Set.OK.oper_eq hi, e1] at this

/-- A temporary that an operation reads. -/
theorem Set.OK.tmpAt (ok : S.OK) {D : Nat → Prop} {φ : Emb} {a : Act} (hf : FrI S D φ a) {p i : Nat} {r : Role} {o : Oper} (hx : S.l[p]? = some (i, r)) (ho : S.ops[i]? = some o) (hn : ¬ D i) (hanc : ∀ j, j < S.ops.size → anc S.A i j = true → D j) {t : Nat} (ht : t ≤ 100000)
    (hm : t ∈ tmpsOf S.ops.toList o) : VR φ (opnd (S.f p).T (.t (tpos t))) (a.tmps.getD t undef) := by
  have hpL : p ≤ S.l.length := Nat.le_of_lt (List.getElem?_eq_some_iff.1 hx).1
  by_cases hw : ∃ (q j : Nat) (r' : Role) (o' : Oper), q ≠ p ∧ S.l[q]? = some (j, r') ∧ S.ops[j]? = some o' ∧ o'.dst = some t
  · obtain ⟨q, j, r', o', hqp, hq, ho', hd⟩ := hw
    have hij := ok.ne_pos hx hq (Ne.symm hqp)
    have ha := (ok.dst_ne' ho ho' hij hd).2 hm
    have hj : j < S.ops.size := (Array.getElem?_eq_some_iff.1 ho').1
    obtain ⟨q', r'', hlt, hq'⟩ := (ok.at hx).2.2 j hj ha
    have : q = q' := ok.pos_unique hq hq'
    subst this
    have hv := hf.done q j r' o' t hq ho' hd (hanc j hj ha)
    have hk : (S.f p).T.get (tpos t) = (S.f (q + 1)).T.get (tpos t) := ok.tkeep' ht (by omega) hpL fun s i2 rr o2 h1 h2 h3 h4 => (ok.dst_ne' h4 ho' (ok.ne_pos h3 hq (by omega)) hd).1
    simp only [opnd, hk]
    exact hv
  · have hno : ∀ (q j : Nat) (r' : Role) (o' : Oper), q ≠ p → S.l[q]? = some (j, r') → S.ops[j]? = some o' → o'.dst ≠ some t := fun q j r' o' h1 h2 h3 h4 => hw ⟨q, j, r', o', h1, h2, h3, h4⟩
    have hk : (S.f p).T.get (tpos t) = (S.f 0).T.get (tpos t) := ok.tkeep' ht (Nat.zero_le _) hpL fun s i2 rr o2 _ h2 h3 h4 => hno s i2 rr o2 (by omega) h3 h4
    simp only [opnd, hk]
    refine hf.rest t ht fun j o' h1 h2 h3 => ?_
    obtain ⟨q, r', hq⟩ := ok.pos (Array.getElem?_eq_some_iff.1 h1).1
    by_cases e : q = p
    · subst e
      rw [hx] at hq
      cases hq
      exact hn h2
    · exact hno q j r' o' e hq h1 h3

theorem Set.OK.frStep (ok : S.OK) {D : Nat → Prop} {φ φ' : Emb} {a : Act} (hf : FrI S D φ a) (hmono : ∀ i x, φ i = some x → φ' i = some x) {p i : Nat} {r : Role} {o : Oper} (hx : S.l[p]? = some (i, r)) (ho : S.ops[i]? = some o) {v : AV} {u : Value}
    (hT : (S.f (p + 1)).T = (S.f p).T.set (o.dst.map tpos) v) (hd : ∀ d, o.dst = some d → d < S.nt ∧ d ≤ 100000) (hv : VR φ' v u) : FrI S (fun j => j = i ∨ D j) φ' (a.put o.dst u) := by
  have put_ne : ∀ t, o.dst ≠ some t → (a.put o.dst u).tmps.getD t undef = a.tmps.getD t undef := fun t hne => by
    cases hdst : o.dst with
    | none => rfl
    | some d =>
      have hne : d ≠ t := fun e => hne (by rw [hdst, e])
      simp [Act.put, Array.getElem?_setIfInBounds_ne hne]
  refine ⟨fun q j r' o' d hq ho' hd' hD => ?_, fun t ht hno => ?_, ?_, ?_⟩
  · by_cases e : q = p
    · subst e
      rw [hx] at hq
      cases hq
      rw [ho] at ho'
      cases ho'
      obtain ⟨h1, h2⟩ := hd d hd'
      have hlt : d < a.tmps.size := Nat.lt_of_lt_of_le h1 hf.room
      rw [hT, hd']
      simp only [opnd, Option.map_some, Tm.set, Tr.get_put_same, Act.put]
      simp [hlt]
      exact hv
    · have hij := ok.ne_pos hx hq (Ne.symm e)
      rw [put_ne d (ok.dst_ne' ho ho' hij hd').1]
      rcases hD with rfl | hD
      · exact absurd rfl hij
      · exact (hf.done q j r' o' d hq ho' hd' hD).mono hmono
  · rw [put_ne t (hno i o ho (.inl rfl))]
    exact (hf.rest t ht fun j o' h1 h2 => hno j o' h1 (.inr h2)).mono hmono
  · cases hdst : o.dst with
    | none => exact hf.room
    | some d => simp [Act.put]; exact hf.room
  · cases hdst : o.dst with
    | none => exact hf.defers
    | some d => exact hf.defers

theorem Set.OK.frEnd (ok : S.OK) {D : Nat → Prop} {φ : Emb} {a : Act} (hf : FrI S D φ a) (hall : ∀ i, i < S.ops.size → D i) : FrOK φ (S.f S.l.length).T a S.nt := by
  refine ⟨fun t ht => ?_, hf.room, hf.defers⟩
  by_cases hw : ∃ (q j : Nat) (r' : Role) (o' : Oper), S.l[q]? = some (j, r') ∧ S.ops[j]? = some o' ∧ o'.dst = some t
  · obtain ⟨q, j, r', o', hq, ho', hd⟩ := hw
    have hv := hf.done q j r' o' t hq ho' hd (hall j (Array.getElem?_eq_some_iff.1 ho').1)
    have hk : (S.f S.l.length).T.get (tpos t) = (S.f (q + 1)).T.get (tpos t) := ok.tkeep' ht (List.getElem?_eq_some_iff.1 hq).1 (Nat.le_refl _) fun s i2 rr o2 h1 h2 h3 h4 => (ok.dst_ne' h4 ho' (ok.ne_pos h3 hq (by omega)) hd).1
    simp only [opnd, hk]
    exact hv
  · have hno : ∀ (q j : Nat) (r' : Role) (o' : Oper), S.l[q]? = some (j, r') → S.ops[j]? = some o' → o'.dst ≠ some t := fun q j r' o' h2 h3 h4 => hw ⟨q, j, r', o', h2, h3, h4⟩
    have hk : (S.f S.l.length).T.get (tpos t) = (S.f 0).T.get (tpos t) := ok.tkeep' ht (Nat.zero_le _) (Nat.le_refl _) fun s i2 rr o2 _ h2 h3 h4 => hno s i2 rr o2 h3 h4
    simp only [opnd, hk]
    refine hf.rest t ht fun j o' h1 h2 h3 => ?_
    obtain ⟨q, r', hq⟩ := ok.pos (Array.getElem?_eq_some_iff.1 h1).1
    exact hno q j r' o' hq h1 h3

theorem Set.OK.heavy_pos (ok : S.OK) {k : Nat} (hk : k < S.m) : ∃ q j, S.l[q]? = some (j, .heavy) ∧ rank S.l q = k ∧ (heavyOf S.l).getD k S.ops.size = j ∧ j < S.ops.size := by
  obtain ⟨q, j, h1, h2, h3⟩ := heavy_at S.l.length k (by rw [rank_len]; exact hk)
  have := (rank_heavy h2 S.ops.size).1
  rw [h3] at this
  exact ⟨q, j, h2, h3, this, (ok.at h2).1⟩
end

section
variable {S : Set} {φ0 : Emb} {Hs : Hp} {w0 : World}

/-- Nothing of the heap turns: any operation but a heavy one and an allocation that comes up. -/
theorem Inv.idle (ok : S.OK) {D : Nat → Prop} {φ : Emb} {k : Nat} {w : World} (inv : Inv S φ0 Hs w0 D φ k w) {p i : Nat} {r : Role} (hx : S.l[p]? = some (i, r)) (hn : ¬ D i) (hr : S.calm p r) :
    Inv S φ0 Hs w0 (fun j => j = i ∨ D j) φ k w := by
  have other : ∀ {q j : Nat} {r' : Role}, S.l[q]? = some (j, r') → r' ≠ r → j ≠ i := fun {q j r'} hq hne e => by
    subst e
    have := ok.pos_unique hx hq
    subst this
    rw [hx] at hq
    cases hq
    exact hne rfl
  have wanted : ∀ {q j c : Nat}, S.l[q]? = some (j, .alloc c) → S.want q = some true → j = i ∨ D j → D j := fun {q j c} hq hw h => by
    rcases h with rfl | h
    · exfalso
      have := ok.pos_unique hx hq
      subst this
      rw [hx] at hq
      cases hq
      exact hr hw
    · exact h
  refine ⟨inv.le, fun q j hq => ?_, inv.rep, inv.ext, inv.nx, fun q j c hq hD hk hw => inv.pend q j c hq (wanted hq hw hD) hk hw, fun q j c q' j' c' b s n s' n' h1 h2 h3 h4 h5 h6 h7 h8 => inv.dist q j c q' j' c' b s n s' n' h1 (wanted h1 h4 h2) h3 h4 h5 (wanted h5 h8 h6) h7 h8, fun q j c hq hD => inv.notyet q j c hq fun h => hD (.inr h)⟩
  rw [← inv.heavy q j hq]
  have hne : j ≠ i := other hq (fun e => by subst e; exact hr)
  simp [hne]

theorem Inv.kept (ok : S.OK) (hb0 : Hs.next = S.base) {D : Nat → Prop} {φ : Emb} {k : Nat} {w : World} (inv : Inv S φ0 Hs w0 D φ k w) {p i c : Nat} (hx : S.l[p]? = some (i, .alloc c)) :
    Hs.next.toNat ≤ (S.base.plus c).toNat ∧ (S.base.plus c).toNat < (S.V k).next.toNat := by
  have h := (ok.role hx).1
  have := inv.nx
  rw [Pos.toNat_plus] at this ⊢
  rw [hb0]
  omega

/-- An allocation. -/
theorem Inv.alloc (ok : S.OK) (hb0 : Hs.next = S.base) {D : Nat → Prop} {φ : Emb} {k : Nat} {w : World} (inv : Inv S φ0 Hs w0 D φ k w) {p i c : Nat} (hx : S.l[p]? = some (i, .alloc c)) (hn : ¬ D i) {o : AObj} {bl : Bld} {cob : Obj} {n : Nat} (hm : S.made p = some (o, bl)) (ho : OR φ 0 n o cob) :
    Inv S φ0 Hs w0 (fun j => j = i ∨ D j) (upd φ (S.base.plus c) (w.heap.size, 0, n)) k (w.alloc cob) := by
  have hφ := inv.notyet p i c hx hn
  have hm' := upd_mono (φ := φ) (i := S.base.plus c) (w.heap.size, 0, n) hφ
  obtain ⟨hge, hlt⟩ := inv.kept ok hb0 hx
  have hlive : ∀ o, (S.V k).t.get (S.base.plus c) ≠ some o := fun o h => by
    obtain ⟨b, s, m, h1, _⟩ := inv.rep.obj _ _ h
    rw [hφ] at h1; cases h1
  have cne : ∀ {q j c' : Nat}, S.l[q]? = some (j, .alloc c') → j ≠ i → S.base.plus c ≠ S.base.plus c' := fun {q j c'} hq hne e => by
    have := Pos.plus_inj e
    subst this
    have := ok.alloc_unique hx hq
    subst this
    rw [hx] at hq
    cases hq
    exact hne rfl
  have old : ∀ {q j c' : Nat}, S.l[q]? = some (j, .alloc c') → D j → k ≤ rank S.l q → S.want q = some true → ∀ b s n', φ (S.base.plus c') = some (b, s, n') → b < w.heap.size := fun {q j c'} hq hD hk hw b s n' hφ' => by
    obtain ⟨b', n2, _, _, cob', _, h2, _, h4, _⟩ := inv.pend q j c' hq hD hk hw
    rw [h2] at hφ'
    cases hφ'
    exact (Array.getElem?_eq_some_iff.1 h4).1
  have newAt : ∀ {q j c' : Nat}, S.l[q]? = some (j, .alloc c') → j = i → c' = c := fun {q j c'} hq e => by
    subst e
    have := ok.pos_unique hx hq
    subst this
    rw [hx] at hq
    cases hq
    rfl
  refine ⟨inv.le, fun q j hq => ?_, inv.rep.ghost hφ hlt cob n, inv.ext.ghost hφ hge hlive cob n, inv.nx, fun q j c' hq hD hk hw => ?_, fun q j c1 q' j' c2 b s n1 s' n2 h1 h2 h3 h4 h5 h6 h7 h8 h9 h10 => ?_, fun q j c' hq hD => ?_⟩
  · rw [← inv.heavy q j hq]
    have hne : j ≠ i := fun e => by
      subst e
      have := ok.pos_unique hx hq
      subst this
      rw [hx] at hq
      cases hq
    simp [hne]
  · by_cases e : j = i
    · have ec := newAt hq e
      subst e; subst ec
      have := ok.pos_unique hx hq
      subst this
      refine ⟨w.heap.size, n, o, bl, cob, hm, upd_same _ _ _, inv.ext.size, by rw [heap_alloc_get, if_pos rfl], ho.mono hm', fun j' o' s m hj hφ' => ?_⟩
      rw [upd_ne _ _ (fun e => by subst e; exact hlive _ hj)] at hφ'
      have := inv.rep.block_lt hj hφ'
      omega
    · have hD : D j := hD.resolve_left e
      obtain ⟨b, n', o', bl', cob', m1, m2, m3, m4, m5, m6⟩ := inv.pend q j c' hq hD hk hw
      have hb := old hq hD hk hw b 0 n' m2
      refine ⟨b, n', o', bl', cob', m1, hm' _ _ m2, m3, by rw [heap_alloc_get, if_neg (by omega)]; exact m4, m5.mono hm', fun j' o'' s m hj hφ' => ?_⟩
      rw [upd_ne _ _ (fun e => by subst e; exact hlive _ hj)] at hφ'
      exact m6 j' o'' s m hj hφ'
  · by_cases e1 : j = i
    · have ec1 := newAt h1 e1
      by_cases e2 : j' = i
      · rw [ec1, newAt h5 e2]
      · have hD' : D j' := h6.resolve_left e2
        subst ec1
        rw [upd_same] at h9
        rw [upd_ne _ _ (cne h5 e2)] at h10
        have := old h5 hD' h7 h8 _ _ _ h10
        cases h9
        omega
    · have hD : D j := h2.resolve_left e1
      rw [upd_ne _ _ (cne h1 e1)] at h9
      by_cases e2 : j' = i
      · have ec2 := newAt h5 e2
        subst ec2
        rw [upd_same] at h10
        have := old h1 hD h3 h4 _ _ _ h9
        cases h10
        omega
      · have hD' : D j' := h6.resolve_left e2
        rw [upd_ne _ _ (cne h5 e2)] at h10
        exact inv.dist q j c1 q' j' c2 b s n1 s' n2 h1 hD h3 h4 h5 hD' h7 h8 h9 h10
  · have e : j ≠ i := fun e => hD (.inl e)
    rw [upd_ne _ _ (cne hq e)]
    exact inv.notyet q j c' hq fun h => hD (.inr h)

/-- A heavy one. -/
theorem Inv.turned (ok : S.OK) (hb0 : Hs.next = S.base) {D : Nat → Prop} {φ φ' : Emb} {k : Nat} {w w' : World} (inv : Inv S φ0 Hs w0 D φ k w) {p0 p i : Nat} (hx : S.l[p]? = some (i, .heavy)) (hn : ¬ D i) (hrk : rank S.l p = k) (hk0 : rank S.l p0 = k) (hp0 : p0 ≤ p)
    (hext : Ext φ0 Hs w0 φ (S.f p).H w) (hnext : (S.f p).H.next = (S.V k).next)
    (hlive : ∀ j o', (S.f p).H.t.get j = some o' → (∃ o'', (S.V k).t.get j = some o'') ∨ ∃ r i c, p0 ≤ r ∧ r < p ∧ S.l[r]? = some (i, .alloc c) ∧ S.want r = some true ∧ j = S.base.plus c)
    (hdone : ∀ r i c, p0 ≤ r → r < p → S.l[r]? = some (i, .alloc c) → D i)
    (hV : S.V (k + 1) = (S.f (p + 1)).H) (hrep' : Rep S.P S.E.globals φ' (S.f (p + 1)).H w') (hext' : Ext φ (S.f p).H w φ' (S.f (p + 1)).H w') : Inv S φ0 Hs w0 (fun j => j = i ∨ D j) φ' (k + 1) w' := by
  have hi : ∀ {q j : Nat} {c : Nat}, S.l[q]? = some (j, .alloc c) → j ≠ i := fun {q j c} hq e => by
    subst e
    have := ok.pos_unique hx hq
    subst this
    rw [hx] at hq
    cases hq
  have hle : k < S.m := by rw [← hrk]; exact (rank_heavy hx S.ops.size).2
  have stay : ∀ {q j c : Nat}, S.l[q]? = some (j, .alloc c) → φ' (S.base.plus c) = φ (S.base.plus c) := fun {q j c} hq => hext'.same _ (by rw [hnext]; exact (inv.kept ok hb0 hq).2)
  -- a pending block is none of the heap's
  have apart : ∀ {q j c : Nat}, S.l[q]? = some (j, .alloc c) → D j → k + 1 ≤ rank S.l q → S.want q = some true → ∀ b n, φ (S.base.plus c) = some (b, 0, n) → (∀ j' o' s m, (S.V k).t.get j' = some o' → φ j' ≠ some (b, s, m)) →
      ∀ j' o' s m, (S.f p).H.t.get j' = some o' → φ j' ≠ some (b, s, m) := fun {q j c} hq hD hk hw b n hφ hno j' o' s m hj hφ' => by
    rcases hlive j' o' hj with ⟨o'', h⟩ | ⟨r, i', c', h1, h2, h3, h4, rfl⟩
    · exact hno j' o'' s m h hφ'
    · have hr : k ≤ rank S.l r := by rw [← hk0]; exact rank_le h1
      have := inv.dist q j c r i' c' b _ _ _ _ hq hD (by omega) hw h3 (hdone r i' c' h1 h2 h3) hr h4 hφ hφ'
      subst this
      have := ok.alloc_unique hq h3
      subst this
      have := rank_le (l := S.l) (p := q) (q := p) (by omega)
      omega
  refine ⟨hle, fun q j hq => ?_, hV ▸ hrep', hV ▸ (hext.trans hext'), ?_, fun q j c hq hD hk hw => ?_, fun q j c1 q' j' c2 b s n1 s' n2 h1 h2 h3 h4 h5 h6 h7 h8 h9 h10 => ?_, fun q j c hq hD => ?_⟩
  · by_cases e : j = i
    · subst e
      have := ok.pos_unique hx hq
      subst this
      simp [hrk]
    · have hD := inv.heavy q j hq
      have hne : rank S.l q ≠ k := fun e' => e (by
        have h1 := (rank_heavy hq S.ops.size).1
        have h2 := (rank_heavy hx S.ops.size).1
        rw [e'] at h1
        rw [hrk] at h2
        exact h1.symm.trans h2)
      simp only [e, false_or, hD]
      omega
  · rw [hV]
    exact Nat.le_trans inv.nx (by rw [← hnext]; exact hext'.next)
  · have hD : D j := hD.resolve_left (hi hq)
    obtain ⟨b, n', o', bl', cob', m1, m2, m3, m4, m5, m6⟩ := inv.pend q j c hq hD (by omega) hw
    have hap := apart hq hD hk hw b n' m2 m6
    have hb : b < w.heap.size := (Array.getElem?_eq_some_iff.1 m4).1
    refine ⟨b, n', o', bl', cob', m1, hext'.mono _ _ m2, m3, by rw [hext'.frame b hb fun j o s n h => hap j o s n h]; exact m4, m5.mono hext'.mono, fun j' o'' s m hj hφ' => ?_⟩
    rw [hV] at hj
    rcases hext'.img j' o'' b s m hj hφ' with h | ⟨j2, o2, s2, n2, h1, h2⟩
    · omega
    · exact hap j2 o2 s2 n2 h1 h2
  · have hD : D j := h2.resolve_left (hi h1)
    have hD' : D j' := h6.resolve_left (hi h5)
    rw [stay h1] at h9
    rw [stay h5] at h10
    exact inv.dist q j c1 q' j' c2 b s n1 s' n2 h1 hD (by omega) h4 h5 hD' (by omega) h8 h9 h10
  · rw [stay hq]
    exact inv.notyet q j c hq fun h => hD (.inr h)
end
end Go.Ev
