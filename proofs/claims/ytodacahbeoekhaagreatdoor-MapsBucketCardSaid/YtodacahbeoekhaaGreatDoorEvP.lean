/-
A region that draws its order: where it stands, how one operation carries that on.
-/
import Derived.Test.YtodacahbeoekhaaGreatDoorEvO
namespace Go.Ev

theorem evalV_next (G : List (Nat × List AV)) (T : Tm) (t : Tr AObj) (n n' : Pos) (p : XP) : evalV G T ⟨t, n⟩ p = evalV G T ⟨t, n'⟩ p := by cases p <;> rfl

theorem opR_of {φ : Emb} {T : Tm} {a : Act} {x : Operand} (h : ∀ t, x = .tmp t → t ≤ 100000 → VR φ (opnd T (.t (tpos t))) (a.tmps.getD t undef)) : OpR φ T a x := by
  cases x with
  | tmp t =>
    intro xo hx
    simp only [lowX] at hx
    split at hx
    · rename_i ht
      simp at hx
      subst hx
      exact h t rfl (Nat.le_of_ble_eq_true ht)
    · cases hx
  | const v =>
    intro xo hx
    simp only [lowX, Option.map_eq_some_iff] at hx
    obtain ⟨b, hb, rfl⟩ := hx
    exact liftV_sound φ _ v b hb
  | global g => intro xo hx; simp only [lowX] at hx; cases hx; exact rfl
  | func f =>
    intro xo hx
    simp only [lowX] at hx
    split at hx
    · rename_i hf
      cases hx
      exact ⟨[], [], by rw [tpos_toNat (Nat.le_of_ble_eq_true hf)]; rfl, rfl, rfl⟩
    · cases hx

-- ranks
theorem rank_succ {l : List (Nat × Role)} {p : Nat} {x : Nat × Role} (h : l[p]? = some x) : rank l (p + 1) = rank l p + (if isHeavy x.2 then 1 else 0) := by
  unfold rank
  rw [List.take_add_one, h]
  simp only [Option.toList_some, List.filter_append, List.length_append]
  cases hx : isHeavy x.2 <;> simp [hx]
theorem rank_zero (l : List (Nat × Role)) : rank l 0 = 0 := by simp [rank]
theorem rank_mono {l : List (Nat × Role)} {p : Nat} : ∀ {d : Nat}, rank l p ≤ rank l (p + d)
  | 0 => Nat.le_refl _
  | d + 1 => by
    refine Nat.le_trans (rank_mono (d := d)) ?_
    cases h : l[p + d]? with
    | some x => have := rank_succ h; rw [show p + (d + 1) = p + d + 1 from rfl, this]; exact Nat.le_add_right _ _
    | none =>
      have hl := List.getElem?_eq_none_iff.1 h
      unfold rank
      rw [List.take_of_length_le hl, List.take_of_length_le (by omega)]
      exact Nat.le_refl _
theorem rank_le {l : List (Nat × Role)} {p q : Nat} (h : p ≤ q) : rank l p ≤ rank l q := by
  obtain ⟨d, rfl⟩ := Nat.le.dest h
  exact rank_mono
theorem rank_len (l : List (Nat × Role)) : rank l l.length = (heavyOf l).length := by simp [rank, heavyOf]
theorem rank_heavy {l : List (Nat × Role)} {p i : Nat} (h : l[p]? = some (i, .heavy)) (n : Nat) : (heavyOf l).getD (rank l p) n = i ∧ rank l p < (heavyOf l).length := by
  have hp := (List.getElem?_eq_some_iff.1 h).1
  have hd : l = l.take p ++ (i, .heavy) :: l.drop (p + 1) := by
    have := List.getElem?_eq_some_iff.1 h
    obtain ⟨_, e⟩ := this
    conv => lhs; rw [← List.take_append_drop p l, List.drop_eq_getElem_cons hp, e]
  have e1 : heavyOf l = ((l.take p).filter fun x => isHeavy x.2).map (·.1) ++ i :: heavyOf (l.drop (p + 1)) := by
    conv => lhs; rw [hd]
    simp [heavyOf, isHeavy]
  have e2 : rank l p = (((l.take p).filter fun x => isHeavy x.2).map (·.1)).length := by simp [rank]
  rw [e1, e2]
  refine ⟨?_, by simp⟩
  rw [List.getD_eq_getElem?_getD, List.getElem?_append_right (Nat.le_refl _)]
  simp
theorem heavy_at {l : List (Nat × Role)} : ∀ (p k : Nat), k < rank l p → ∃ q i, q < p ∧ l[q]? = some (i, .heavy) ∧ rank l q = k
  | 0, k, h => by simp [rank_zero] at h
  | p + 1, k, h => by
    cases hx : l[p]? with
    | none =>
      have hl := List.getElem?_eq_none_iff.1 hx
      have : rank l (p + 1) = rank l p := by
        unfold rank
        rw [List.take_of_length_le hl, List.take_of_length_le (by omega)]
      rw [this] at h
      obtain ⟨q, i, h1, h2, h3⟩ := heavy_at p k h
      exact ⟨q, i, by omega, h2, h3⟩
    | some x =>
      rw [rank_succ hx] at h
      by_cases hk : k < rank l p
      · obtain ⟨q, i, h1, h2, h3⟩ := heavy_at p k hk
        exact ⟨q, i, by omega, h2, h3⟩
      · obtain ⟨i, r⟩ := x
        cases r with
        | heavy =>
          simp [isHeavy] at h
          exact ⟨p, i, by omega, hx, by omega⟩
        | pure => simp [isHeavy] at h; omega
        | read lo hi => simp [isHeavy] at h; omega
        | alloc c => simp [isHeavy] at h; omega

noncomputable def Set.want (S : Set) (p : Nat) : Option Bool := match S.row p with
  | some x => wantedA (S.f p).T x.1.guard
  | none => none
noncomputable def Set.made (S : Set) (p : Nat) : Option (AObj × Bld) := match S.row p with
  | some x => evalA (S.f p).T x.1.op
  | none => none

section
variable {S : Set}

theorem Set.OK.k_eq (ok : S.OK) : ∀ {p : Nat}, p ≤ S.l.length → (S.f p).k = rank S.l p
  | 0, _ => by rw [ok.k0, rank_zero]
  | p + 1, h => by
    have ih := Set.OK.k_eq ok (p := p) (by omega)
    obtain ⟨⟨i, r⟩, hx⟩ : ∃ x, S.l[p]? = some x := ⟨S.l[p], List.getElem?_eq_getElem (by omega)⟩
    obtain ⟨o, x, _, hrow, _⟩ := ok.rowAt hx
    have hs := stepD_hs (ok.step p _ hrow)
    rw [rank_succ hx, ← ih]
    cases r <;> simp only [] at hs <;> simp [isHeavy, hs.1]

theorem Set.OK.keep (ok : S.OK) {p i : Nat} {r : Role} (hx : S.l[p]? = some (i, r)) : ∃ o x v, S.ops[i]? = some o ∧ S.row p = some (x, r) ∧ lowI S.P S.names S.nt S.ops o = some x ∧ x.dst = o.dst.map tpos ∧ (∀ d, o.dst = some d → d < S.nt ∧ d ≤ 100000) ∧ (S.f (p + 1)).T = (S.f p).T.set (o.dst.map tpos) v := by
  obtain ⟨o, x, ho, hrow, hl⟩ := ok.rowAt hx
  obtain ⟨_, _, p3, p4⟩ := lowI_parts hl
  have hst := ok.step p _ hrow
  have : ∃ v, (S.f (p + 1)).T = (S.f p).T.set x.dst v := by
    unfold stepD at hst
    (repeat' split at hst) <;> first | (cases hst; done) | (simp only [Option.some.injEq] at hst; rw [← hst]; exact ⟨_, rfl⟩)
  obtain ⟨v, hv⟩ := this
  exact ⟨o, x, v, ho, hrow, hl, p3, p4, by rw [← p3]; exact hv⟩

theorem Set.OK.stage (ok : S.OK) : ∀ {p : Nat}, p ≤ S.l.length → ∃ p0, p0 ≤ p ∧ rank S.l p0 = rank S.l p ∧ (S.f p0).H = S.V (rank S.l p)
  | 0, _ => ⟨0, Nat.le_refl _, rfl, by rw [rank_zero, ok.v0]⟩
  | p + 1, h => by
    obtain ⟨p0, h1, h2, h3⟩ := Set.OK.stage ok (p := p) (by omega)
    obtain ⟨⟨i, r⟩, hx⟩ : ∃ x, S.l[p]? = some x := ⟨S.l[p], List.getElem?_eq_getElem (by omega)⟩
    obtain ⟨o, x, _, hrow, _⟩ := ok.rowAt hx
    have hs := stepD_hs (ok.step p _ hrow)
    have hk := ok.k_eq h
    have hh := (ok.hs (p + 1) h).1
    rw [rank_succ hx]
    cases r with
    | heavy =>
      simp only [] at hs
      obtain ⟨e1, e2, _⟩ := hs
      refine ⟨p + 1, Nat.le_refl _, by rw [rank_succ hx], ?_⟩
      have hkp := ok.k_eq (p := p) (by omega)
      rw [e2, e1] at hh
      simp only [hsOf, List.cons.injEq, Prod.mk.injEq, true_and] at hh
      simp only [isHeavy, if_true]
      rw [← hkp]
      exact hh.1
    | pure => exact ⟨p0, by omega, by simpa [isHeavy] using h2, by simpa [isHeavy] using h3⟩
    | read lo hi => exact ⟨p0, by omega, by simpa [isHeavy] using h2, by simpa [isHeavy] using h3⟩
    | alloc c => exact ⟨p0, by omega, by simpa [isHeavy] using h2, by simpa [isHeavy] using h3⟩

theorem Set.OK.role (ok : S.OK) {p i : Nat} {r : Role} (hx : S.l[p]? = some (i, r)) : match r with
      | .heavy => ∀ k, rank S.l p = k + 1 → anc S.A i ((heavyOf S.l).getD k S.ops.size) = true
      | .pure => True
      | .read lo hi => (∀ k, lo = k + 1 → k < S.m ∧ anc S.A i ((heavyOf S.l).getD k S.ops.size) = true) ∧ (S.m ≤ hi ∨ anc S.A ((heavyOf S.l).getD hi S.ops.size) i = true)
      | .alloc c => c < S.a ∧ (∀ p' i', p' < p → S.l[p']? ≠ some (i', .alloc c)) ∧ (rank S.l p = S.m ∨ anc S.A ((heavyOf S.l).getD (rank S.l p) S.ops.size) i = true) := by
  have hp : p < S.ops.size := by rw [← ok.len]; exact (List.getElem?_eq_some_iff.1 hx).1
  have h := ok.roles
  simp only [ckRoles, List.all_eq_true, List.mem_range] at h
  have h := h p hp
  rw [hx] at h
  cases r with
  | heavy =>
    simp only [] at h ⊢
    intro k hk
    rw [hk] at h
    exact h
  | pure => trivial
  | read lo hi =>
    simp only [Bool.and_eq_true, Bool.or_eq_true] at h ⊢
    refine ⟨fun k hk => ?_, h.2.imp Nat.le_of_ble_eq_true id⟩
    subst hk
    have := h.1
    simp only [Bool.and_eq_true] at this
    exact ⟨Nat.lt_of_succ_le (Nat.le_of_ble_eq_true this.1), this.2⟩
  | alloc c =>
    simp only [Bool.and_eq_true, Bool.or_eq_true] at h ⊢
    refine ⟨Nat.lt_of_succ_le (Nat.le_of_ble_eq_true h.1.1), fun p' i' hp' hx' => ?_, h.2.imp Nat.eq_of_beq_eq_true id⟩
    have h2 := h.1.2
    have : ((S.l.take p).filterMap fun x => allocOf x.2).contains c = true := by
      simp only [List.contains_eq_mem, decide_eq_true_eq, List.mem_filterMap]
      exact ⟨(i', .alloc c), List.mem_of_getElem? (i := p') (by rw [List.getElem?_take_of_lt hp']; exact hx'), rfl⟩
    rw [this] at h2
    cases h2

theorem Set.OK.alloc_unique (ok : S.OK) {p i p' i' c : Nat} (hx : S.l[p]? = some (i, .alloc c)) (hx' : S.l[p']? = some (i', .alloc c)) : p = p' := by
  rcases Nat.lt_trichotomy p p' with h | h | h
  · exact absurd hx ((ok.role hx').2.1 p i h)
  · exact h
  · exact absurd hx' ((ok.role hx).2.1 p' i' h)

theorem Set.OK.tkeep (ok : S.OK) {t : Nat} (ht : t ≤ 100000) {q : Nat} : ∀ {d : Nat}, q + d ≤ S.l.length → (∀ r i rr o, q ≤ r → r < q + d → S.l[r]? = some (i, rr) → S.ops[i]? = some o → o.dst ≠ some t) → (S.f (q + d)).T.get (tpos t) = (S.f q).T.get (tpos t)
  | 0, _, _ => rfl
  | d + 1, hL, h => by
    rw [← Set.OK.tkeep ok ht (d := d) (by omega) fun r i rr o h1 h2 => h r i rr o h1 (by omega)]
    obtain ⟨⟨i, r⟩, hx⟩ : ∃ x, S.l[q + d]? = some x := ⟨S.l[q + d], List.getElem?_eq_getElem (by omega)⟩
    obtain ⟨o, x, v, ho, _, _, _, p4, hT⟩ := ok.keep hx
    have hne := h (q + d) i r o (by omega) (by omega) hx ho
    rw [show q + (d + 1) = q + d + 1 from rfl, hT]
    cases hd : o.dst with
    | none => rfl
    | some d' =>
      have : tpos d' ≠ tpos t := fun e => hne (by rw [hd, tpos_inj (p4 _ hd).2 ht e])
      simp only [Option.map_some, Tm.set, Tr.get_put_ne _ _ this]
theorem Set.OK.tkeep' (ok : S.OK) {t : Nat} (ht : t ≤ 100000) {q p : Nat} (hqp : q ≤ p) (hL : p ≤ S.l.length) (h : ∀ r i rr o, q ≤ r → r < p → S.l[r]? = some (i, rr) → S.ops[i]? = some o → o.dst ≠ some t) : (S.f p).T.get (tpos t) = (S.f q).T.get (tpos t) := by
  obtain ⟨d, rfl⟩ := Nat.le.dest hqp
  exact ok.tkeep ht hL h
end

/-- What is so of heaps while such a region goes on. D: what has come up. -/
structure Inv (S : Set) (φ0 : Emb) (Hs : Hp) (w0 : World) (D : Nat → Prop) (φ : Emb) (k : Nat) (w : World) : Prop where
  le : k ≤ S.m
  heavy : ∀ (p i : Nat), S.l[p]? = some (i, Role.heavy) → (D i ↔ rank S.l p < k)
  rep : Rep S.P S.E.globals φ (S.V k) w
  ext : Ext φ0 Hs w0 φ (S.V k) w
  nx : (S.base.plus S.a).toNat ≤ (S.V k).next.toNat
  pend : ∀ (p i c : Nat), S.l[p]? = some (i, .alloc c) → D i → k ≤ rank S.l p → S.want p = some true → ∃ b n o bl cob, S.made p = some (o, bl) ∧ φ (S.base.plus c) = some (b, 0, n) ∧ w0.heap.size ≤ b ∧ w.heap[b]? = some cob ∧ OR φ 0 n o cob ∧
    ∀ j o' s m, (S.V k).t.get j = some o' → φ j ≠ some (b, s, m)
  dist : ∀ (p i c p' i' c' b s n s' n' : Nat), S.l[p]? = some (i, .alloc c) → D i → k ≤ rank S.l p → S.want p = some true → S.l[p']? = some (i', .alloc c') → D i' → k ≤ rank S.l p' → S.want p' = some true →
    φ (S.base.plus c) = some (b, s, n) → φ (S.base.plus c') = some (b, s', n') → c = c'
  notyet : ∀ (p i c : Nat), S.l[p]? = some (i, .alloc c) → ¬ D i → φ (S.base.plus c) = none

/-- What is so of temporaries. -/
structure FrI (S : Set) (D : Nat → Prop) (φ : Emb) (a : Act) : Prop where
  done : ∀ (p i : Nat) (r : Role) (o : Oper) (d : Nat), S.l[p]? = some (i, r) → S.ops[i]? = some o → o.dst = some d → D i → VR φ (opnd (S.f (p + 1)).T (.t (tpos d))) (a.tmps.getD d undef)
  rest : ∀ t, t ≤ 100000 → (∀ i o, S.ops[i]? = some o → D i → o.dst ≠ some t) → VR φ (opnd (S.f 0).T (.t (tpos t))) (a.tmps.getD t undef)
  room : S.nt ≤ a.tmps.size
  defers : a.defers = []

theorem Ext.absorb {φ0 φ : Emb} {Hs H : Hp} {w0 w : World} (h : Ext φ0 Hs w0 φ H w) {i : Pos} {b n : Nat} {o : AObj} (hi : φ i = some (b, 0, n)) (hb : w0.heap.size ≤ b) : Ext φ0 Hs w0 φ ⟨H.t.put i (some o), H.next⟩ w := by
  refine ⟨h.mono, h.same, fun j o' b' s m hj hφ => ?_, h.frame, h.size, h.next, h.os, h.tape, h.output⟩
  by_cases e : i = j
  · subst e
    rw [hi] at hφ
    cases hφ
    exact .inl hb
  · simp only [Tr.get_put_ne _ _ e] at hj
    exact h.img j o' b' s m hj hφ
theorem Ext.ghost {φ0 φ : Emb} {Hs H : Hp} {w0 w : World} (h : Ext φ0 Hs w0 φ H w) {i : Pos} (hi : φ i = none) (hlt : Hs.next.toNat ≤ i.toNat) (hlive : ∀ o, H.t.get i ≠ some o) (ob : Obj) (n : Nat) : Ext φ0 Hs w0 (upd φ i (w.heap.size, 0, n)) H (w.alloc ob) := by
  refine ⟨fun j x hj => upd_mono _ hi _ _ (h.mono j x hj), fun j hj => ?_, fun j o' b' s m hj hφ => ?_, fun b hb hn => ?_, ?_, h.next, h.os, h.tape, h.output⟩
  · rw [upd_ne _ _ (fun e => by subst e; omega)]
    exact h.same j hj
  · rw [upd_ne _ _ (fun e => by subst e; exact hlive _ hj)] at hφ
    exact h.img j o' b' s m hj hφ
  · rw [heap_alloc_get, if_neg (by have := h.size; omega)]
    exact h.frame b hb hn
  · have := h.size
    simp
    omega

section
variable {S : Set} {φ0 : Emb} {Hs : Hp} {w0 : World}

/-- Blocks that stand by come into the heap, up to position q. -/
theorem Set.OK.abs (ok : S.OK) (hg0 : S.P.globals.size ≤ w0.heap.size) {D : Nat → Prop} {φ : Emb} {k : Nat} {w : World} (inv : Inv S φ0 Hs w0 D φ k w) {p0 : Nat} (h0 : (S.f p0).H = S.V k) (hk : rank S.l p0 = k) : ∀ {d : Nat}, p0 + d ≤ S.l.length → rank S.l (p0 + d) = k →
    (∀ r i c, p0 ≤ r → r < p0 + d → S.l[r]? = some (i, .alloc c) → D i) →
    Rep S.P S.E.globals φ (S.f (p0 + d)).H w ∧ Ext φ0 Hs w0 φ (S.f (p0 + d)).H w ∧ (S.f (p0 + d)).H.next = (S.V k).next ∧
      ∀ j o', (S.f (p0 + d)).H.t.get j = some o' → (∃ o'', (S.V k).t.get j = some o'') ∨ ∃ r i c, p0 ≤ r ∧ r < p0 + d ∧ S.l[r]? = some (i, .alloc c) ∧ S.want r = some true ∧ j = S.base.plus c
  | 0, _, _, _ => by
    show Rep S.P S.E.globals φ (S.f p0).H w ∧ _
    rw [show p0 + 0 = p0 from rfl, h0]
    exact ⟨inv.rep, inv.ext, rfl, fun j o' hj => .inl ⟨o', hj⟩⟩
  | d + 1, hL, hr, hd => by
    have hr' : rank S.l (p0 + d) = k := by
      have h1 := rank_le (l := S.l) (p := p0) (q := p0 + d) (by omega)
      have h2 := rank_le (l := S.l) (p := p0 + d) (q := p0 + (d + 1)) (by omega)
      omega
    obtain ⟨r1, r2, r3, r4⟩ := Set.OK.abs ok hg0 inv h0 hk (d := d) (by omega) hr' fun r i c h1 h2 => hd r i c h1 (by omega)
    obtain ⟨⟨i, r⟩, hx⟩ : ∃ x, S.l[p0 + d]? = some x := ⟨S.l[p0 + d], List.getElem?_eq_getElem (by omega)⟩
    obtain ⟨o, x, ho, hrow, _⟩ := ok.rowAt hx
    have hst := ok.step _ _ hrow
    have hsame : (S.f (p0 + d + 1)).H = (S.f (p0 + d)).H → Rep S.P S.E.globals φ (S.f (p0 + (d + 1))).H w ∧ Ext φ0 Hs w0 φ (S.f (p0 + (d + 1))).H w ∧ (S.f (p0 + (d + 1))).H.next = (S.V k).next ∧
      ∀ j o', (S.f (p0 + (d + 1))).H.t.get j = some o' → (∃ o'', (S.V k).t.get j = some o'') ∨ ∃ r i c, p0 ≤ r ∧ r < p0 + (d + 1) ∧ S.l[r]? = some (i, .alloc c) ∧ S.want r = some true ∧ j = S.base.plus c := fun e => by
      rw [show p0 + (d + 1) = p0 + d + 1 from rfl, e]
      refine ⟨r1, r2, r3, fun j o' hj => (r4 j o' hj).imp id ?_⟩
      rintro ⟨r, i, c, h1, h2, h3⟩
      exact ⟨r, i, c, h1, by omega, h3⟩
    unfold stepD at hst
    cases hwa : wantedA (S.f (p0 + d)).T x.guard with
    | none => simp only [hwa] at hst; cases hst
    | some b =>
    cases r with
    | heavy =>
      have := rank_succ hx
      simp only [isHeavy, if_true] at this
      rw [show p0 + (d + 1) = p0 + d + 1 from rfl] at hr
      omega
    | pure =>
      cases b <;> simp only [hwa] at hst
      · simp only [Option.some.injEq] at hst; exact hsame (by rw [← hst])
      · split at hst
        · simp only [Option.some.injEq] at hst; exact hsame (by rw [← hst])
        · cases hst
    | read lo hi =>
      cases b <;> simp only [hwa] at hst
      · simp only [Option.some.injEq] at hst; exact hsame (by rw [← hst])
      · (repeat' split at hst) <;> first | (cases hst; done) | (simp only [Option.some.injEq] at hst; exact hsame (by rw [← hst]))
    | alloc c =>
      cases b <;> simp only [hwa] at hst
      · simp only [Option.some.injEq] at hst; exact hsame (by rw [← hst])
      · split at hst
        · rename_i ob bl hev
          simp only [Option.some.injEq] at hst
          have hw : S.want (p0 + d) = some true := by simp [Set.want, hrow, hwa]
          have hDi := hd (p0 + d) i c (by omega) (by omega) hx
          obtain ⟨b, n, o', bl', cob, m1, m2, m3, m4, m5, m6⟩ := inv.pend _ _ _ hx hDi (by omega) hw
          simp only [Set.made, hrow, hev, Option.some.injEq, Prod.mk.injEq] at m1
          obtain ⟨rfl, rfl⟩ := m1
          have eH : (S.f (p0 + (d + 1))).H = ⟨(S.f (p0 + d)).H.t.put (S.base.plus c) (some ob), (S.f (p0 + d)).H.next⟩ := by rw [show p0 + (d + 1) = p0 + d + 1 from rfl, ← hst]
          rw [eH]
          refine ⟨r1.absorb m2 (by omega) m4 m5 fun j o' s m hj hφ => ?_, r2.absorb m2 m3, r3, fun j o' hj => ?_⟩
          · rcases r4 j o' hj with ⟨o'', h⟩ | ⟨r, i', c', h1, h2, h3, h4, rfl⟩
            · exact m6 j o'' s m h hφ
            · have hD' := hd r i' c' h1 (by omega) h3
              have hrk : k ≤ rank S.l r := by rw [← hk]; exact rank_le h1
              have := inv.dist _ _ _ _ _ _ _ _ _ _ _ hx hDi (by omega) hw h3 hD' hrk h4 m2 hφ
              subst this
              have := ok.alloc_unique hx h3
              omega
          · by_cases e : S.base.plus c = j
            · exact .inr ⟨p0 + d, i, c, by omega, by omega, hx, hw, e.symm⟩
            · simp only [Tr.get_put_ne _ _ e] at hj
              refine (r4 j o' hj).imp id ?_
              rintro ⟨r, i, c, h1, h2, h3⟩
              exact ⟨r, i, c, h1, by omega, h3⟩
        · cases hst
end
end Go.Ev
