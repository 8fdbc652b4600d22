/-
A region that draws its order: the heap along the canonical order, and the step whatever comes next.
-/
import Derived.Test.YtodacahbeoekhaaGreatDoorEvN
namespace Go.Ev
section
variable {P : Program} {names : List String} {G : List (Nat × List AV)} {φ : Emb} {H : Hp} {w : World}

/-- A new block that no live number has yet: its number is kept ahead. -/
theorem Rep.ghost (h : Rep P G φ H w) {i : Pos} (hi : φ i = none) (hlt : i.toNat < H.next.toNat) (ob : Obj) (n : Nat) : Rep P G (upd φ i (w.heap.size, 0, n)) H (w.alloc ob) := by
  have hm := upd_mono (φ := φ) (i := i) (w.heap.size, 0, n) hi
  have hne : ∀ {j : Pos} {o : AObj}, H.t.get j = some o → i ≠ j := fun {j o} hj e => by
    subst e
    obtain ⟨b, s, m, h1, _⟩ := h.obj i o hj
    rw [hi] at h1; cases h1
  constructor
  · intro j o hj
    obtain ⟨b, s, k, h1, h2, c, h3, h4⟩ := h.obj j o hj
    have hb := h.block_lt hj h1
    exact ⟨b, s, k, hm _ _ h1, h2, c, by rw [heap_alloc_get, if_neg (by omega)]; exact h3, h4.mono hm⟩
  · intro j k o1 o2 b s1 n1 s2 n2 hj hk h1 h2
    rw [upd_ne _ _ (hne hj)] at h1
    rw [upd_ne _ _ (hne hk)] at h2
    exact h.inj j k o1 o2 b s1 n1 s2 n2 hj hk h1 h2
  · intro j hj
    rw [upd_ne _ _ (fun e => by subst e; omega)]
    exact h.fresh j hj
  · have := h.size
    simp
    omega
  · intro g cs hg
    obtain ⟨h1, c, t, f, h2, h3⟩ := h.glob g cs hg
    exact ⟨h1, c, t, f, by rw [heap_alloc_get, if_neg (by have := h.size; omega)]; exact h2, h3⟩

/-- A block that stands by comes into the heap. -/
theorem Rep.absorb (h : Rep P G φ H w) {i : Pos} {b n : Nat} {o : AObj} {c : Obj} (hi : φ i = some (b, 0, n)) (hg : P.globals.size ≤ b) (hc : w.heap[b]? = some c) (ho : OR φ 0 n o c)
    (hno : ∀ j o' s m, H.t.get j = some o' → φ j ≠ some (b, s, m)) : Rep P G φ ⟨H.t.put i (some o), H.next⟩ w := by
  constructor
  · intro j p hj
    by_cases e : i = j
    · subst e
      simp only [Tr.get_put_same] at hj
      cases hj
      exact ⟨b, 0, n, hi, hg, c, hc, ho⟩
    · simp only [Tr.get_put_ne _ _ e] at hj
      exact h.obj j p hj
  · intro j k o1 o2 bb s1 n1 s2 n2 hj hk h1 h2
    by_cases e : i = j
    · subst e
      rw [hi] at h1
      cases h1
      by_cases e2 : i = k
      · exact e2
      · simp only [Tr.get_put_ne _ _ e2] at hk
        exact absurd h2 (hno k o2 s2 n2 hk)
    · simp only [Tr.get_put_ne _ _ e] at hj
      by_cases e2 : i = k
      · subst e2
        rw [hi] at h2
        cases h2
        exact absurd h1 (hno j o1 s1 n1 hj)
      · simp only [Tr.get_put_ne _ _ e2] at hk
        exact h.inj j k o1 o2 bb s1 n1 s2 n2 hj hk h1 h2
  · exact h.fresh
  · exact h.size
  · exact h.glob
end

theorem Pos.plus_inj {p : Pos} {c d : Nat} (h : p.plus c = p.plus d) : c = d := by
  have := congrArg Pos.toNat h
  rw [Pos.toNat_plus, Pos.toNat_plus] at this
  omega

/-- The setting: a plan, its run. -/
structure Set where
  P : Program
  names : List String
  E : Env
  call : CallF
  nt : Nat
  ops : Array Oper
  l : List (Nat × Role)
  xs : List XI
  a : Nat
  base : Pos
  f : Nat → SD
  V : Nat → Hp

def Set.rows (S : Set) : List (XI × Role) := S.l.map fun x => (S.xs.getD x.1 default, x.2)
def Set.row (S : Set) (p : Nat) : Option (XI × Role) := S.rows[p]?
def Set.A (S : Set) : List Nat := ancs S.ops.toList []
def Set.m (S : Set) : Nat := (heavyOf S.l).length

structure Set.OK (S : Set) : Prop where
  good : GoodCall S.P S.E.globals S.call
  meths : methsOK S.P S.names S.E.meths = true
  low : lowIs S.P S.names S.nt S.ops S.ops.toList = some S.xs
  plan : ckPlan S.ops.toList S.a S.l = true
  step : ∀ (p : Nat) x, S.row p = some x → stepD S.call S.E S.base x (S.f p) = some (S.f (p + 1))
  hs : ∀ r, r ≤ S.l.length → (S.f r).hs = hsOf S.V (S.f r).k ∧ (S.f r).k ≤ (S.f S.l.length).k
  v0 : S.V 0 = (S.f 0).H
  k0 : (S.f 0).k = 0
  next0 : (S.f 0).H.next = S.base.plus S.a

theorem lowIs_length {P : Program} {names : List String} {nt : Nat} {ops : Array Oper} : ∀ {l : List Oper} {xs : List XI}, lowIs P names nt ops l = some xs → xs.length = l.length
  | [], xs, h => by simp [lowIs] at h; simp [h]
  | o :: l, xs, h => by
    simp only [lowIs] at h
    split at h
    · rename_i x m _ hm
      cases h
      simp [lowIs_length hm]
    · cases h
theorem lowIs_get {P : Program} {names : List String} {nt : Nat} {ops : Array Oper} : ∀ {l : List Oper} {xs : List XI}, lowIs P names nt ops l = some xs → ∀ {i : Nat} {o : Oper}, l[i]? = some o → ∃ x, xs[i]? = some x ∧ lowI P names nt ops o = some x
  | [], xs, h, i, o, hi => by simp at hi
  | o' :: l, xs, h, i, o, hi => by
    simp only [lowIs] at h
    split at h
    · rename_i x m hx hm
      cases h
      cases i with
      | zero => simp at hi; subst hi; exact ⟨x, rfl, hx⟩
      | succ i => simpa using lowIs_get hm (by simpa using hi)
    · cases h

section
variable {S : Set}

theorem Set.OK.edges (ok : S.OK) : ckEdges S.ops.toList S.A S.ops.size = true := by
  have := ok.plan
  simp only [ckPlan, Bool.and_eq_true] at this
  have h := this.1.1.1
  simpa [Set.A] using h
theorem Set.OK.tmps (ok : S.OK) : ckTmps S.ops.toList S.A S.ops.size = true := by
  have := ok.plan
  simp only [ckPlan, Bool.and_eq_true] at this
  have h := this.1.1.2
  simpa [Set.A] using h
theorem Set.OK.order (ok : S.OK) : ckOrder S.A S.ops.size S.l = true := by
  have := ok.plan
  simp only [ckPlan, Bool.and_eq_true] at this
  have h := this.1.2
  simpa [Set.A] using h
theorem Set.OK.roles (ok : S.OK) : ckRoles S.A S.ops.size S.a S.l = true := by
  have := ok.plan
  simp only [ckPlan, Bool.and_eq_true] at this
  have h := this.2
  simpa [Set.A] using h
theorem Set.OK.len (ok : S.OK) : S.l.length = S.ops.size := by
  have := ok.order
  simp only [ckOrder, Bool.and_eq_true] at this
  exact Nat.eq_of_beq_eq_true this.1.1

theorem Set.OK.oper_eq {i : Nat} (hi : i < S.ops.size) : oper S.ops.toList i = S.ops[i] := by
  simp [oper, hi]

/-- an operation's position -/
theorem Set.OK.pos (ok : S.OK) {i : Nat} (hi : i < S.ops.size) : ∃ (p : Nat) (r : Role), S.l[p]? = some (i, r) := by
  have := ok.order
  simp only [ckOrder, Bool.and_eq_true, List.all_eq_true, List.mem_range] at this
  have hm := this.1.2 i hi
  simp only [List.contains_eq_mem, decide_eq_true_eq, List.mem_map] at hm
  obtain ⟨⟨i', r⟩, h1, h2⟩ := hm
  simp at h2
  subst h2
  obtain ⟨p, hp⟩ := List.getElem?_of_mem h1
  exact ⟨p, r, hp⟩
theorem Set.OK.at (ok : S.OK) {p i : Nat} {r : Role} (h : S.l[p]? = some (i, r)) : i < S.ops.size ∧ (∀ (q : Nat) (r' : Role), q < p → S.l[q]? ≠ some (i, r')) ∧ ∀ j, j < S.ops.size → anc S.A i j = true → ∃ (q : Nat) (r' : Role), q < p ∧ S.l[q]? = some (j, r') := by
  have ho := ok.order
  simp only [ckOrder, Bool.and_eq_true, List.all_eq_true, List.mem_range] at ho
  have hp : p < S.ops.size := by rw [← ok.len]; exact (List.getElem?_eq_some_iff.1 h).1
  have hg : (S.l.map (·.1)).getD p S.ops.size = i := by simp [h]
  obtain ⟨⟨h1, h2⟩, h3⟩ := ho.2 p hp
  rw [hg] at h1 h2 h3
  have mem : ∀ j, ((S.l.map (·.1)).take p).contains j = true ↔ ∃ (q : Nat) (r' : Role), q < p ∧ S.l[q]? = some (j, r') := by
    intro j
    simp only [List.contains_eq_mem, decide_eq_true_eq]
    constructor
    · intro hm
      obtain ⟨q, hq⟩ := List.getElem?_of_mem hm
      have hqp : q < p := by
        have := (List.getElem?_eq_some_iff.1 hq).1
        simp at this
        omega
      rw [List.getElem?_take_of_lt hqp, List.getElem?_map] at hq
      cases hl : S.l[q]? with
      | none => simp [hl] at hq
      | some x => simp [hl] at hq; exact ⟨q, x.2, hqp, by rw [← hq]; exact hl⟩
    · rintro ⟨q, r', hq, hl⟩
      apply List.mem_of_getElem? (i := q)
      rw [List.getElem?_take_of_lt hq, List.getElem?_map, hl]
      rfl
  refine ⟨Nat.lt_of_succ_le (Nat.le_of_ble_eq_true h1), fun q r' hq hl => ?_, fun j hj ha => ?_⟩
  · have : ((S.l.map (·.1)).take p).contains i = true := (mem i).2 ⟨q, r', hq, hl⟩
    rw [this] at h2
    cases h2
  · have := h3 j hj
    rw [ha] at this
    exact (mem j).1 (by simpa using this)
theorem Set.OK.pos_unique (ok : S.OK) {p q i : Nat} {r r' : Role} (h : S.l[p]? = some (i, r)) (h' : S.l[q]? = some (i, r')) : p = q := by
  rcases Nat.lt_trichotomy p q with hlt | e | hlt
  · exact absurd h ((ok.at h').2.1 p r hlt)
  · exact e
  · exact absurd h' ((ok.at h).2.1 q r' hlt)

theorem Set.OK.rowAt (ok : S.OK) {p i : Nat} {r : Role} (h : S.l[p]? = some (i, r)) : ∃ o x, S.ops[i]? = some o ∧ S.row p = some (x, r) ∧ lowI S.P S.names S.nt S.ops o = some x := by
  obtain ⟨hi, _⟩ := ok.at h
  have ho : S.ops.toList[i]? = some S.ops[i] := by simp [hi]
  obtain ⟨x, hx, hlx⟩ := lowIs_get ok.low ho
  exact ⟨S.ops[i], x, by simp [hi], by simp [Set.row, Set.rows, h, hx], hlx⟩

theorem Set.OK.anc_edge (ok : S.OK) {i j : Nat} (hi : i < S.ops.size) (hj : j < S.ops.size) (h : anc S.A i j = true) : ∃ e ∈ (oper S.ops.toList i).after, Region.binds .any e = true ∧ (j = e.on ∨ anc S.A e.on j = true) := by
  have := ok.edges
  simp only [ckEdges, Bool.and_eq_true, List.all_eq_true, List.mem_range] at this
  have h2 := (this i hi).2 j hj
  rw [h] at h2
  simp only [Bool.not_true, Bool.false_or, List.any_eq_true, Bool.and_eq_true, Bool.or_eq_true] at h2
  obtain ⟨e, h3, h4, h5⟩ := h2
  exact ⟨e, by simpa using h3, h4, h5.imp Nat.eq_of_beq_eq_true id⟩
theorem Set.OK.edge_lt (ok : S.OK) {i : Nat} (hi : i < S.ops.size) {e : Edge} (he : e ∈ (oper S.ops.toList i).after) (hb : Region.binds .any e = true) : e.on < i := by
  have := ok.edges
  simp only [ckEdges, Bool.and_eq_true, List.all_eq_true, List.mem_range] at this
  have h2 := (this i hi).1 e (by simpa using he)
  rw [hb] at h2
  exact Nat.lt_of_succ_le (Nat.le_of_ble_eq_true (by simpa [Nat.blt] using h2))
theorem Set.OK.dst_ne (ok : S.OK) {i j d : Nat} (hi : i < S.ops.size) (hj : j < S.ops.size) (hij : i ≠ j) (hd : (oper S.ops.toList j).dst = some d) : (oper S.ops.toList i).dst ≠ some d ∧ (d ∈ tmpsOf S.ops.toList (oper S.ops.toList i) → anc S.A i j = true) := by
  have := ok.tmps
  simp only [ckTmps, List.all_eq_true, List.mem_range] at this
  have h2 := this i hi j hj
  rw [hd] at h2
  have hne : Nat.beq i j = false := by
    cases hb : Nat.beq i j with
    | false => rfl
    | true => exact absurd (Nat.eq_of_beq_eq_true hb) hij
  rw [hne] at h2
  simp only [Bool.false_or, Bool.and_eq_true, Bool.not_eq_true', Bool.or_eq_true] at h2
  refine ⟨fun e => ?_, fun hm => ?_⟩
  · rw [e] at h2; simp at h2
  · rcases h2.2 with h3 | h3
    · exfalso; simp at h3; exact h3 hm
    · exact h3
end
end Go.Ev
