/-
Joined texts.
-/
import Derived.Test.YtipkbcnibhnjdabGreatDoorEvM
set_option linter.unusedVariables false
set_option linter.unusedSimpArgs false
/-
A region that draws its order: whatever order comes, what the evaluator gives in its canonical order is what is left.
-/
namespace Go.Ev

-- (1) a run is a row of states
theorem runD_states {call : CallF} {E : Env} {base : Pos} : ∀ {l : List (XI × Role)} {s s' : SD}, runD call E base l s = some s' →
    ∃ f : Nat → SD, f 0 = s ∧ f l.length = s' ∧ ∀ (p : Nat) x, l[p]? = some x → stepD call E base x (f p) = some (f (p + 1))
  | [], s, s', h => by
    simp only [runD] at h
    cases h
    exact ⟨fun _ => s, rfl, rfl, by simp⟩
  | x :: l, s, s', h => by
    simp only [runD] at h
    split at h
    · rename_i s1 hs
      obtain ⟨f, h1, h2, h3⟩ := runD_states h
      refine ⟨fun p => match p with | 0 => s | p + 1 => f p, rfl, h2, fun p y hy => ?_⟩
      cases p with
      | zero =>
        simp at hy
        subst hy
        show stepD call E base x s = some (f 0)
        rw [h1]
        exact hs
      | succ p => exact h3 p y (by simpa using hy)
    · cases h

mutual
theorem AV.same_eq : ∀ {a b : AV}, AV.same a b = true → a = b
  | .bool a, b, h => by cases b <;> simp [AV.same] at h; rw [h]
  | .int k a, b, h => by
    cases b <;> simp only [AV.same, Bool.and_eq_true] at h <;> try (cases h; done)
    rw [kidx_inj h.1]
    have := h.2
    rw [eqI_eq] at this
    rw [show a = _ from by simpa using this]
  | .str a, b, h => by
    cases b <;> simp only [AV.same] at h <;> try (cases h; done)
    rw [strEq_eq] at h
    rw [show a = _ from by simpa using h]
  | .ptr i a, b, h => by
    cases b <;> simp only [AV.same, Bool.and_eq_true] at h <;> try (cases h; done)
    rw [Pos.same_eq h.1, Nat.eq_of_beq_eq_true h.2]
  | .gp i a, b, h => by
    cases b <;> simp only [AV.same, Bool.and_eq_true] at h <;> try (cases h; done)
    rw [Nat.eq_of_beq_eq_true h.1, Nat.eq_of_beq_eq_true h.2]
  | .nilp, b, h => by cases b <;> simp [AV.same] at h; rfl
  | .slc i x y c d, b, h => by
    cases b <;> simp only [AV.same, Bool.and_eq_true] at h <;> try (cases h; done)
    rename_i c' d'
    obtain ⟨⟨⟨⟨h1, h2⟩, h3⟩, h4⟩, h5⟩ := h
    rw [Pos.same_eq h1, Nat.eq_of_beq_eq_true h2, Nat.eq_of_beq_eq_true h3, Nat.eq_of_beq_eq_true h4]
    cases c <;> cases c' <;> simp at h5
    · rfl
    · rw [h5]
  | .nils, b, h => by cases b <;> simp [AV.same] at h; rfl
  | .map i, b, h => by
    cases b <;> simp only [AV.same] at h <;> try (cases h; done)
    rw [Pos.same_eq h]
  | .nilm, b, h => by cases b <;> simp [AV.same] at h; rfl
  | .fn f x y, b, h => by
    cases b <;> simp only [AV.same, Bool.and_eq_true] at h <;> try (cases h; done)
    rw [Pos.same_eq h.1.1, AV.sames_eq h.1.2, AV.sames_eq h.2]
  | .nilf, b, h => by cases b <;> simp [AV.same] at h; rfl
  | .ifc t x, b, h => by
    cases b <;> simp only [AV.same, Bool.and_eq_true] at h <;> try (cases h; done)
    rw [Nat.eq_of_beq_eq_true h.1, AV.same_eq h.2]
  | .nili, b, h => by cases b <;> simp [AV.same] at h; rfl
  | .agg x, b, h => by
    cases b <;> simp only [AV.same] at h <;> try (cases h; done)
    rw [AV.sames_eq h]
  | .tup x, b, h => by
    cases b <;> simp only [AV.same] at h <;> try (cases h; done)
    rw [AV.sames_eq h]
  | .any, b, h => by cases b <;> simp [AV.same] at h; rfl
theorem AV.sames_eq : ∀ {l m : List AV}, AV.sames l m = true → l = m
  | [], [], _ => rfl
  | [], _ :: _, h => by simp [AV.sames] at h
  | _ :: _, [], h => by simp [AV.sames] at h
  | a :: l, b :: m, h => by
    simp only [AV.sames, Bool.and_eq_true] at h
    rw [AV.same_eq h.1, AV.sames_eq h.2]
end

/-- heaps behind the heavy ones, from the k-th back to the first -/
def hsOf (V : Nat → Hp) : Nat → List (Nat × Hp)
  | 0 => [(0, V 0)]
  | k + 1 => (k + 1, V (k + 1)) :: hsOf V k
theorem hsOf_congr {V V' : Nat → Hp} : ∀ {k : Nat}, (∀ j, j ≤ k → V j = V' j) → hsOf V k = hsOf V' k
  | 0, h => by simp [hsOf, h 0 (Nat.le_refl _)]
  | k + 1, h => by simp [hsOf, h (k + 1) (Nat.le_refl _), hsOf_congr (k := k) fun j hj => h j (by omega)]

theorem stepD_hs {call : CallF} {E : Env} {base : Pos} {x : XI × Role} {s s' : SD} (h : stepD call E base x s = some s') :
    match x.2 with
    | .heavy => s'.k = s.k + 1 ∧ s'.hs = (s.k + 1, s'.H) :: s.hs ∧ checkReads E.globals (s.k + 1) s'.H s.rs = true ∧ s'.rs = s.rs
    | _ => s'.k = s.k ∧ s'.hs = s.hs ∧ (s'.rs = s.rs ∨ ∃ r, s'.rs = r :: s.rs) := by
  obtain ⟨x, r⟩ := x
  unfold stepD at h
  cases r <;> simp only [] at h ⊢ <;> (repeat' split at h) <;> first | (cases h; done) | (cases h; simp_all; done)

theorem states_hs {call : CallF} {E : Env} {base : Pos} (l : List (XI × Role)) (f : Nat → SD) (hf : ∀ (p : Nat) x, l[p]? = some x → stepD call E base x (f p) = some (f (p + 1)))
    (h0 : (f 0).hs = [(0, (f 0).H)]) (hk : (f 0).k = 0) : ∀ p, p ≤ l.length → ∃ V : Nat → Hp, V 0 = (f 0).H ∧ ∀ r, r ≤ p → (f r).hs = hsOf V (f r).k ∧ (f r).k ≤ (f p).k
  | 0, _ => ⟨fun _ => (f 0).H, rfl, fun r hr => by
      obtain rfl : r = 0 := by omega
      exact ⟨by rw [h0, hk]; rfl, Nat.le_refl _⟩⟩
  | p + 1, hp => by
    obtain ⟨V, v0, hV⟩ := states_hs l f hf h0 hk p (by omega)
    obtain ⟨x, hx⟩ : ∃ x, l[p]? = some x := ⟨l[p], List.getElem?_eq_getElem (by omega)⟩
    have hst := stepD_hs (hf p x hx)
    obtain ⟨x, r⟩ := x
    have hother : (f (p + 1)).k = (f p).k → (f (p + 1)).hs = (f p).hs → ∃ V : Nat → Hp, V 0 = (f 0).H ∧ ∀ r, r ≤ p + 1 → (f r).hs = hsOf V (f r).k ∧ (f r).k ≤ (f (p + 1)).k := fun e1 e2 =>
      ⟨V, v0, fun r hr => by
        rcases Nat.lt_or_ge r (p + 1) with h | h
        · obtain ⟨a, b⟩ := hV r (by omega); exact ⟨a, by omega⟩
        · obtain rfl : r = p + 1 := by omega
          exact ⟨by rw [e1, e2]; exact (hV p (Nat.le_refl _)).1, Nat.le_refl _⟩⟩
    cases r with
    | heavy =>
      simp only [] at hst
      obtain ⟨e1, e2, _⟩ := hst
      refine ⟨fun k => if k = (f p).k + 1 then (f (p + 1)).H else V k, by show (if 0 = (f p).k + 1 then _ else V 0) = _; rw [if_neg (by omega)]; exact v0, fun r hr => ?_⟩
      have hc : ∀ k, k ≤ (f p).k → hsOf (fun k => if k = (f p).k + 1 then (f (p + 1)).H else V k) k = hsOf V k := fun k hk => hsOf_congr fun j hj => by rw [if_neg (by omega)]
      rcases Nat.lt_or_ge r (p + 1) with h | h
      · obtain ⟨a, b⟩ := hV r (by omega)
        exact ⟨by rw [hc _ b]; exact a, by omega⟩
      · obtain rfl : r = p + 1 := by omega
        refine ⟨?_, Nat.le_refl _⟩
        rw [e1, e2]
        simp only [hsOf, if_true]
        rw [hc _ (Nat.le_refl _), (hV p (Nat.le_refl _)).1]
    | pure => exact hother hst.1 hst.2.1
    | read lo hi => exact hother hst.1 hst.2.1
    | alloc c => exact hother hst.1 hst.2.1

theorem sameAt_hsOf {G : List (Nat × List AV)} {T : Tm} {p : XP} {v : AV} {lo : Nat} {V : Nat → Hp} : ∀ {k : Nat}, sameAt G T p v (heapsIn lo (hsOf V k)) = true → ∀ j, lo ≤ j → j ≤ k → evalV G T (V j) p = some v
  | 0, h, j, h1, h2 => by
    obtain rfl : j = 0 := by omega
    have hl : Nat.ble lo 0 = true := Nat.ble_eq_true_of_le h1
    simp only [hsOf, heapsIn, hl, sameAt, Bool.and_eq_true] at h
    have := h.1
    split at this
    · rename_i u hu; rw [hu, AV.same_eq this]
    · cases this
  | k + 1, h, j, h1, h2 => by
    have hl : Nat.ble lo (k + 1) = true := Nat.ble_eq_true_of_le (by omega)
    simp only [hsOf, heapsIn, hl, sameAt, Bool.and_eq_true] at h
    by_cases e : j = k + 1
    · subst e
      have := h.1
      split at this
      · rename_i u hu; rw [hu, AV.same_eq this]
      · cases this
    · exact sameAt_hsOf h.2 j h1 (by omega)
theorem checkReads_mem {G : List (Nat × List AV)} {k : Nat} {H : Hp} : ∀ {rs : List (XP × Tm × AV × Nat × Nat)}, checkReads G k H rs = true → ∀ {p : XP} {T : Tm} {v : AV} {lo hi : Nat}, (p, T, v, lo, hi) ∈ rs → lo ≤ k → k ≤ hi → evalV G T H p = some v
  | [], _, _, _, _, _, _, hm, _, _ => by cases hm
  | (p', T', v', lo', hi') :: rs, h, p, T, v, lo, hi, hm, h1, h2 => by
    simp only [checkReads, Bool.and_eq_true] at h
    rcases List.mem_cons.1 hm with e | hm
    · cases e
      have hc : (Nat.ble lo' k && Nat.ble k hi') = true := by simp [h1, h2]
      rw [hc] at h
      dsimp only at h
      have := h.1
      split at this
      · rename_i u hu; rw [hu, AV.same_eq this]
      · cases this
    · exact checkReads_mem h.2 hm h1 h2

/-- A read at position p, seen from the heap behind any heavy one within its window. -/
theorem read_window {call : CallF} {E : Env} {base : Pos} {l : List (XI × Role)} {f : Nat → SD} (hf : ∀ (p : Nat) x, l[p]? = some x → stepD call E base x (f p) = some (f (p + 1))) {V : Nat → Hp}
    (hV : ∀ r, r ≤ l.length → (f r).hs = hsOf V (f r).k ∧ (f r).k ≤ (f l.length).k) {p : Nat} {x : XI} {lo hi : Nat} (hx : l[p]? = some (x, .read lo hi)) (hw : wantedA (f p).T x.guard = some true) :
    ∃ v, (f (p + 1)).T = (f p).T.set x.dst v ∧ (f (p + 1)).H = (f p).H ∧ ∀ j, lo ≤ j → j ≤ hi → j ≤ (f l.length).k → evalV E.globals (f p).T (V j) x.op = some v := by
  have hp : p < l.length := (List.getElem?_eq_some_iff.1 hx).1
  have hst := hf p _ hx
  unfold stepD at hst
  simp only [hw] at hst
  split at hst
  · rename_i kk VV rest hhs
    split at hst
    · rename_i v hv
      split at hst
      · rename_i hsame
        simp only [Option.some.injEq] at hst
        have hlate : ∀ q, p + 1 ≤ q → q ≤ l.length → (x.op, (f p).T, v, lo, hi) ∈ (f q).rs := by
          intro q hq hq2
          induction q with
          | zero => omega
          | succ q ih =>
            by_cases e : q = p
            · subst e; rw [← hst]; simp
            · have hm := ih (by omega) (by omega)
              obtain ⟨y, hy⟩ : ∃ y, l[q]? = some y := ⟨l[q], List.getElem?_eq_getElem (by omega)⟩
              have h2 := stepD_hs (hf q y hy)
              obtain ⟨y, r⟩ := y
              cases r <;> simp only [] at h2
              · rw [h2.2.2.2]; exact hm
              all_goals (rcases h2.2.2 with e2 | ⟨r, e2⟩ <;> rw [e2] <;> first | exact hm | exact List.mem_cons_of_mem _ hm)
        refine ⟨v, by rw [← hst], by rw [← hst], fun j h1 h2 h3 => ?_⟩
        by_cases hjk : j ≤ (f p).k
        · rw [(hV p (by omega)).1] at hsame
          exact sameAt_hsOf hsame j h1 hjk
        · -- the heavy step that made the j-th heap
          have key : ∀ q, p ≤ q → q ≤ l.length → j ≤ (f q).k → evalV E.globals (f p).T (V j) x.op = some v := by
            intro q hq hq2 hjq
            induction q with
            | zero => obtain rfl : p = 0 := by omega
                      exact absurd hjq hjk
            | succ q ih =>
              by_cases e : j ≤ (f q).k
              · by_cases e2 : p ≤ q
                · exact ih e2 (by omega) e
                · obtain rfl : p = q + 1 := by omega
                  exact absurd hjq hjk
              · obtain ⟨y, hy⟩ : ∃ y, l[q]? = some y := ⟨l[q], List.getElem?_eq_getElem (by omega)⟩
                have h4 := stepD_hs (hf q y hy)
                obtain ⟨y, r⟩ := y
                cases r <;> simp only [] at h4
                · obtain ⟨g1, g2, g3, g4⟩ := h4
                  obtain rfl : j = (f q).k + 1 := by omega
                  have hpq : p + 1 ≤ q := by
                    rcases Nat.lt_or_ge p q with h | h
                    · omega
                    · have : p = q := by
                        rcases Nat.lt_or_ge q p with h' | h'
                        · have : p = q + 1 := by omega
                          subst this; exact absurd hjq hjk
                        · omega
                      subst this
                      rw [hx] at hy
                      cases hy
                  have hm := hlate q hpq (by omega)
                  have hVq := (hV (q + 1) hq2).1
                  rw [g1, g2] at hVq
                  simp only [hsOf, List.cons.injEq, Prod.mk.injEq, true_and] at hVq
                  rw [← hVq.1]
                  exact checkReads_mem g3 hm h1 h2
                all_goals omega
          exact key l.length (by omega) (Nat.le_refl _) h3
      · cases hst
    · cases hst
  · cases hst
end Go.Ev

/-
A region that draws its order: the heap along the canonical order, and the step whatever comes next.
-/
namespace Go.Ev
section
variable {P : Program} {names : List String} {G : List (Nat × List AV)} {φ : Emb} {H : Hp} {w : World}

/-- A new block that no live number has yet: its number is kept ahead. -/
theorem Rep.ghost (h : Rep P G φ H w) {i : Pos} (hi : φ i = none) (hlt : i.toNat < H.next.toNat) (ob : Obj) (n : Nat) : Rep P G (upd φ i (w.heap.size, 0, n)) H (w.alloc ob) := by
  have hm := upd_mono (φ := φ) (i := i) (w.heap.size, 0, n) hi
  have hne : ∀ {j : Pos} {o : AObj}, H.t.get j = some o → i ≠ j := fun {j o} hj e => by
    subst e
    obtain ⟨b, s, m, h1, _⟩ := h.obj i o hj
    rw [hi] at h1; cases h1
  constructor
  · intro j o hj
    obtain ⟨b, s, k, h1, h2, c, h3, h4⟩ := h.obj j o hj
    have hb := h.block_lt hj h1
    exact ⟨b, s, k, hm _ _ h1, h2, c, by rw [heap_alloc_get, if_neg (by omega)]; exact h3, h4.mono hm⟩
  · intro j k o1 o2 b s1 n1 s2 n2 hj hk h1 h2
    rw [upd_ne _ _ (hne hj)] at h1
    rw [upd_ne _ _ (hne hk)] at h2
    exact h.inj j k o1 o2 b s1 n1 s2 n2 hj hk h1 h2
  · intro j hj
    rw [upd_ne _ _ (fun e => by subst e; omega)]
    exact h.fresh j hj
  · have := h.size
    simp
    omega
  · intro g cs hg
    obtain ⟨h1, c, t, f, h2, h3⟩ := h.glob g cs hg
    exact ⟨h1, c, t, f, by rw [heap_alloc_get, if_neg (by have := h.size; omega)]; exact h2, h3⟩

/-- A block that stands by comes into the heap. -/
theorem Rep.absorb (h : Rep P G φ H w) {i : Pos} {b n : Nat} {o : AObj} {c : Obj} (hi : φ i = some (b, 0, n)) (hg : P.globals.size ≤ b) (hc : w.heap[b]? = some c) (ho : OR φ 0 n o c)
    (hno : ∀ j o' s m, H.t.get j = some o' → φ j ≠ some (b, s, m)) : Rep P G φ ⟨H.t.put i (some o), H.next⟩ w := by
  constructor
  · intro j p hj
    by_cases e : i = j
    · subst e
      simp only [Tr.get_put_same] at hj
      cases hj
      exact ⟨b, 0, n, hi, hg, c, hc, ho⟩
    · simp only [Tr.get_put_ne _ _ e] at hj
      exact h.obj j p hj
  · intro j k o1 o2 bb s1 n1 s2 n2 hj hk h1 h2
    by_cases e : i = j
    · subst e
      rw [hi] at h1
      cases h1
      by_cases e2 : i = k
      · exact e2
      · simp only [Tr.get_put_ne _ _ e2] at hk
        exact absurd h2 (hno k o2 s2 n2 hk)
    · simp only [Tr.get_put_ne _ _ e] at hj
      by_cases e2 : i = k
      · subst e2
        rw [hi] at h2
        cases h2
        exact absurd h1 (hno j o1 s1 n1 hj)
      · simp only [Tr.get_put_ne _ _ e2] at hk
        exact h.inj j k o1 o2 bb s1 n1 s2 n2 hj hk h1 h2
  · exact h.fresh
  · exact h.size
  · exact h.glob
end

theorem Pos.plus_inj {p : Pos} {c d : Nat} (h : p.plus c = p.plus d) : c = d := by
  have := congrArg Pos.toNat h
  rw [Pos.toNat_plus, Pos.toNat_plus] at this
  omega

/-- The setting: a plan, its run. -/
structure Set where
  P : Program
  names : List String
  E : Env
  call : CallF
  nt : Nat
  ops : Array Oper
  l : List (Nat × Role)
  xs : List XI
  a : Nat
  base : Pos
  f : Nat → SD
  V : Nat → Hp

def Set.rows (S : Set) : List (XI × Role) := S.l.map fun x => (S.xs.getD x.1 default, x.2)
def Set.row (S : Set) (p : Nat) : Option (XI × Role) := S.rows[p]?
def Set.A (S : Set) : List Nat := ancs S.ops.toList []
def Set.m (S : Set) : Nat := (heavyOf S.l).length

structure Set.OK (S : Set) : Prop where
  good : GoodCall S.P S.E.globals S.call
  meths : methsOK S.P S.names S.E.meths = true
  low : lowIs S.P S.names S.nt S.ops S.ops.toList = some S.xs
  plan : ckPlan S.ops.toList S.a S.l = true
  step : ∀ (p : Nat) x, S.row p = some x → stepD S.call S.E S.base x (S.f p) = some (S.f (p + 1))
  hs : ∀ r, r ≤ S.l.length → (S.f r).hs = hsOf S.V (S.f r).k ∧ (S.f r).k ≤ (S.f S.l.length).k
  v0 : S.V 0 = (S.f 0).H
  k0 : (S.f 0).k = 0
  next0 : (S.f 0).H.next = S.base.plus S.a

theorem lowIs_length {P : Program} {names : List String} {nt : Nat} {ops : Array Oper} : ∀ {l : List Oper} {xs : List XI}, lowIs P names nt ops l = some xs → xs.length = l.length
  | [], xs, h => by simp [lowIs] at h; simp [h]
  | o :: l, xs, h => by
    simp only [lowIs] at h
    split at h
    · rename_i x m _ hm
      cases h
      simp [lowIs_length hm]
    · cases h
theorem lowIs_get {P : Program} {names : List String} {nt : Nat} {ops : Array Oper} : ∀ {l : List Oper} {xs : List XI}, lowIs P names nt ops l = some xs → ∀ {i : Nat} {o : Oper}, l[i]? = some o → ∃ x, xs[i]? = some x ∧ lowI P names nt ops o = some x
  | [], xs, h, i, o, hi => by simp at hi
  | o' :: l, xs, h, i, o, hi => by
    simp only [lowIs] at h
    split at h
    · rename_i x m hx hm
      cases h
      cases i with
      | zero => simp at hi; subst hi; exact ⟨x, rfl, hx⟩
      | succ i => simpa using lowIs_get hm (by simpa using hi)
    · cases h

section
variable {S : Set}

theorem Set.OK.edges (ok : S.OK) : ckEdges S.ops.toList S.A S.ops.size = true := by
  have := ok.plan
  simp only [ckPlan, Bool.and_eq_true] at this
  have h := this.1.1.1
  simpa [Set.A] using h
theorem Set.OK.tmps (ok : S.OK) : ckTmps S.ops.toList S.A S.ops.size = true := by
  have := ok.plan
  simp only [ckPlan, Bool.and_eq_true] at this
  have h := this.1.1.2
  simpa [Set.A] using h
theorem Set.OK.order (ok : S.OK) : ckOrder S.A S.ops.size S.l = true := by
  have := ok.plan
  simp only [ckPlan, Bool.and_eq_true] at this
  have h := this.1.2
  simpa [Set.A] using h
theorem Set.OK.roles (ok : S.OK) : ckRoles S.A S.ops.size S.a S.l = true := by
  have := ok.plan
  simp only [ckPlan, Bool.and_eq_true] at this
  have h := this.2
  simpa [Set.A] using h
theorem Set.OK.len (ok : S.OK) : S.l.length = S.ops.size := by
  have := ok.order
  simp only [ckOrder, Bool.and_eq_true] at this
  exact Nat.eq_of_beq_eq_true this.1.1

theorem Set.OK.oper_eq {i : Nat} (hi : i < S.ops.size) : oper S.ops.toList i = S.ops[i] := by
  simp [oper, hi]

/-- an operation's position -/
theorem Set.OK.pos (ok : S.OK) {i : Nat} (hi : i < S.ops.size) : ∃ (p : Nat) (r : Role), S.l[p]? = some (i, r) := by
  have := ok.order
  simp only [ckOrder, Bool.and_eq_true, List.all_eq_true, List.mem_range] at this
  have hm := this.1.2 i hi
  simp only [List.contains_eq_mem, decide_eq_true_eq, List.mem_map] at hm
  obtain ⟨⟨i', r⟩, h1, h2⟩ := hm
  simp at h2
  subst h2
  obtain ⟨p, hp⟩ := List.getElem?_of_mem h1
  exact ⟨p, r, hp⟩
theorem Set.OK.at (ok : S.OK) {p i : Nat} {r : Role} (h : S.l[p]? = some (i, r)) : i < S.ops.size ∧ (∀ (q : Nat) (r' : Role), q < p → S.l[q]? ≠ some (i, r')) ∧ ∀ j, j < S.ops.size → anc S.A i j = true → ∃ (q : Nat) (r' : Role), q < p ∧ S.l[q]? = some (j, r') := by
  have ho := ok.order
  simp only [ckOrder, Bool.and_eq_true, List.all_eq_true, List.mem_range] at ho
  have hp : p < S.ops.size := by rw [← ok.len]; exact (List.getElem?_eq_some_iff.1 h).1
  have hg : (S.l.map (·.1)).getD p S.ops.size = i := by simp [h]
  obtain ⟨⟨h1, h2⟩, h3⟩ := ho.2 p hp
  rw [hg] at h1 h2 h3
  have mem : ∀ j, ((S.l.map (·.1)).take p).contains j = true ↔ ∃ (q : Nat) (r' : Role), q < p ∧ S.l[q]? = some (j, r') := by
    intro j
    simp only [List.contains_eq_mem, decide_eq_true_eq]
    constructor
    · intro hm
      obtain ⟨q, hq⟩ := List.getElem?_of_mem hm
      have hqp : q < p := by
        have := (List.getElem?_eq_some_iff.1 hq).1
        simp at this
        omega
      rw [List.getElem?_take_of_lt hqp, List.getElem?_map] at hq
      cases hl : S.l[q]? with
      | none => simp [hl] at hq
      | some x => simp [hl] at hq; exact ⟨q, x.2, hqp, by rw [← hq]; exact hl⟩
    · rintro ⟨q, r', hq, hl⟩
      apply List.mem_of_getElem? (i := q)
      rw [List.getElem?_take_of_lt hq, List.getElem?_map, hl]
      rfl
  refine ⟨Nat.lt_of_succ_le (Nat.le_of_ble_eq_true h1), fun q r' hq hl => ?_, fun j hj ha => ?_⟩
  · have : ((S.l.map (·.1)).take p).contains i = true := (mem i).2 ⟨q, r', hq, hl⟩
    rw [this] at h2
    cases h2
  · have := h3 j hj
    rw [ha] at this
    exact (mem j).1 (by simpa using this)
theorem Set.OK.pos_unique (ok : S.OK) {p q i : Nat} {r r' : Role} (h : S.l[p]? = some (i, r)) (h' : S.l[q]? = some (i, r')) : p = q := by
  rcases Nat.lt_trichotomy p q with hlt | e | hlt
  · exact absurd h ((ok.at h').2.1 p r hlt)
  · exact e
  · exact absurd h' ((ok.at h).2.1 q r' hlt)

theorem Set.OK.rowAt (ok : S.OK) {p i : Nat} {r : Role} (h : S.l[p]? = some (i, r)) : ∃ o x, S.ops[i]? = some o ∧ S.row p = some (x, r) ∧ lowI S.P S.names S.nt S.ops o = some x := by
  obtain ⟨hi, _⟩ := ok.at h
  have ho : S.ops.toList[i]? = some S.ops[i] := by simp [hi]
  obtain ⟨x, hx, hlx⟩ := lowIs_get ok.low ho
  exact ⟨S.ops[i], x, by simp [hi], by simp [Set.row, Set.rows, h, hx], hlx⟩

theorem Set.OK.anc_edge (ok : S.OK) {i j : Nat} (hi : i < S.ops.size) (hj : j < S.ops.size) (h : anc S.A i j = true) : ∃ e ∈ (oper S.ops.toList i).after, Region.binds .any e = true ∧ (j = e.on ∨ anc S.A e.on j = true) := by
  have := ok.edges
  simp only [ckEdges, Bool.and_eq_true, List.all_eq_true, List.mem_range] at this
  have h2 := (this i hi).2 j hj
  rw [h] at h2
  simp only [Bool.not_true, Bool.false_or, List.any_eq_true, Bool.and_eq_true, Bool.or_eq_true] at h2
  obtain ⟨e, h3, h4, h5⟩ := h2
  exact ⟨e, by simpa using h3, h4, h5.imp Nat.eq_of_beq_eq_true id⟩
theorem Set.OK.edge_lt (ok : S.OK) {i : Nat} (hi : i < S.ops.size) {e : Edge} (he : e ∈ (oper S.ops.toList i).after) (hb : Region.binds .any e = true) : e.on < i := by
  have := ok.edges
  simp only [ckEdges, Bool.and_eq_true, List.all_eq_true, List.mem_range] at this
  have h2 := (this i hi).1 e (by simpa using he)
  rw [hb] at h2
  exact Nat.lt_of_succ_le (Nat.le_of_ble_eq_true (by simpa [Nat.blt] using h2))
theorem Set.OK.dst_ne (ok : S.OK) {i j d : Nat} (hi : i < S.ops.size) (hj : j < S.ops.size) (hij : i ≠ j) (hd : (oper S.ops.toList j).dst = some d) : (oper S.ops.toList i).dst ≠ some d ∧ (d ∈ tmpsOf S.ops.toList (oper S.ops.toList i) → anc S.A i j = true ∨ anc S.A j i = true) := by
  have := ok.tmps
  simp only [ckTmps, List.all_eq_true, List.mem_range] at this
  have h2 := this i hi j hj
  rw [hd] at h2
  have hne : Nat.beq i j = false := by
    cases hb : Nat.beq i j with
    | false => rfl
    | true => exact absurd (Nat.eq_of_beq_eq_true hb) hij
  rw [hne] at h2
  simp only [Bool.false_or, Bool.and_eq_true, Bool.not_eq_true', Bool.or_eq_true] at h2
  refine ⟨fun e => ?_, fun hm => ?_⟩
  · rw [e] at h2; simp at h2
  · rcases h2.2 with h3 | h3
    · exfalso; simp at h3; exact h3 hm
    · simpa using h3
end
end Go.Ev

/-
A region that draws its order: where it stands, how one operation carries that on.
-/
namespace Go.Ev

theorem evalV_next (G : List (Nat × List AV)) (T : Tm) (t : Tr AObj) (n n' : Pos) (p : XP) : evalV G T ⟨t, n⟩ p = evalV G T ⟨t, n'⟩ p := by cases p <;> rfl

theorem opR_of {φ : Emb} {T : Tm} {a : Act} {x : Operand} (h : ∀ t, x = .tmp t → t ≤ 100000 → VR φ (opnd T (.t (tpos t))) (a.tmps.getD t undef)) : OpR φ T a x := by
  cases x with
  | tmp t =>
    intro xo hx
    simp only [lowX] at hx
    split at hx
    · rename_i ht
      simp at hx
      subst hx
      exact h t rfl (Nat.le_of_ble_eq_true ht)
    · cases hx
  | const v =>
    intro xo hx
    simp only [lowX, Option.map_eq_some_iff] at hx
    obtain ⟨b, hb, rfl⟩ := hx
    exact liftV_sound φ _ v b hb
  | global g => intro xo hx; simp only [lowX] at hx; cases hx; exact rfl
  | func f =>
    intro xo hx
    simp only [lowX] at hx
    split at hx
    · rename_i hf
      cases hx
      exact ⟨[], [], by rw [tpos_toNat (Nat.le_of_ble_eq_true hf)]; rfl, rfl, rfl⟩
    · cases hx

-- ranks
theorem rank_succ {l : List (Nat × Role)} {p : Nat} {x : Nat × Role} (h : l[p]? = some x) : rank l (p + 1) = rank l p + (if isHeavy x.2 then 1 else 0) := by
  unfold rank
  rw [List.take_add_one, h]
  simp only [Option.toList_some, List.filter_append, List.length_append]
  cases hx : isHeavy x.2 <;> simp [hx]
theorem rank_zero (l : List (Nat × Role)) : rank l 0 = 0 := by simp [rank]
theorem rank_mono {l : List (Nat × Role)} {p : Nat} : ∀ {d : Nat}, rank l p ≤ rank l (p + d)
  | 0 => Nat.le_refl _
  | d + 1 => by
    refine Nat.le_trans (rank_mono (d := d)) ?_
    cases h : l[p + d]? with
    | some x => have := rank_succ h; rw [show p + (d + 1) = p + d + 1 from rfl, this]; exact Nat.le_add_right _ _
    | none =>
      have hl := List.getElem?_eq_none_iff.1 h
      unfold rank
      rw [List.take_of_length_le hl, List.take_of_length_le (by omega)]
      exact Nat.le_refl _
theorem rank_le {l : List (Nat × Role)} {p q : Nat} (h : p ≤ q) : rank l p ≤ rank l q := by
  obtain ⟨d, rfl⟩ := Nat.le.dest h
  exact rank_mono
theorem rank_len (l : List (Nat × Role)) : rank l l.length = (heavyOf l).length := by simp [rank, heavyOf]
theorem rank_heavy {l : List (Nat × Role)} {p i : Nat} (h : l[p]? = some (i, .heavy)) (n : Nat) : (heavyOf l).getD (rank l p) n = i ∧ rank l p < (heavyOf l).length := by
  have hp := (List.getElem?_eq_some_iff.1 h).1
  have hd : l = l.take p ++ (i, .heavy) :: l.drop (p + 1) := by
    have := List.getElem?_eq_some_iff.1 h
    obtain ⟨_, e⟩ := this
    conv => lhs; rw [← List.take_append_drop p l, List.drop_eq_getElem_cons hp, e]
  have e1 : heavyOf l = ((l.take p).filter fun x => isHeavy x.2).map (·.1) ++ i :: heavyOf (l.drop (p + 1)) := by
    conv => lhs; rw [hd]
    simp [heavyOf, isHeavy]
  have e2 : rank l p = (((l.take p).filter fun x => isHeavy x.2).map (·.1)).length := by simp [rank]
  rw [e1, e2]
  refine ⟨?_, by simp⟩
  rw [List.getD_eq_getElem?_getD, List.getElem?_append_right (Nat.le_refl _)]
  simp
theorem heavy_at {l : List (Nat × Role)} : ∀ (p k : Nat), k < rank l p → ∃ q i, q < p ∧ l[q]? = some (i, .heavy) ∧ rank l q = k
  | 0, k, h => by simp [rank_zero] at h
  | p + 1, k, h => by
    cases hx : l[p]? with
    | none =>
      have hl := List.getElem?_eq_none_iff.1 hx
      have : rank l (p + 1) = rank l p := by
        unfold rank
        rw [List.take_of_length_le hl, List.take_of_length_le (by omega)]
      rw [this] at h
      obtain ⟨q, i, h1, h2, h3⟩ := heavy_at p k h
      exact ⟨q, i, by omega, h2, h3⟩
    | some x =>
      rw [rank_succ hx] at h
      by_cases hk : k < rank l p
      · obtain ⟨q, i, h1, h2, h3⟩ := heavy_at p k hk
        exact ⟨q, i, by omega, h2, h3⟩
      · obtain ⟨i, r⟩ := x
        cases r with
        | heavy =>
          simp [isHeavy] at h
          exact ⟨p, i, by omega, hx, by omega⟩
        | pure => simp [isHeavy] at h; omega
        | read lo hi => simp [isHeavy] at h; omega
        | alloc c => simp [isHeavy] at h; omega

noncomputable def Set.want (S : Set) (p : Nat) : Option Bool := match S.row p with
  | some x => wantedA (S.f p).T x.1.guard
  | none => none
noncomputable def Set.made (S : Set) (p : Nat) : Option (AObj × Bld) := match S.row p with
  | some x => evalA (S.f p).T x.1.op
  | none => none

section
variable {S : Set}

theorem Set.OK.k_eq (ok : S.OK) : ∀ {p : Nat}, p ≤ S.l.length → (S.f p).k = rank S.l p
  | 0, _ => by rw [ok.k0, rank_zero]
  | p + 1, h => by
    have ih := Set.OK.k_eq ok (p := p) (by omega)
    obtain ⟨⟨i, r⟩, hx⟩ : ∃ x, S.l[p]? = some x := ⟨S.l[p], List.getElem?_eq_getElem (by omega)⟩
    obtain ⟨o, x, _, hrow, _⟩ := ok.rowAt hx
    have hs := stepD_hs (ok.step p _ hrow)
    rw [rank_succ hx, ← ih]
    cases r <;> simp only [] at hs <;> simp [isHeavy, hs.1]

theorem Set.OK.keep (ok : S.OK) {p i : Nat} {r : Role} (hx : S.l[p]? = some (i, r)) : ∃ o x v, S.ops[i]? = some o ∧ S.row p = some (x, r) ∧ lowI S.P S.names S.nt S.ops o = some x ∧ x.dst = o.dst.map tpos ∧ (∀ d, o.dst = some d → d < S.nt ∧ d ≤ 100000) ∧ (S.f (p + 1)).T = (S.f p).T.set (o.dst.map tpos) v := by
  obtain ⟨o, x, ho, hrow, hl⟩ := ok.rowAt hx
  obtain ⟨_, _, p3, p4⟩ := lowI_parts hl
  have hst := ok.step p _ hrow
  have : ∃ v, (S.f (p + 1)).T = (S.f p).T.set x.dst v := by
    unfold stepD at hst
    (repeat' split at hst) <;> first | (cases hst; done) | (simp only [Option.some.injEq] at hst; rw [← hst]; exact ⟨_, rfl⟩)
  obtain ⟨v, hv⟩ := this
  exact ⟨o, x, v, ho, hrow, hl, p3, p4, by rw [← p3]; exact hv⟩

theorem Set.OK.stage (ok : S.OK) : ∀ {p : Nat}, p ≤ S.l.length → ∃ p0, p0 ≤ p ∧ rank S.l p0 = rank S.l p ∧ (S.f p0).H = S.V (rank S.l p)
  | 0, _ => ⟨0, Nat.le_refl _, rfl, by rw [rank_zero, ok.v0]⟩
  | p + 1, h => by
    obtain ⟨p0, h1, h2, h3⟩ := Set.OK.stage ok (p := p) (by omega)
    obtain ⟨⟨i, r⟩, hx⟩ : ∃ x, S.l[p]? = some x := ⟨S.l[p], List.getElem?_eq_getElem (by omega)⟩
    obtain ⟨o, x, _, hrow, _⟩ := ok.rowAt hx
    have hs := stepD_hs (ok.step p _ hrow)
    have hk := ok.k_eq h
    have hh := (ok.hs (p + 1) h).1
    rw [rank_succ hx]
    cases r with
    | heavy =>
      simp only [] at hs
      obtain ⟨e1, e2, _⟩ := hs
      refine ⟨p + 1, Nat.le_refl _, by rw [rank_succ hx], ?_⟩
      have hkp := ok.k_eq (p := p) (by omega)
      rw [e2, e1] at hh
      simp only [hsOf, List.cons.injEq, Prod.mk.injEq, true_and] at hh
      simp only [isHeavy, if_true]
      rw [← hkp]
      exact hh.1
    | pure => exact ⟨p0, by omega, by simpa [isHeavy] using h2, by simpa [isHeavy] using h3⟩
    | read lo hi => exact ⟨p0, by omega, by simpa [isHeavy] using h2, by simpa [isHeavy] using h3⟩
    | alloc c => exact ⟨p0, by omega, by simpa [isHeavy] using h2, by simpa [isHeavy] using h3⟩

theorem Set.OK.role (ok : S.OK) {p i : Nat} {r : Role} (hx : S.l[p]? = some (i, r)) : match r with
      | .heavy => ∀ k, rank S.l p = k + 1 → anc S.A i ((heavyOf S.l).getD k S.ops.size) = true
      | .pure => True
      | .read lo hi => (∀ k, lo = k + 1 → k < S.m ∧ anc S.A i ((heavyOf S.l).getD k S.ops.size) = true) ∧ (S.m ≤ hi ∨ anc S.A ((heavyOf S.l).getD hi S.ops.size) i = true)
      | .alloc c => c < S.a ∧ (∀ p' i', p' < p → S.l[p']? ≠ some (i', .alloc c)) ∧ (rank S.l p = S.m ∨ anc S.A ((heavyOf S.l).getD (rank S.l p) S.ops.size) i = true) := by
  have hp : p < S.ops.size := by rw [← ok.len]; exact (List.getElem?_eq_some_iff.1 hx).1
  have h := ok.roles
  simp only [ckRoles, List.all_eq_true, List.mem_range] at h
  have h := h p hp
  rw [hx] at h
  cases r with
  | heavy =>
    simp only [] at h ⊢
    intro k hk
    rw [hk] at h
    exact h
  | pure => trivial
  | read lo hi =>
    simp only [Bool.and_eq_true, Bool.or_eq_true] at h ⊢
    refine ⟨fun k hk => ?_, h.2.imp Nat.le_of_ble_eq_true id⟩
    subst hk
    have := h.1
    simp only [Bool.and_eq_true] at this
    exact ⟨Nat.lt_of_succ_le (Nat.le_of_ble_eq_true this.1), this.2⟩
  | alloc c =>
    simp only [Bool.and_eq_true, Bool.or_eq_true] at h ⊢
    refine ⟨Nat.lt_of_succ_le (Nat.le_of_ble_eq_true h.1.1), fun p' i' hp' hx' => ?_, h.2.imp Nat.eq_of_beq_eq_true id⟩
    have h2 := h.1.2
    have : ((S.l.take p).filterMap fun x => allocOf x.2).contains c = true := by
      simp only [List.contains_eq_mem, decide_eq_true_eq, List.mem_filterMap]
      exact ⟨(i', .alloc c), List.mem_of_getElem? (i := p') (by rw [List.getElem?_take_of_lt hp']; exact hx'), rfl⟩
    rw [this] at h2
    cases h2

theorem Set.OK.alloc_unique (ok : S.OK) {p i p' i' c : Nat} (hx : S.l[p]? = some (i, .alloc c)) (hx' : S.l[p']? = some (i', .alloc c)) : p = p' := by
  rcases Nat.lt_trichotomy p p' with h | h | h
  · exact absurd hx ((ok.role hx').2.1 p i h)
  · exact h
  · exact absurd hx' ((ok.role hx).2.1 p' i' h)

theorem Set.OK.tkeep (ok : S.OK) {t : Nat} (ht : t ≤ 100000) {q : Nat} : ∀ {d : Nat}, q + d ≤ S.l.length → (∀ r i rr o, q ≤ r → r < q + d → S.l[r]? = some (i, rr) → S.ops[i]? = some o → o.dst ≠ some t) → (S.f (q + d)).T.get (tpos t) = (S.f q).T.get (tpos t)
  | 0, _, _ => rfl
  | d + 1, hL, h => by
    rw [← Set.OK.tkeep ok ht (d := d) (by omega) fun r i rr o h1 h2 => h r i rr o h1 (by omega)]
    obtain ⟨⟨i, r⟩, hx⟩ : ∃ x, S.l[q + d]? = some x := ⟨S.l[q + d], List.getElem?_eq_getElem (by omega)⟩
    obtain ⟨o, x, v, ho, _, _, _, p4, hT⟩ := ok.keep hx
    have hne := h (q + d) i r o (by omega) (by omega) hx ho
    rw [show q + (d + 1) = q + d + 1 from rfl, hT]
    cases hd : o.dst with
    | none => rfl
    | some d' =>
      have : tpos d' ≠ tpos t := fun e => hne (by rw [hd, tpos_inj (p4 _ hd).2 ht e])
      simp only [Option.map_some, Tm.set, Tr.get_put_ne _ _ this]
theorem Set.OK.tkeep' (ok : S.OK) {t : Nat} (ht : t ≤ 100000) {q p : Nat} (hqp : q ≤ p) (hL : p ≤ S.l.length) (h : ∀ r i rr o, q ≤ r → r < p → S.l[r]? = some (i, rr) → S.ops[i]? = some o → o.dst ≠ some t) : (S.f p).T.get (tpos t) = (S.f q).T.get (tpos t) := by
  obtain ⟨d, rfl⟩ := Nat.le.dest hqp
  exact ok.tkeep ht hL h
end

/-- What is so of heaps while such a region goes on. D: what has come up. -/
structure Inv (S : Set) (φ0 : Emb) (Hs : Hp) (w0 : World) (D : Nat → Prop) (φ : Emb) (k : Nat) (w : World) : Prop where
  le : k ≤ S.m
  heavy : ∀ (p i : Nat), S.l[p]? = some (i, Role.heavy) → (D i ↔ rank S.l p < k)
  rep : Rep S.P S.E.globals φ (S.V k) w
  ext : Ext φ0 Hs w0 φ (S.V k) w
  nx : (S.base.plus S.a).toNat ≤ (S.V k).next.toNat
  pend : ∀ (p i c : Nat), S.l[p]? = some (i, .alloc c) → D i → k ≤ rank S.l p → S.want p = some true → ∃ b n o bl cob, S.made p = some (o, bl) ∧ φ (S.base.plus c) = some (b, 0, n) ∧ w0.heap.size ≤ b ∧ w.heap[b]? = some cob ∧ OR φ 0 n o cob ∧
    ∀ j o' s m, (S.V k).t.get j = some o' → φ j ≠ some (b, s, m)
  dist : ∀ (p i c p' i' c' b s n s' n' : Nat), S.l[p]? = some (i, .alloc c) → D i → k ≤ rank S.l p → S.want p = some true → S.l[p']? = some (i', .alloc c') → D i' → k ≤ rank S.l p' → S.want p' = some true →
    φ (S.base.plus c) = some (b, s, n) → φ (S.base.plus c') = some (b, s', n') → c = c'
  notyet : ∀ (p i c : Nat), S.l[p]? = some (i, .alloc c) → ¬ D i → φ (S.base.plus c) = none

/-- What is so of temporaries. -/
structure FrI (S : Set) (D : Nat → Prop) (φ : Emb) (a : Act) : Prop where
  done : ∀ (p i : Nat) (r : Role) (o : Oper) (d : Nat), S.l[p]? = some (i, r) → S.ops[i]? = some o → o.dst = some d → D i → VR φ (opnd (S.f (p + 1)).T (.t (tpos d))) (a.tmps.getD d undef)
  rest : ∀ t, t ≤ 100000 → (∀ i o, S.ops[i]? = some o → D i → o.dst ≠ some t) → VR φ (opnd (S.f 0).T (.t (tpos t))) (a.tmps.getD t undef)
  room : S.nt ≤ a.tmps.size
  defers : a.defers = []

theorem Ext.absorb {φ0 φ : Emb} {Hs H : Hp} {w0 w : World} (h : Ext φ0 Hs w0 φ H w) {i : Pos} {b n : Nat} {o : AObj} (hi : φ i = some (b, 0, n)) (hb : w0.heap.size ≤ b) : Ext φ0 Hs w0 φ ⟨H.t.put i (some o), H.next⟩ w := by
  refine ⟨h.mono, h.same, fun j o' b' s m hj hφ => ?_, h.frame, h.size, h.next, h.os, h.tape, h.output⟩
  by_cases e : i = j
  · subst e
    rw [hi] at hφ
    cases hφ
    exact .inl hb
  · simp only [Tr.get_put_ne _ _ e] at hj
    exact h.img j o' b' s m hj hφ
theorem Ext.ghost {φ0 φ : Emb} {Hs H : Hp} {w0 w : World} (h : Ext φ0 Hs w0 φ H w) {i : Pos} (hi : φ i = none) (hlt : Hs.next.toNat ≤ i.toNat) (hlive : ∀ o, H.t.get i ≠ some o) (ob : Obj) (n : Nat) : Ext φ0 Hs w0 (upd φ i (w.heap.size, 0, n)) H (w.alloc ob) := by
  refine ⟨fun j x hj => upd_mono _ hi _ _ (h.mono j x hj), fun j hj => ?_, fun j o' b' s m hj hφ => ?_, fun b hb hn => ?_, ?_, h.next, h.os, h.tape, h.output⟩
  · rw [upd_ne _ _ (fun e => by subst e; omega)]
    exact h.same j hj
  · rw [upd_ne _ _ (fun e => by subst e; exact hlive _ hj)] at hφ
    exact h.img j o' b' s m hj hφ
  · rw [heap_alloc_get, if_neg (by have := h.size; omega)]
    exact h.frame b hb hn
  · have := h.size
    simp
    omega

section
variable {S : Set} {φ0 : Emb} {Hs : Hp} {w0 : World}

/-- Blocks that stand by come into the heap, up to position q. -/
theorem Set.OK.abs (ok : S.OK) (hg0 : S.P.globals.size ≤ w0.heap.size) {D : Nat → Prop} {φ : Emb} {k : Nat} {w : World} (inv : Inv S φ0 Hs w0 D φ k w) {p0 : Nat} (h0 : (S.f p0).H = S.V k) (hk : rank S.l p0 = k) : ∀ {d : Nat}, p0 + d ≤ S.l.length → rank S.l (p0 + d) = k →
    (∀ r i c, p0 ≤ r → r < p0 + d → S.l[r]? = some (i, .alloc c) → D i) →
    Rep S.P S.E.globals φ (S.f (p0 + d)).H w ∧ Ext φ0 Hs w0 φ (S.f (p0 + d)).H w ∧ (S.f (p0 + d)).H.next = (S.V k).next ∧
      ∀ j o', (S.f (p0 + d)).H.t.get j = some o' → (∃ o'', (S.V k).t.get j = some o'') ∨ ∃ r i c, p0 ≤ r ∧ r < p0 + d ∧ S.l[r]? = some (i, .alloc c) ∧ S.want r = some true ∧ j = S.base.plus c
  | 0, _, _, _ => by
    show Rep S.P S.E.globals φ (S.f p0).H w ∧ _
    rw [show p0 + 0 = p0 from rfl, h0]
    exact ⟨inv.rep, inv.ext, rfl, fun j o' hj => .inl ⟨o', hj⟩⟩
  | d + 1, hL, hr, hd => by
    have hr' : rank S.l (p0 + d) = k := by
      have h1 := rank_le (l := S.l) (p := p0) (q := p0 + d) (by omega)
      have h2 := rank_le (l := S.l) (p := p0 + d) (q := p0 + (d + 1)) (by omega)
      omega
    obtain ⟨r1, r2, r3, r4⟩ := Set.OK.abs ok hg0 inv h0 hk (d := d) (by omega) hr' fun r i c h1 h2 => hd r i c h1 (by omega)
    obtain ⟨⟨i, r⟩, hx⟩ : ∃ x, S.l[p0 + d]? = some x := ⟨S.l[p0 + d], List.getElem?_eq_getElem (by omega)⟩
    obtain ⟨o, x, ho, hrow, _⟩ := ok.rowAt hx
    have hst := ok.step _ _ hrow
    have hsame : (S.f (p0 + d + 1)).H = (S.f (p0 + d)).H → Rep S.P S.E.globals φ (S.f (p0 + (d + 1))).H w ∧ Ext φ0 Hs w0 φ (S.f (p0 + (d + 1))).H w ∧ (S.f (p0 + (d + 1))).H.next = (S.V k).next ∧
      ∀ j o', (S.f (p0 + (d + 1))).H.t.get j = some o' → (∃ o'', (S.V k).t.get j = some o'') ∨ ∃ r i c, p0 ≤ r ∧ r < p0 + (d + 1) ∧ S.l[r]? = some (i, .alloc c) ∧ S.want r = some true ∧ j = S.base.plus c := fun e => by
      rw [show p0 + (d + 1) = p0 + d + 1 from rfl, e]
      refine ⟨r1, r2, r3, fun j o' hj => (r4 j o' hj).imp id ?_⟩
      rintro ⟨r, i, c, h1, h2, h3⟩
      exact ⟨r, i, c, h1, by omega, h3⟩
    unfold stepD at hst
    cases hwa : wantedA (S.f (p0 + d)).T x.guard with
    | none => simp only [hwa] at hst; cases hst
    | some b =>
    cases r with
    | heavy =>
      have := rank_succ hx
      simp only [isHeavy, if_true] at this
      rw [show p0 + (d + 1) = p0 + d + 1 from rfl] at hr
      omega
    | pure =>
      cases b <;> simp only [hwa] at hst
      · simp only [Option.some.injEq] at hst; exact hsame (by rw [← hst])
      · split at hst
        · simp only [Option.some.injEq] at hst; exact hsame (by rw [← hst])
        · cases hst
    | read lo hi =>
      cases b <;> simp only [hwa] at hst
      · simp only [Option.some.injEq] at hst; exact hsame (by rw [← hst])
      · (repeat' split at hst) <;> first | (cases hst; done) | (simp only [Option.some.injEq] at hst; exact hsame (by rw [← hst]))
    | alloc c =>
      cases b <;> simp only [hwa] at hst
      · simp only [Option.some.injEq] at hst; exact hsame (by rw [← hst])
      · split at hst
        · rename_i ob bl hev
          simp only [Option.some.injEq] at hst
          have hw : S.want (p0 + d) = some true := by simp [Set.want, hrow, hwa]
          have hDi := hd (p0 + d) i c (by omega) (by omega) hx
          obtain ⟨b, n, o', bl', cob, m1, m2, m3, m4, m5, m6⟩ := inv.pend _ _ _ hx hDi (by omega) hw
          simp only [Set.made, hrow, hev, Option.some.injEq, Prod.mk.injEq] at m1
          obtain ⟨rfl, rfl⟩ := m1
          have eH : (S.f (p0 + (d + 1))).H = ⟨(S.f (p0 + d)).H.t.put (S.base.plus c) (some ob), (S.f (p0 + d)).H.next⟩ := by rw [show p0 + (d + 1) = p0 + d + 1 from rfl, ← hst]
          rw [eH]
          refine ⟨r1.absorb m2 (by omega) m4 m5 fun j o' s m hj hφ => ?_, r2.absorb m2 m3, r3, fun j o' hj => ?_⟩
          · rcases r4 j o' hj with ⟨o'', h⟩ | ⟨r, i', c', h1, h2, h3, h4, rfl⟩
            · exact m6 j o'' s m h hφ
            · have hD' := hd r i' c' h1 (by omega) h3
              have hrk : k ≤ rank S.l r := by rw [← hk]; exact rank_le h1
              have := inv.dist _ _ _ _ _ _ _ _ _ _ _ hx hDi (by omega) hw h3 hD' hrk h4 m2 hφ
              subst this
              have := ok.alloc_unique hx h3
              omega
          · by_cases e : S.base.plus c = j
            · exact .inr ⟨p0 + d, i, c, by omega, by omega, hx, hw, e.symm⟩
            · simp only [Tr.get_put_ne _ _ e] at hj
              refine (r4 j o' hj).imp id ?_
              rintro ⟨r, i, c, h1, h2, h3⟩
              exact ⟨r, i, c, h1, by omega, h3⟩
        · cases hst
end
end Go.Ev
