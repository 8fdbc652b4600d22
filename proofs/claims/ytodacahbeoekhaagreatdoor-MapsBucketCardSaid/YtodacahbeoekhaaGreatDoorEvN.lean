/-
A region that draws its order: whatever order comes, what the evaluator gives in its canonical order is what is left.
-/
import Derived.Test.YtodacahbeoekhaaGreatDoorEvM
namespace Go.Ev

-- (1) a run is a row of states
theorem runD_states {call : CallF} {E : Env} {base : Pos} : ∀ {l : List (XI × Role)} {s s' : SD}, runD call E base l s = some s' →
    ∃ f : Nat → SD, f 0 = s ∧ f l.length = s' ∧ ∀ (p : Nat) x, l[p]? = some x → stepD call E base x (f p) = some (f (p + 1))
  | [], s, s', h => by
    simp only [runD] at h
    cases h
    exact ⟨fun _ => s, rfl, rfl, by simp⟩
  | x :: l, s, s', h => by
    simp only [runD] at h
    split at h
    · rename_i s1 hs
      obtain ⟨f, h1, h2, h3⟩ := runD_states h
      refine ⟨fun p => match p with | 0 => s | p + 1 => f p, rfl, h2, fun p y hy => ?_⟩
      cases p with
      | zero =>
        simp at hy
        subst hy
        show stepD call E base x s = some (f 0)
        rw [h1]
        exact hs
      | succ p => exact h3 p y (by simpa using hy)
    · cases h

mutual
theorem AV.same_eq : ∀ {a b : AV}, AV.same a b = true → a = b
  | .bool a, b, h => by cases b <;> simp [AV.same] at h; rw [h]
  | .int k a, b, h => by
    cases b <;> simp only [AV.same, Bool.and_eq_true] at h <;> try (cases h; done)
    rw [kidx_inj h.1]
    have := h.2
    rw [eqI_eq] at this
    rw [show a = _ from by simpa using this]
  | .str a, b, h => by
    cases b <;> simp only [AV.same] at h <;> try (cases h; done)
    rw [strEq_eq] at h
    rw [show a = _ from by simpa using h]
  | .ptr i a, b, h => by
    cases b <;> simp only [AV.same, Bool.and_eq_true] at h <;> try (cases h; done)
    rw [Pos.same_eq h.1, Nat.eq_of_beq_eq_true h.2]
  | .gp i a, b, h => by
    cases b <;> simp only [AV.same, Bool.and_eq_true] at h <;> try (cases h; done)
    rw [Nat.eq_of_beq_eq_true h.1, Nat.eq_of_beq_eq_true h.2]
  | .nilp, b, h => by cases b <;> simp [AV.same] at h; rfl
  | .slc i x y c d, b, h => by
    cases b <;> simp only [AV.same, Bool.and_eq_true] at h <;> try (cases h; done)
    rename_i c' d'
    obtain ⟨⟨⟨⟨h1, h2⟩, h3⟩, h4⟩, h5⟩ := h
    rw [Pos.same_eq h1, Nat.eq_of_beq_eq_true h2, Nat.eq_of_beq_eq_true h3, Nat.eq_of_beq_eq_true h4]
    cases c <;> cases c' <;> simp at h5
    · rfl
    · rw [h5]
  | .nils, b, h => by cases b <;> simp [AV.same] at h; rfl
  | .map i, b, h => by
    cases b <;> simp only [AV.same] at h <;> try (cases h; done)
    rw [Pos.same_eq h]
  | .nilm, b, h => by cases b <;> simp [AV.same] at h; rfl
  | .fn f x y, b, h => by
    cases b <;> simp only [AV.same, Bool.and_eq_true] at h <;> try (cases h; done)
    rw [Pos.same_eq h.1.1, AV.sames_eq h.1.2, AV.sames_eq h.2]
  | .nilf, b, h => by cases b <;> simp [AV.same] at h; rfl
  | .ifc t x, b, h => by
    cases b <;> simp only [AV.same, Bool.and_eq_true] at h <;> try (cases h; done)
    rw [Nat.eq_of_beq_eq_true h.1, AV.same_eq h.2]
  | .nili, b, h => by cases b <;> simp [AV.same] at h; rfl
  | .agg x, b, h => by
    cases b <;> simp only [AV.same] at h <;> try (cases h; done)
    rw [AV.sames_eq h]
  | .tup x, b, h => by
    cases b <;> simp only [AV.same] at h <;> try (cases h; done)
    rw [AV.sames_eq h]
theorem AV.sames_eq : ∀ {l m : List AV}, AV.sames l m = true → l = m
  | [], [], _ => rfl
  | [], _ :: _, h => by simp [AV.sames] at h
  | _ :: _, [], h => by simp [AV.sames] at h
  | a :: l, b :: m, h => by
    simp only [AV.sames, Bool.and_eq_true] at h
    rw [AV.same_eq h.1, AV.sames_eq h.2]
end

/-- heaps behind the heavy ones, from the k-th back to the first -/
def hsOf (V : Nat → Hp) : Nat → List (Nat × Hp)
  | 0 => [(0, V 0)]
  | k + 1 => (k + 1, V (k + 1)) :: hsOf V k
theorem hsOf_congr {V V' : Nat → Hp} : ∀ {k : Nat}, (∀ j, j ≤ k → V j = V' j) → hsOf V k = hsOf V' k
  | 0, h => by simp [hsOf, h 0 (Nat.le_refl _)]
  | k + 1, h => by simp [hsOf, h (k + 1) (Nat.le_refl _), hsOf_congr (k := k) fun j hj => h j (by omega)]

theorem stepD_hs {call : CallF} {E : Env} {base : Pos} {x : XI × Role} {s s' : SD} (h : stepD call E base x s = some s') :
    match x.2 with
    | .heavy => s'.k = s.k + 1 ∧ s'.hs = (s.k + 1, s'.H) :: s.hs ∧ checkReads E.globals (s.k + 1) s'.H s.rs = true ∧ s'.rs = s.rs
    | _ => s'.k = s.k ∧ s'.hs = s.hs ∧ (s'.rs = s.rs ∨ ∃ r, s'.rs = r :: s.rs) := by
  obtain ⟨x, r⟩ := x
  unfold stepD at h
  cases r <;> simp only [] at h ⊢ <;> (repeat' split at h) <;> first | (cases h; done) | (cases h; simp_all; done)

theorem states_hs {call : CallF} {E : Env} {base : Pos} (l : List (XI × Role)) (f : Nat → SD) (hf : ∀ (p : Nat) x, l[p]? = some x → stepD call E base x (f p) = some (f (p + 1)))
    (h0 : (f 0).hs = [(0, (f 0).H)]) (hk : (f 0).k = 0) : ∀ p, p ≤ l.length → ∃ V : Nat → Hp, V 0 = (f 0).H ∧ ∀ r, r ≤ p → (f r).hs = hsOf V (f r).k ∧ (f r).k ≤ (f p).k
  | 0, _ => ⟨fun _ => (f 0).H, rfl, fun r hr => by
      obtain rfl : r = 0 := by omega
      exact ⟨by rw [h0, hk]; rfl, Nat.le_refl _⟩⟩
  | p + 1, hp => by
    obtain ⟨V, v0, hV⟩ := states_hs l f hf h0 hk p (by omega)
    obtain ⟨x, hx⟩ : ∃ x, l[p]? = some x := ⟨l[p], List.getElem?_eq_getElem (by omega)⟩
    have hst := stepD_hs (hf p x hx)
    obtain ⟨x, r⟩ := x
    have hother : (f (p + 1)).k = (f p).k → (f (p + 1)).hs = (f p).hs → ∃ V : Nat → Hp, V 0 = (f 0).H ∧ ∀ r, r ≤ p + 1 → (f r).hs = hsOf V (f r).k ∧ (f r).k ≤ (f (p + 1)).k := fun e1 e2 =>
      ⟨V, v0, fun r hr => by
        rcases Nat.lt_or_ge r (p + 1) with h | h
        · obtain ⟨a, b⟩ := hV r (by omega); exact ⟨a, by omega⟩
        · obtain rfl : r = p + 1 := by omega
          exact ⟨by rw [e1, e2]; exact (hV p (Nat.le_refl _)).1, Nat.le_refl _⟩⟩
    cases r with
    | heavy =>
      simp only [] at hst
      obtain ⟨e1, e2, _⟩ := hst
      refine ⟨fun k => if k = (f p).k + 1 then (f (p + 1)).H else V k, by show (if 0 = (f p).k + 1 then _ else V 0) = _; rw [if_neg (by omega)]; exact v0, fun r hr => ?_⟩
      have hc : ∀ k, k ≤ (f p).k → hsOf (fun k => if k = (f p).k + 1 then (f (p + 1)).H else V k) k = hsOf V k := fun k hk => hsOf_congr fun j hj => by rw [if_neg (by omega)]
      rcases Nat.lt_or_ge r (p + 1) with h | h
      · obtain ⟨a, b⟩ := hV r (by omega)
        exact ⟨by rw [hc _ b]; exact a, by omega⟩
      · obtain rfl : r = p + 1 := by omega
        refine ⟨?_, Nat.le_refl _⟩
        rw [e1, e2]
        simp only [hsOf, if_true]
        rw [hc _ (Nat.le_refl _), (hV p (Nat.le_refl _)).1]
    | pure => exact hother hst.1 hst.2.1
    | read lo hi => exact hother hst.1 hst.2.1
    | alloc c => exact hother hst.1 hst.2.1

theorem sameAt_hsOf {G : List (Nat × List AV)} {T : Tm} {p : XP} {v : AV} {lo : Nat} {V : Nat → Hp} : ∀ {k : Nat}, sameAt G T p v (heapsIn lo (hsOf V k)) = true → ∀ j, lo ≤ j → j ≤ k → evalV G T (V j) p = some v
  | 0, h, j, h1, h2 => by
    obtain rfl : j = 0 := by omega
    have hl : Nat.ble lo 0 = true := Nat.ble_eq_true_of_le h1
    simp only [hsOf, heapsIn, hl, sameAt, Bool.and_eq_true] at h
    have := h.1
    split at this
    · rename_i u hu; rw [hu, AV.same_eq this]
    · cases this
  | k + 1, h, j, h1, h2 => by
    have hl : Nat.ble lo (k + 1) = true := Nat.ble_eq_true_of_le (by omega)
    simp only [hsOf, heapsIn, hl, sameAt, Bool.and_eq_true] at h
    by_cases e : j = k + 1
    · subst e
      have := h.1
      split at this
      · rename_i u hu; rw [hu, AV.same_eq this]
      · cases this
    · exact sameAt_hsOf h.2 j h1 (by omega)
theorem checkReads_mem {G : List (Nat × List AV)} {k : Nat} {H : Hp} : ∀ {rs : List (XP × Tm × AV × Nat × Nat)}, checkReads G k H rs = true → ∀ {p : XP} {T : Tm} {v : AV} {lo hi : Nat}, (p, T, v, lo, hi) ∈ rs → lo ≤ k → k ≤ hi → evalV G T H p = some v
  | [], _, _, _, _, _, _, hm, _, _ => by cases hm
  | (p', T', v', lo', hi') :: rs, h, p, T, v, lo, hi, hm, h1, h2 => by
    simp only [checkReads, Bool.and_eq_true] at h
    rcases List.mem_cons.1 hm with e | hm
    · cases e
      have hc : (Nat.ble lo' k && Nat.ble k hi') = true := by simp [h1, h2]
      rw [hc] at h
      dsimp only at h
      have := h.1
      split at this
      · rename_i u hu; rw [hu, AV.same_eq this]
      · cases this
    · exact checkReads_mem h.2 hm h1 h2

/-- A read at position p, seen from the heap behind any heavy one within its window. -/
theorem read_window {call : CallF} {E : Env} {base : Pos} {l : List (XI × Role)} {f : Nat → SD} (hf : ∀ (p : Nat) x, l[p]? = some x → stepD call E base x (f p) = some (f (p + 1))) {V : Nat → Hp}
    (hV : ∀ r, r ≤ l.length → (f r).hs = hsOf V (f r).k ∧ (f r).k ≤ (f l.length).k) {p : Nat} {x : XI} {lo hi : Nat} (hx : l[p]? = some (x, .read lo hi)) (hw : wantedA (f p).T x.guard = some true) :
    ∃ v, (f (p + 1)).T = (f p).T.set x.dst v ∧ (f (p + 1)).H = (f p).H ∧ ∀ j, lo ≤ j → j ≤ hi → j ≤ (f l.length).k → evalV E.globals (f p).T (V j) x.op = some v := by
  have hp : p < l.length := (List.getElem?_eq_some_iff.1 hx).1
  have hst := hf p _ hx
  unfold stepD at hst
  simp only [hw] at hst
  split at hst
  · rename_i kk VV rest hhs
    split at hst
    · rename_i v hv
      split at hst
      · rename_i hsame
        simp only [Option.some.injEq] at hst
        have hlate : ∀ q, p + 1 ≤ q → q ≤ l.length → (x.op, (f p).T, v, lo, hi) ∈ (f q).rs := by
          intro q hq hq2
          induction q with
          | zero => omega
          | succ q ih =>
            by_cases e : q = p
            · subst e; rw [← hst]; simp
            · have hm := ih (by omega) (by omega)
              obtain ⟨y, hy⟩ : ∃ y, l[q]? = some y := ⟨l[q], List.getElem?_eq_getElem (by omega)⟩
              have h2 := stepD_hs (hf q y hy)
              obtain ⟨y, r⟩ := y
              cases r <;> simp only [] at h2
              · rw [h2.2.2.2]; exact hm
              all_goals (rcases h2.2.2 with e2 | ⟨r, e2⟩ <;> rw [e2] <;> first | exact hm | exact List.mem_cons_of_mem _ hm)
        refine ⟨v, by rw [← hst], by rw [← hst], fun j h1 h2 h3 => ?_⟩
        by_cases hjk : j ≤ (f p).k
        · rw [(hV p (by omega)).1] at hsame
          exact sameAt_hsOf hsame j h1 hjk
        · -- the heavy step that made the j-th heap
          have key : ∀ q, p ≤ q → q ≤ l.length → j ≤ (f q).k → evalV E.globals (f p).T (V j) x.op = some v := by
            intro q hq hq2 hjq
            induction q with
            | zero => obtain rfl : p = 0 := by omega
                      exact absurd hjq hjk
            | succ q ih =>
              by_cases e : j ≤ (f q).k
              · by_cases e2 : p ≤ q
                · exact ih e2 (by omega) e
                · obtain rfl : p = q + 1 := by omega
                  exact absurd hjq hjk
              · obtain ⟨y, hy⟩ : ∃ y, l[q]? = some y := ⟨l[q], List.getElem?_eq_getElem (by omega)⟩
                have h4 := stepD_hs (hf q y hy)
                obtain ⟨y, r⟩ := y
                cases r <;> simp only [] at h4
                · obtain ⟨g1, g2, g3, g4⟩ := h4
                  obtain rfl : j = (f q).k + 1 := by omega
                  have hpq : p + 1 ≤ q := by
                    rcases Nat.lt_or_ge p q with h | h
                    · omega
                    · have : p = q := by
                        rcases Nat.lt_or_ge q p with h' | h'
                        · have : p = q + 1 := by omega
                          subst this; exact absurd hjq hjk
                        · omega
                      subst this
                      rw [hx] at hy
                      cases hy
                  have hm := hlate q hpq (by omega)
                  have hVq := (hV (q + 1) hq2).1
                  rw [g1, g2] at hVq
                  simp only [hsOf, List.cons.injEq, Prod.mk.injEq, true_and] at hVq
                  rw [← hVq.1]
                  exact checkReads_mem g3 hm h1 h2
                all_goals omega
          exact key l.length (by omega) (Nat.le_refl _) h3
      · cases hst
    · cases hst
  · cases hst
end Go.Ev
