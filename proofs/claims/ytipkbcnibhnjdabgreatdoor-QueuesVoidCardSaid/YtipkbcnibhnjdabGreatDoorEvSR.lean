/-
Joined texts.
-/
import Derived.Test.YtipkbcnibhnjdabGreatDoorEvSc
set_option linter.unusedVariables false
set_option linter.unusedSimpArgs false
/-
Runs by rules; runs where blocks lie elsewhere; what is veiled.
-/
namespace Go.Ev

mutual
def ren (ρ : Pos → Pos) : AV → AV
  | .ptr i off => .ptr (ρ i) off
  | .slc i a b c d => .slc (ρ i) a b c d
  | .map i => .map (ρ i)
  | .fn f a b => .fn f (rens ρ a) (rens ρ b)
  | .ifc t v => .ifc t (ren ρ v)
  | .agg l => .agg (rens ρ l)
  | .tup l => .tup (rens ρ l)
  | .bool b => .bool b
  | .int k n => .int k n
  | .str s => .str s
  | .gp g o => .gp g o
  | .nilp => .nilp
  | .nils => .nils
  | .nilm => .nilm
  | .nilf => .nilf
  | .nili => .nili
  | .any => .any
def rens (ρ : Pos → Pos) : List AV → List AV
  | [] => []
  | a :: l => ren ρ a :: rens ρ l
end
def renE (ρ : Pos → Pos) : List (AV × AV × Nat) → List (AV × AV × Nat)
  | [] => []
  | (k, v, b) :: l => (ren ρ k, ren ρ v, b) :: renE ρ l
def renO (ρ : Pos → Pos) : AObj → AObj
  | .cells cs => .cells (rens ρ cs)
  | .mp es c => .mp (renE ρ es) c
  | .gh k m c => .gh k m c
  | .ro m c => .ro m c

mutual
theorem VR.ren {φ : Emb} {ρ : Pos → Pos} : ∀ {a : AV} {v : Value}, VR φ (ren ρ a) v → VR (fun i => φ (ρ i)) a v
  | .ptr _ _, _, h => h
  | .slc .., _, h => h
  | .map _, _, h => h
  | .fn f a b, _, ⟨fs, cs, h1, h2, h3⟩ => ⟨fs, cs, h1, VRs.ren h2, VRs.ren h3⟩
  | .ifc t x, _, ⟨u, h1, h2⟩ => ⟨u, h1, VR.ren h2⟩
  | .agg l, _, ⟨vs, h1, h2⟩ => ⟨vs, h1, VRs.ren h2⟩
  | .tup l, _, ⟨vs, h1, h2⟩ => ⟨vs, h1, VRs.ren h2⟩
  | .bool _, _, h => h
  | .int _ _, _, h => h
  | .str _, _, h => h
  | .gp _ _, _, h => h
  | .nilp, _, h => h
  | .nils, _, h => h
  | .nilm, _, h => h
  | .nilf, _, h => h
  | .nili, _, h => h
  | .any, _, _ => trivial
theorem VRs.ren {φ : Emb} {ρ : Pos → Pos} : ∀ {l : List AV} {vs : List Value}, VRs φ (rens ρ l) vs → VRs (fun i => φ (ρ i)) l vs
  | [], _, h => h
  | a :: l, _, ⟨v, vs, h1, h2, h3⟩ => ⟨v, vs, h1, VR.ren h2, VRs.ren h3⟩
end
theorem rens_length (ρ : Pos → Pos) : ∀ l : List AV, (rens ρ l).length = l.length
  | [] => rfl
  | a :: l => by simp [rens, rens_length ρ l]
theorem at?_rens (ρ : Pos → Pos) : ∀ (l : List AV) (j : Nat) (a : AV), at? l j = some a → at? (rens ρ l) j = some (ren ρ a)
  | [], _, _, h => by simp [at?] at h
  | x :: l, 0, a, h => by simp [at?] at h; subst h; rfl
  | x :: l, j + 1, a, h => by simp only [at?] at h; simpa [rens, at?] using at?_rens ρ l j a h
theorem ERs.ren {φ : Emb} {ρ : Pos → Pos} : ∀ {l : List (AV × AV × Nat)} {es : List MapEntry}, ERs φ (renE ρ l) es → ERs (fun i => φ (ρ i)) l es
  | [], _, h => h
  | (_, _, _) :: l, _, ⟨e, es, h1, h2, h3, h4, h5⟩ => ⟨e, es, h1, VR.ren h2, VR.ren h3, h4, ERs.ren h5⟩

-- what is veiled has no pointers
theorem rowFrom_flat : ∀ (L : List (Option IntKind)) (r : List Int) (j : Nat), AV.flats (rowFrom L r j) = true
  | [], _, _ => rfl
  | none :: L, r, j => by simp [rowFrom, AV.flats, colA, AV.flat, rowFrom_flat L]
  | some k :: L, r, j => by simp [rowFrom, AV.flats, colA, AV.flat, rowFrom_flat L]
theorem rowCells_flat (L : List (Option IntKind)) (r : List Int) : AV.flats (rowCells L r) = true := rowFrom_flat L r 0
theorem flats_append : ∀ {a b : List AV}, AV.flats (a ++ b) = (AV.flats a && AV.flats b)
  | [], b => by simp [AV.flats]
  | x :: a, b => by simp [AV.flats, flats_append (a := a), Bool.and_assoc]
theorem flatMap_flat (L : List (Option IntKind)) : ∀ m : List (List Int), AV.flats (m.flatMap (rowCells L)) = true
  | [] => rfl
  | r :: m => by simp only [List.flatMap_cons, flats_append, rowCells_flat, flatMap_flat L m, Bool.and_self]
theorem flats_at : ∀ {l : List AV} {j : Nat} {a : AV}, AV.flats l = true → at? l j = some a → AV.flat a = true
  | [], _, _, _, h => by simp [at?] at h
  | x :: l, 0, a, hf, h => by
    simp [at?] at h
    subst h
    simp only [AV.flats, Bool.and_eq_true] at hf
    exact hf.1
  | x :: l, j + 1, a, hf, h => by
    simp only [AV.flats, Bool.and_eq_true] at hf
    simp only [at?] at h
    exact flats_at hf.2 h
theorem ERs.memRows {φ ψ : Emb} : ∀ {rs : List (List Int × Nat)} {es : List MapEntry}, ERs φ (rs.map memRow) es → ERs ψ (rs.map memRow) es
  | [], _, h => h
  | r :: rs, _, ⟨e, es, h1, h2, h3, h4, h5⟩ => ⟨e, es, h1, AV.flat_any rfl h2, AV.flat_any rfl h3, h4, ERs.memRows h5⟩
theorem GA.any {φ ψ : Emb} {k : Nat} {m : List (List Int)} {c s n : Nat} {a : AObj} {o : Obj} (hg : GA k m c a) (h : OR1 φ s n a o) : OR1 ψ s n a o := by
  match k, a, hg with
  | 0, .mp es cl, ⟨rs, h1, _, _, _, _⟩ =>
    subst h1
    obtain ⟨l, h1, h2⟩ := h
    exact ⟨l, h1, h2.memRows⟩
  | 1, .cells cs, h1 =>
    have h1 : cs = m.flatMap (rowCells (layOf c)) := h1
    obtain ⟨c', t, h2, h3, h4, h5⟩ := h
    refine ⟨c', t, h2, h3, h4, fun j a hj => ?_⟩
    obtain ⟨v, hv, hr⟩ := h5 j a hj
    exact ⟨v, hv, AV.flat_any (flats_at (by rw [h1]; exact flatMap_flat _ _) hj) hr⟩
theorem RO.any {φ ψ : Emb} {m : List (List Int)} {l s n : Nat} {o : Obj} (h : OR φ s n (.ro m l) o) : OR ψ s n (.ro m l) o := by
  obtain ⟨c, t, f, h1, h2, h3, h4⟩ := h
  refine ⟨c, t, f, h1, h2, h3, fun j a hj => ?_⟩
  obtain ⟨v, hv, hr⟩ := h4 j a hj
  exact ⟨v, hv, AV.flat_any (flats_at (flatMap_flat _ _) hj) hr⟩
theorem VRs.app {φ : Emb} : ∀ {a b : List AV} {us vs : List Value}, VRs φ a us → VRs φ b vs → VRs φ (a ++ b) (us ++ vs)
  | [], _, us, _, h, h' => by simp [VRs] at h; subst h; simpa using h'
  | x :: a, _, _, _, ⟨u, us, rfl, h1, h2⟩, h' => ⟨u, us ++ _, rfl, h1, VRs.app h2 h'⟩
theorem rowFrom_has (r : List Int) : ∀ (L : List (Option IntKind)) (j : Nat), ∃ vs, ∀ φ, VRs φ (rowFrom L r j) vs
  | [], _ => ⟨[], fun _ => rfl⟩
  | some k :: L, j => by
    obtain ⟨vs, h⟩ := rowFrom_has r L (j + 1)
    exact ⟨.int k (rowI r j) :: vs, fun φ => ⟨_, _, rfl, rfl, h φ⟩⟩
  | none :: L, j => by
    obtain ⟨vs, h⟩ := rowFrom_has r L (j + 1)
    exact ⟨.bool (!(eqI (rowI r j) 0)) :: vs, fun φ => ⟨_, _, rfl, rfl, h φ⟩⟩
theorem rows_have (L : List (Option IntKind)) : ∀ m : List (List Int), ∃ vs, ∀ φ, VRs φ (m.flatMap (rowCells L)) vs
  | [] => ⟨[], fun _ => rfl⟩
  | r :: m => by
    obtain ⟨us, h1⟩ := rowFrom_has r L 0
    obtain ⟨vs, h2⟩ := rows_have L m
    exact ⟨us ++ vs, fun φ => by simp only [List.flatMap_cons]; exact (h1 φ).app (h2 φ)⟩
/-- What nobody writes is told so again. -/
theorem still_keep {φ ψ : Emb} {o1 o' : AObj} (h : ∀ s n c, OR φ s n o1 c → OR ψ s n o' c) (hs : o1.still = true) : o'.still = true := by
  cases o1 with
  | cells => cases hs
  | mp => cases hs
  | gh => cases hs
  | ro m l =>
    obtain ⟨vs, hv⟩ := rows_have (layOf l) m
    have key := h 0 vs.length (.cells vs.toArray 0 (1, 1)) ⟨vs.toArray, 0, (1, 1), rfl, by simp, by rw [(hv φ).length]; exact Nat.le_refl _, fun j a hj => by
      obtain ⟨u, h1, h2⟩ := (hv φ).at hj
      exact ⟨u, by rw [Nat.zero_add]; simpa using h1, h2⟩⟩
    cases o' with
    | cells cs => obtain ⟨c, t, e, _⟩ := key; cases e
    | mp es cl => obtain ⟨c, e, _⟩ := key; cases e
    | gh k m' c =>
      obtain ⟨a, _, h2⟩ := key
      cases a with
      | cells cs => obtain ⟨c, t, e, _⟩ := h2; cases e
      | mp es cl => obtain ⟨c, e, _⟩ := h2; cases e
      | gh => exact h2.elim
      | ro => exact h2.elim
    | ro => rfl
theorem OR.ren {φ : Emb} {ρ : Pos → Pos} {s n : Nat} {o : AObj} {c : Obj} (h : OR φ s n (renO ρ o) c) : OR (fun i => φ (ρ i)) s n o c := by
  cases o with
  | cells cs =>
    obtain ⟨c', t, h1, h2, h3, h4⟩ := h
    refine ⟨c', t, h1, h2, by rwa [rens_length] at h3, fun j a hj => ?_⟩
    obtain ⟨v, hv, hr⟩ := h4 j _ (at?_rens ρ cs j a hj)
    exact ⟨v, hv, hr.ren⟩
  | mp es cl =>
    obtain ⟨l, h1, h2⟩ := h
    exact ⟨l, h1, h2.ren⟩
  | gh k m cl =>
    obtain ⟨a, h1, h2⟩ := h
    exact ⟨a, h1, GA.any h1 h2⟩
  | ro m l => exact RO.any h
theorem OR1.toOR {φ : Emb} {s n : Nat} {a : AObj} {o : Obj} (h : OR1 φ s n a o) : OR φ s n a o := by
  cases a with
  | cells => exact h
  | mp => exact h
  | gh => exact h.elim
  | ro => exact h.elim

-- tables
noncomputable def mkT {α : Type} : List (Pos × α) → Tr α
  | [] => .lf
  | (p, a) :: l => (mkT l).put p (some a)
theorem mkT_get {α : Type} : ∀ {l : List (Pos × α)} {p : Pos} {a : α}, (mkT l).get p = some a → (p, a) ∈ l
  | [], p, a, h => by simp [mkT, Tr.get_lf] at h
  | (q, b) :: l, p, a, h => by
    by_cases e : q = p
    · subst e
      simp only [mkT, Tr.get_put_same] at h
      cases h
      exact List.mem_cons_self
    · simp only [mkT, Tr.get_put_ne _ _ e] at h
      exact List.mem_cons_of_mem _ (mkT_get h)

section
variable {P : Program} {names : List String} {G : List (Nat × List AV)}

/-- A call that surely ends so. -/
def Tri (P : Program) (G : List (Nat × List AV)) (f : Pos) (args : List AV) (H : Hp) (v : AV) (H' : Hp) : Prop :=
  Enter P f ∧ ∀ φ w argsV, Rep P G φ H w → VRs φ args argsV → Calls P (f.toNat - 1) argsV.toArray w (CPost P G φ H w v H')
theorem Tri.of_run {E : Env} (hE : EnvOK P names E) {n : Nat} {f : Pos} {args : List AV} {H : Hp} {v : AV} {H' : Hp} (h : callN E n f args H = some (v, H')) : Tri P E.globals f args H v H' := callN_good hE n f args H v H' h
theorem SumQ.of {f : Pos} {F : List AV → Hp → Option (AV × Hp)} (h : ∀ args H v H', F args H = some (v, H') → Tri P G f args H v H') : SumQ P G f F := fun args H v H' e => h args H v H' e

/-- Objects behind the call may be told otherwise, or left out. -/
theorem Tri.post {f : Pos} {args : List AV} {H : Hp} {v : AV} {H1 H' : Hp} (h : Tri P G f args H v H1) (hn : H1.next.toNat = H'.next.toNat)
    (ho : ∀ i o', H'.t.get i = some o' → ∃ o1, H1.t.get i = some o1 ∧ ∀ φ s n c, OR φ s n o1 c → OR φ s n o' c) : Tri P G f args H v H' := by
  refine ⟨h.1, fun φ w argsV hr ha => (h.2 φ w argsV hr ha).mono fun e w' hp => ?_⟩
  obtain ⟨u, φ', he, hu, hr', hx⟩ := hp
  refine ⟨u, φ', he, hu, ⟨?_, ?_, ?_, hr'.size, hr'.glob⟩, ⟨hx.mono, hx.same, ?_, hx.frame, hx.size, by rw [← hn]; exact hx.next, hx.os, hx.tape, hx.output⟩⟩
  · intro i o' hi
    obtain ⟨o1, h1, h2⟩ := ho i o' hi
    obtain ⟨b, s, n, h3, h4, c, h5, h6⟩ := hr'.obj i o1 h1
    exact ⟨b, s, n, h3, h4, c, h5, h2 _ _ _ _ h6⟩
  · intro i j o o' b s n s' n' hi hj
    obtain ⟨o1, h1, _⟩ := ho i o hi
    obtain ⟨o2, h2, _⟩ := ho j o' hj
    exact hr'.inj i j o1 o2 b s n s' n' h1 h2
  · intro i hi
    exact hr'.fresh i (by omega)
  · intro i o b s n hi hb
    obtain ⟨o1, h1, h2⟩ := ho i o hi
    rcases hx.img i o1 b s n h1 hb with h | ⟨j, o', s', n', h3, h4, h5⟩
    · exact .inl h
    · exact .inr ⟨j, o', s', n', h3, h4, fun e => still_keep (fun s n c => h2 φ s n c) (h5 e)⟩

/-- An object is told otherwise ahead of the call. -/
theorem Rep.swap {φ : Emb} {H : Hp} {w : World} (hr : Rep P G φ H w) {i : Pos} {o a : AObj} (hi : H.t.get i = some o) (ha : ∀ b s n c, φ i = some (b, s, n) → w.heap[b]? = some c → OR φ s n o c → OR φ s n a c) : Rep P G φ (H.set i a) w := by
  have hlive : ∀ {j : Pos} {x : AObj}, (H.set i a).t.get j = some x → ∃ y, H.t.get j = some y := fun {j x} hj => by
    by_cases e : i = j
    · subst e; exact ⟨o, hi⟩
    · simp only [Hp.set, Tr.get_put_ne _ _ e] at hj; exact ⟨x, hj⟩
  refine ⟨?_, ?_, hr.fresh, hr.size, hr.glob⟩
  · intro j x hj
    by_cases e : i = j
    · subst e
      simp only [Hp.set, Tr.get_put_same] at hj
      cases hj
      obtain ⟨b, s, n, h1, h2, c, h3, h4⟩ := hr.obj i o hi
      exact ⟨b, s, n, h1, h2, c, h3, ha b s n c h1 h3 h4⟩
    · simp only [Hp.set, Tr.get_put_ne _ _ e] at hj
      exact hr.obj j x hj
  · intro j k o1 o2 b s n s' n' hj hk
    obtain ⟨y1, h1⟩ := hlive hj
    obtain ⟨y2, h2⟩ := hlive hk
    exact hr.inj j k y1 y2 b s n s' n' h1 h2
theorem Ext.swap {φ φ' : Emb} {H H' : Hp} {w w' : World} {i : Pos} {o a : AObj} (hst : o.still = false) (hi : H.t.get i = some o) (h : Ext φ (H.set i a) w φ' H' w') : Ext φ H w φ' H' w' := by
  have hlive : ∀ {j : Pos} {x : AObj}, (H.set i a).t.get j = some x → ∃ y, H.t.get j = some y ∧ (y.still = true → x.still = true) := fun {j x} hj => by
    by_cases e : i = j
    · subst e; exact ⟨o, hi, fun e => by rw [hst] at e; cases e⟩
    · simp only [Hp.set, Tr.get_put_ne _ _ e] at hj; exact ⟨x, hj, id⟩
  refine ⟨h.mono, h.same, ?_, ?_, h.size, h.next, h.os, h.tape, h.output⟩
  · intro j x b s n hj hb
    rcases h.img j x b s n hj hb with h1 | ⟨k, y, s', n', h1, h2, h3⟩
    · exact .inl h1
    · obtain ⟨y', hy, hy2⟩ := hlive h1
      exact .inr ⟨k, y', s', n', hy, h2, fun e => h3 (hy2 e)⟩
  · intro b hb hn
    refine h.frame b hb fun j x s n hj he => ?_
    obtain ⟨y, hy, hy2⟩ := hlive hj
    exact hy2 (hn j y s n hy he)
theorem Tri.unveil {f : Pos} {args : List AV} {H : Hp} {v : AV} {H' : Hp} {i : Pos} {k : Nat} {m : List (List Int)} {c : Nat} (hi : H.t.get i = some (.gh k m c)) (hen : Enter P f) (h : ∀ a, GA k m c a → Tri P G f args (H.set i a) v H') : Tri P G f args H v H' := by
  refine ⟨hen, fun φ w argsV hr ha => ?_⟩
  obtain ⟨b, s, n, h1, _, o, h3, a, h4, h5⟩ := hr.obj i _ hi
  have hr' : Rep P G φ (H.set i a) w := hr.swap hi fun b' s' n' c' e1 e2 _ => by
    rw [h1] at e1
    cases e1
    rw [h3] at e2
    cases e2
    exact h5.toOR
  refine ((h a h4).2 φ w argsV hr' ha).mono fun e w' hp => ?_
  obtain ⟨u, φ', he, hu, hr2, hx⟩ := hp
  exact ⟨u, φ', he, hu, hr2, Ext.swap rfl hi hx⟩

open Classical in
/-- The same call where more lies in memory, elsewhere. -/
theorem Tri.local {f : Pos} {args0 : List AV} {H0 : Hp} {v0 : AV} {H1 : Hp} (h : Tri P G f args0 H0 v0 H1) {H : Hp} (ρ : Pos → Pos)
    (hρ : ∀ j : Pos, j.toNat < H0.next.toNat → (ρ j).toNat < H.next.toNat)
    (live0 : ∀ i o, H0.t.get i = some o → i.toNat < H0.next.toNat)
    (hobj : ∀ i o, H0.t.get i = some o → ∃ o1, H.t.get (ρ i) = some o1 ∧ ∀ φ s n c, OR φ s n o1 c → OR (fun j => if j.toNat < H0.next.toNat then φ (ρ j) else none) s n o c)
    (inj : ∀ i j o o', H0.t.get i = some o → H0.t.get j = some o' → ρ i = ρ j → i = j)
    {args : List AV} (hargs : ∀ φ argsV, VRs φ args argsV → VRs (fun j => if j.toNat < H0.next.toNat then φ (ρ j) else none) args0 argsV)
    {v : AV} {H' : Hp} (κ : Pos → Pos) (D : Pos → Prop)
    (κold : ∀ j : Pos, j.toNat < H0.next.toNat → κ j = ρ j)
    (κnew : ∀ j : Pos, D j → H0.next.toNat ≤ j.toNat → H.next.toNat ≤ (κ j).toNat ∧ (κ j).toNat < H'.next.toNat)
    (κinj : ∀ i j : Pos, D i → D j → H0.next.toNat ≤ i.toNat → H0.next.toNat ≤ j.toNat → κ i = κ j → i = j)
    (hnext : H.next.toNat ≤ H'.next.toNat)
    (hv : ∀ φ1 ψ u, (∀ j, D j → ψ (κ j) = φ1 j) → VR φ1 v0 u → VR ψ v u)
    (hH' : ∀ i o', H'.t.get i = some o' →
      (∃ j o0, D j ∧ κ j = i ∧ (j.toNat < H0.next.toNat → ∃ o, H0.t.get j = some o) ∧ H1.t.get j = some o0 ∧ ∀ φ1 ψ s n c, (∀ j, D j → ψ (κ j) = φ1 j) → OR φ1 s n o0 c → OR ψ s n o' c) ∨
      (H.t.get i = some o' ∧ ∀ j o, H0.t.get j = some o → ρ j ≠ i)) : Tri P G f args H v H' := by
  refine ⟨h.1, fun φ w argsV hr ha => ?_⟩
  have hr0 : Rep P G (fun j => if j.toNat < H0.next.toNat then φ (ρ j) else none) H0 w := by
    refine ⟨?_, ?_, ?_, hr.size, hr.glob⟩
    · intro i o hi
      obtain ⟨o1, h1, h2⟩ := hobj i o hi
      obtain ⟨b, s, n, h3, h4, c, h5, h6⟩ := hr.obj _ o1 h1
      exact ⟨b, s, n, by simp only [live0 i o hi, if_true]; exact h3, h4, c, h5, h2 _ _ _ _ h6⟩
    · intro i j o o' b s n s' n' hi hj h1 h2
      simp only [live0 i o hi, live0 j o' hj, if_true] at h1 h2
      obtain ⟨o1, e1, _⟩ := hobj i o hi
      obtain ⟨o2, e2, _⟩ := hobj j o' hj
      exact inj i j o o' hi hj (hr.inj _ _ o1 o2 b s n s' n' e1 e2 h1 h2)
    · intro i hi
      simp only [if_neg (Nat.not_lt.2 hi)]
  refine ((h.2 _ w argsV hr0 (hargs φ argsV ha)).mono fun e w' hp => ?_)
  obtain ⟨u, φ1, he, hu, hr1, hx⟩ := hp
  have hold : ∀ j : Pos, j.toNat < H0.next.toNat → φ1 j = φ (ρ j) := fun j hj => by
    rw [hx.same j hj]
    simp only [hj, if_true]
  let ψ : Emb := fun i => if i.toNat < H.next.toNat then φ i else if hd : ∃ j, D j ∧ H0.next.toNat ≤ j.toNat ∧ κ j = i then φ1 (Classical.choose hd) else none
  have ψlow : ∀ i : Pos, i.toNat < H.next.toNat → ψ i = φ i := fun i hi => if_pos hi
  have hψ : ∀ j, D j → ψ (κ j) = φ1 j := fun j hj => by
    by_cases hlt : j.toNat < H0.next.toNat
    · rw [κold j hlt, ψlow _ (hρ j hlt), hold j hlt]
    · have hge : H0.next.toNat ≤ j.toNat := Nat.le_of_not_lt hlt
      have hd : ∃ j', D j' ∧ H0.next.toNat ≤ j'.toNat ∧ κ j' = κ j := ⟨j, hj, hge, rfl⟩
      have hc := Classical.choose_spec hd
      have e : Classical.choose hd = j := κinj _ _ hc.1 hj hc.2.1 hge hc.2.2
      have hn : ¬ (κ j).toNat < H.next.toNat := Nat.not_lt.2 (κnew j hj hge).1
      show (if (κ j).toNat < H.next.toNat then _ else _) = _
      rw [if_neg hn, dif_pos hd, e]
  have ψmono : ∀ i x, φ i = some x → ψ i = some x := fun i x hi => by
    have : i.toNat < H.next.toNat := by
      rcases Nat.lt_or_ge i.toNat H.next.toNat with h1 | h1
      · exact h1
      · rw [hr.fresh i h1] at hi; cases hi
    rw [ψlow i this]; exact hi
  have lt_of : ∀ i x, φ i = some x → i.toNat < H.next.toNat := fun i x hi => by
    rcases Nat.lt_or_ge i.toNat H.next.toNat with h1 | h1
    · exact h1
    · rw [hr.fresh i h1] at hi; cases hi
  have apart : ∀ j o b s n i o' s' n', H1.t.get j = some o → φ1 j = some (b, s, n) → (j.toNat < H0.next.toNat → ∃ o, H0.t.get j = some o) → H.t.get i = some o' → φ i = some (b, s', n') → (∀ j o, H0.t.get j = some o → ρ j ≠ i) → False := by
    intro j o b s n i o' s' n' hj hb hlive hi hib hne
    have old : ∀ k x s2 n2, H0.t.get k = some x → (if k.toNat < H0.next.toNat then φ (ρ k) else none) = some (b, s2, n2) → False := fun k x s2 n2 hk hkb => by
      simp only [live0 k x hk, if_true] at hkb
      obtain ⟨o2, e2, _⟩ := hobj k x hk
      exact hne k x hk (hr.inj _ _ o2 o' b s2 n2 s' n' e2 hi hkb hib)
    rcases hx.img j o b s n hj hb with h1 | ⟨k, x, s2, n2, h1, h2, _⟩
    · have := hr.block_lt hi hib
      omega
    · exact old k x s2 n2 h1 h2
  refine ⟨u, ψ, he, hv φ1 ψ u hψ hu, ⟨?_, ?_, ?_, hr1.size, hr1.glob⟩, ⟨ψmono, ψlow, ?_, ?_, hx.size, hnext, hx.os, hx.tape, hx.output⟩⟩
  · intro i o' hi
    rcases hH' i o' hi with ⟨j, o0, h1, rfl, _, h3, h4⟩ | ⟨h1, h2⟩
    · obtain ⟨b, s, n, h5, h6, c, h7, h8⟩ := hr1.obj j o0 h3
      exact ⟨b, s, n, by rw [hψ j h1]; exact h5, h6, c, h7, h4 _ _ _ _ _ hψ h8⟩
    · obtain ⟨b, s, n, h5, h6, c, h7, h8⟩ := hr.obj i o' h1
      refine ⟨b, s, n, ψmono _ _ h5, h6, c, ?_, h8.mono ψmono⟩
      rw [hx.frame b (hr.block_lt h1 h5) fun k x s2 n2 hk hkb => ?_]
      · exact h7
      · simp only [live0 k x hk, if_true] at hkb
        obtain ⟨o2, e2, _⟩ := hobj k x hk
        exact absurd (hr.inj _ _ o2 o' b s2 n2 s n e2 h1 hkb h5) (h2 k x hk)
  · intro i i' o o' b s n s' n' hi hi' hb hb'
    rcases hH' i o hi with ⟨j, o0, h1, rfl, h2, h3, h4⟩ | ⟨h1, h2⟩
    · rw [hψ j h1] at hb
      rcases hH' i' o' hi' with ⟨j', o0', h1', rfl, h2', h3', h4'⟩ | ⟨h1', h2'⟩
      · rw [hψ j' h1'] at hb'
        rw [hr1.inj j j' o0 o0' b s n s' n' h3 h3' hb hb']
      · obtain ⟨b2, s2, n2, h5, _⟩ := hr.obj i' o' h1'
        rw [ψlow i' (lt_of i' _ h5)] at hb'
        exact (apart j o0 b s n i' o' s' n' h3 hb h2 h1' hb' h2').elim
    · obtain ⟨b2, s2, n2, h5, _⟩ := hr.obj i o h1
      rw [ψlow i (lt_of i _ h5)] at hb
      rcases hH' i' o' hi' with ⟨j', o0', h1', rfl, h2', h3', h4'⟩ | ⟨h1', h2'⟩
      · rw [hψ j' h1'] at hb'
        exact (apart j' o0' b s' n' i o s n h3' hb' h2' h1 hb h2).elim
      · obtain ⟨b3, s3, n3, h6, _⟩ := hr.obj i' o' h1'
        rw [ψlow i' (lt_of i' _ h6)] at hb'
        exact hr.inj i i' o o' b s n s' n' h1 h1' hb hb'
  · intro i hi
    show (if i.toNat < H.next.toNat then _ else _) = _
    rw [if_neg (by omega), dif_neg]
    intro ⟨j, h1, h2, h3⟩
    have := (κnew j h1 h2).2
    rw [h3] at this
    omega
  · intro i o b s n hi hb
    rcases hH' i o hi with ⟨j, o0, h1, rfl, h2, h3, h4⟩ | ⟨h1, h2⟩
    · rw [hψ j h1] at hb
      rcases hx.img j o0 b s n h3 hb with h5 | ⟨k, x, s2, n2, h5, h6, h7⟩
      · exact .inl h5
      · simp only [live0 k x h5, if_true] at h6
        obtain ⟨o2, e2, e3⟩ := hobj k x h5
        exact .inr ⟨_, o2, s2, n2, e2, h6, fun e => still_keep (fun s n c => h4 φ1 ψ s n c hψ) (h7 (still_keep (fun s n c => e3 φ s n c) e))⟩
    · obtain ⟨b2, s2, n2, h5, _⟩ := hr.obj i o h1
      rw [ψlow i (lt_of i _ h5)] at hb
      exact .inr ⟨i, o, s, n, h1, hb, id⟩
  · intro b hb hn
    refine hx.frame b hb fun k x s2 n2 hk hkb => ?_
    simp only [live0 k x hk, if_true] at hkb
    obtain ⟨o2, e2, e3⟩ := hobj k x hk
    exact still_keep (fun s n c => e3 φ s n c) (hn _ o2 s2 n2 e2 hkb)
end
end Go.Ev

/-
Code, by rules: what surely holds at its end, wherever its blocks lie.
-/
namespace Go.Ev

/-- The state elsewhere: where a number of the second lies in the first. -/
structure Ren (n0 : Pos) (ρ : Pos → Pos) (T : Tm) (H : Hp) (T' : Tm) (H' : Hp) : Prop where
  low : ∀ i : Pos, i.toNat < n0.toNat → ρ i = i
  high : ∀ i : Pos, H'.next.toNat ≤ i.toNat → H.next.toNat ≤ (ρ i).toNat
  tm : ∀ p, T'.get p = none ∨ opnd T (.t p) = ren ρ (opnd T' (.t p))
  hp : ∀ i o, H'.t.get i = some o → ∃ o1, H.t.get (ρ i) = some o1 ∧ ∀ φ s n c, OR φ s n o1 c → OR (fun j => φ (ρ j)) s n o c
  inj : ∀ i j o o', H'.t.get i = some o → H'.t.get j = some o' → ρ i = ρ j → i = j
  next : n0.toNat ≤ H'.next.toNat

section
variable {P : Program} {names : List String} {G : List (Nat × List AV)} {nt : Nat} {φ0 : Emb} {H0 : Hp} {w0 : World}

theorem Ren.move {ρ : Pos → Pos} {T T' : Tm} {H H' : Hp} (h : Ren H0.next ρ T H T' H') (h0 : ∀ i : Pos, H0.next.toNat ≤ i.toNat → φ0 i = none) {φ : Emb} {a : Act} {w : World} (hf : FrOK φ T a nt) (hr : Rep P G φ H w) (hx : Ext φ0 H0 w0 φ H w) :
    FrOK (fun i => φ (ρ i)) T' a nt ∧ Rep P G (fun i => φ (ρ i)) H' w ∧ Ext φ0 H0 w0 (fun i => φ (ρ i)) H' w := by
  refine ⟨⟨fun t ht => ?_, hf.room, hf.defers⟩, ⟨?_, ?_, ?_, hr.size, hr.glob⟩, ⟨?_, ?_, ?_, hx.frame, hx.size, h.next, hx.os, hx.tape, hx.output⟩⟩
  · rcases h.tm (tpos t) with h1 | h1
    · simp only [opnd, h1]; exact trivial
    · have := hf.fr t ht
      rw [h1] at this
      exact this.ren
  · intro i o hi
    obtain ⟨o1, h1, h2⟩ := h.hp i o hi
    obtain ⟨b, s, n, h3, h4, c, h5, h6⟩ := hr.obj _ o1 h1
    exact ⟨b, s, n, h3, h4, c, h5, h2 _ _ _ _ h6⟩
  · intro i j o o' b s n s' n' hi hj h1 h2
    obtain ⟨o1, e1, _⟩ := h.hp i o hi
    obtain ⟨o2, e2, _⟩ := h.hp j o' hj
    exact h.inj i j o o' hi hj (hr.inj _ _ o1 o2 b s n s' n' e1 e2 h1 h2)
  · intro i hi
    exact hr.fresh _ (h.high i hi)
  · intro i x hi
    have hlt : i.toNat < H0.next.toNat := by
      rcases Nat.lt_or_ge i.toNat H0.next.toNat with h1 | h1
      · exact h1
      · rw [h0 i h1] at hi; cases hi
    show φ (ρ i) = some x
    rw [h.low i hlt]
    exact hx.mono i x hi
  · intro i hi
    show φ (ρ i) = φ0 i
    rw [h.low i hi]
    exact hx.same i hi
  · intro i o b s n hi hb
    obtain ⟨o1, h1, h2⟩ := h.hp i o hi
    rcases hx.img _ o1 b s n h1 hb with h | ⟨j, o', s', n', h3, h4, h5⟩
    · exact .inl h
    · exact .inr ⟨j, o', s', n', h3, h4, fun e => still_keep (fun s n c => h2 φ s n c) (h5 e)⟩

variable (P names G nt φ0 H0 w0) in
/-- Whatever the piece of code: begun so it surely ends so. -/
def Sem (x : XC) (T : Tm) (H : Hp) (Q : Ex → Tm → Hp → Prop) : Prop :=
  ∀ c, lowC P names nt c = some x → ∀ φ a w, FrOK φ T a nt → Rep P G φ H w → Ext φ0 H0 w0 φ H w →
    ∀ R : Exit → Act → World → Prop, (∀ e T' H', Q e T' H' → ∀ a' w' φ', FrOK φ' T' a' nt → Rep P G φ' H' w' → Ext φ0 H0 w0 φ' H' w' → R (exM e) a' w') → c.wp P R a w

theorem Sem.mono {x : XC} {T : Tm} {H : Hp} {Q Q' : Ex → Tm → Hp → Prop} (h : Sem P names G nt φ0 H0 w0 x T H Q) (hQ : ∀ e T' H', Q e T' H' → Q' e T' H') : Sem P names G nt φ0 H0 w0 x T H Q' :=
  fun c hc φ a w hf hr hx R hR => h c hc φ a w hf hr hx R fun e T' H' hq => hR e T' H' (hQ e T' H' hq)
theorem Sem.pre {x : XC} {T T' : Tm} {H H' : Hp} {ρ : Pos → Pos} {Q : Ex → Tm → Hp → Prop} (h0 : ∀ i : Pos, H0.next.toNat ≤ i.toNat → φ0 i = none) (hR : Ren H0.next ρ T H T' H') (h : Sem P names G nt φ0 H0 w0 x T' H' Q) : Sem P names G nt φ0 H0 w0 x T H Q :=
  fun c hc φ a w hf hr hx R hRR => by
    obtain ⟨h1, h2, h3⟩ := hR.move h0 hf hr hx
    exact h c hc _ a w h1 h2 h3 R hRR
theorem Sem.post {x : XC} {T : Tm} {H : Hp} {Q Q' : Ex → Tm → Hp → Prop} (h0 : ∀ i : Pos, H0.next.toNat ≤ i.toNat → φ0 i = none) (h : Sem P names G nt φ0 H0 w0 x T H Q)
    (hQ : ∀ e T' H', Q e T' H' → ∃ ρ T'' H'', Ren H0.next ρ T' H' T'' H'' ∧ Q' e T'' H'') : Sem P names G nt φ0 H0 w0 x T H Q' :=
  fun c hc φ a w hf hr hx R hR => h c hc φ a w hf hr hx R fun e T' H' hq a' w' φ' hf' hr' hx' => by
    obtain ⟨ρ, T'', H'', h1, h2⟩ := hQ e T' H' hq
    obtain ⟨g1, g2, g3⟩ := h1.move h0 hf' hr' hx'
    exact hR e T'' H'' h2 a' w' _ g1 g2 g3
theorem Sem.by {E : Env} (hE : EnvOK P names E) {N n : Nat} {x : XC} {T : Tm} {H : Hp} {Q : Ex → Tm → Hp → Prop} {e : Ex} {T' : Tm} {H' : Hp} (h : body (callN E N) E n x T H = some (e, T', H')) (hQ : Q e T' H') : Sem P names E.globals nt φ0 H0 w0 x T H Q :=
  fun c hc φ a w hf hr hx R hR => (body_wp hE.mix (callN_good hE N) hE.meths n c x hc φ T H a w hf hr e T' H').1 h R fun a' w' φ' s1 s2 s3 => hR e T' H' hQ a' w' φ' s1 s2 (hx.trans s3)

theorem lowC_inv_seq {c : Code} {a b : XC} (h : lowC P names nt c = some (.seq a b)) : ∃ c1 c2, c = .seq c1 c2 ∧ lowC P names nt c1 = some a ∧ lowC P names nt c2 = some b := by
  cases c with
  | seq c1 c2 =>
    obtain ⟨y, z, h1, h2, h3⟩ := lowC_seq h
    cases h3
    exact ⟨c1, c2, rfl, h1, h2⟩
  | region id ops draw =>
    simp only [lowC] at h
    split at h
    · cases draw with
      | false => simp at h
      | true => simp only [] at h; split at h <;> simp at h
    · cases h
  | cond o c1 c2 =>
    simp only [lowC] at h
    split at h <;> simp at h
  | block id c1 => simp [lowC] at h
  | loop c1 => simp [lowC] at h
  | _ => simp [lowC] at h
theorem lowC_inv_cond {c : Code} {o : XO} {a b : XC} (h : lowC P names nt c = some (.cond o a b)) : ∃ z c1 c2, c = .cond z c1 c2 ∧ lowX z = some o ∧ lowC P names nt c1 = some a ∧ lowC P names nt c2 = some b := by
  cases c with
  | cond z c1 c2 =>
    simp only [lowC] at h
    split at h
    · rename_i z' y1 y2 hz h1 h2
      cases h
      exact ⟨z, c1, c2, rfl, hz, h1, h2⟩
    · cases h
  | region id ops draw =>
    simp only [lowC] at h
    split at h
    · cases draw with
      | false => simp at h
      | true => simp only [] at h; split at h <;> simp at h
    · cases h
  | seq c1 c2 =>
    obtain ⟨y, z, h1, h2, h3⟩ := lowC_seq h
    cases h3
  | block id c1 => simp [lowC] at h
  | loop c1 => simp [lowC] at h
  | _ => simp [lowC] at h
theorem lowC_inv_block {c : Code} {id : Nat} {a : XC} (h : lowC P names nt c = some (.block id a)) : ∃ c1, c = .block id c1 ∧ lowC P names nt c1 = some a := by
  cases c with
  | block id' c1 =>
    simp only [lowC, Option.map_eq_some_iff] at h
    obtain ⟨y, h1, h2⟩ := h
    cases h2
    exact ⟨c1, rfl, h1⟩
  | region id ops draw =>
    simp only [lowC] at h
    split at h
    · cases draw with
      | false => simp at h
      | true => simp only [] at h; split at h <;> simp at h
    · cases h
  | seq c1 c2 =>
    obtain ⟨y, z, h1, h2, h3⟩ := lowC_seq h
    cases h3
  | cond o c1 c2 =>
    simp only [lowC] at h
    split at h <;> simp at h
  | loop c1 => simp [lowC] at h
  | _ => simp [lowC] at h
theorem lowC_inv_loop {c : Code} {a : XC} (h : lowC P names nt c = some (.loop a)) : ∃ c1, c = .loop c1 ∧ lowC P names nt c1 = some a := by
  cases c with
  | loop c1 =>
    simp only [lowC, Option.map_eq_some_iff] at h
    obtain ⟨y, h1, h2⟩ := h
    cases h2
    exact ⟨c1, rfl, h1⟩
  | region id ops draw =>
    simp only [lowC] at h
    split at h
    · cases draw with
      | false => simp at h
      | true => simp only [] at h; split at h <;> simp at h
    · cases h
  | seq c1 c2 =>
    obtain ⟨y, z, h1, h2, h3⟩ := lowC_seq h
    cases h3
  | cond o c1 c2 =>
    simp only [lowC] at h
    split at h <;> simp at h
  | block id c1 => simp [lowC] at h
  | _ => simp [lowC] at h

theorem Sem.seq {a b : XC} {T : Tm} {H : Hp} {M Q : Ex → Tm → Hp → Prop} (ha : Sem P names G nt φ0 H0 w0 a T H M) (hb : ∀ T' H', M .normal T' H' → Sem P names G nt φ0 H0 w0 b T' H' Q) (hn : ∀ e T' H', e ≠ .normal → M e T' H' → Q e T' H') : Sem P names G nt φ0 H0 w0 (.seq a b) T H Q := by
  intro c hc φ ac w hf hr hx R hR
  obtain ⟨c1, c2, rfl, h1, h2⟩ := lowC_inv_seq hc
  refine wp_seq ?_
  refine ha c1 h1 φ ac w hf hr hx _ fun e T' H' hm a' w' φ' s1 s2 s3 => ?_
  cases e with
  | normal => exact hb T' H' hm c2 h2 φ' a' w' s1 s2 s3 R hR
  | exit id => exact hR (.exit id) T' H' (hn (.exit id) T' H' (by simp) hm) a' w' φ' s1 s2 s3
  | ret => exact hR .ret T' H' (hn .ret T' H' (by simp) hm) a' w' φ' s1 s2 s3
theorem Sem.cond {o : XO} {a b : XC} {T : Tm} {H : Hp} {Q : Ex → Tm → Hp → Prop} (t : Bool) (ho : opnd T o = .bool t) (ht : t = true → Sem P names G nt φ0 H0 w0 a T H Q) (hf : t = false → Sem P names G nt φ0 H0 w0 b T H Q) : Sem P names G nt φ0 H0 w0 (.cond o a b) T H Q := by
  intro c hc φ ac w hfr hr hx R hR
  obtain ⟨z, c1, c2, rfl, hz, h1, h2⟩ := lowC_inv_cond hc
  have hv := hfr.fr.opR z o hz
  rw [ho] at hv
  cases t with
  | true => exact wp_cond_true hv (ht rfl c1 h1 φ ac w hfr hr hx R hR)
  | false => exact wp_cond_false hv (hf rfl c2 h2 φ ac w hfr hr hx R hR)
/-- how a block ends -/
def blkX (id : Nat) : Ex → Ex
  | .exit i => if i = id then .normal else .exit i
  | e => e
theorem Sem.block {id : Nat} {b : XC} {T : Tm} {H : Hp} {Q : Ex → Tm → Hp → Prop} (h : Sem P names G nt φ0 H0 w0 b T H fun e T' H' => Q (blkX id e) T' H') : Sem P names G nt φ0 H0 w0 (.block id b) T H Q := by
  intro c hc φ ac w hf hr hx R hR
  obtain ⟨c1, rfl, h1⟩ := lowC_inv_block hc
  refine wp_block ?_
  refine h c1 h1 φ ac w hf hr hx _ fun e T' H' hq a' w' φ' s1 s2 s3 => ?_
  have := hR _ T' H' hq a' w' φ' s1 s2 s3
  cases e with
  | normal => exact this
  | exit id' =>
    simp only [exM, Exit.inBlock]
    by_cases hid : id' = id
    · subst hid
      simp only [blkX, if_true] at this ⊢
      exact this
    · simp only [blkX, if_neg hid] at this
      rw [if_neg hid]
      exact this
  | ret => exact this
theorem Sem.loop {b : XC} {Q : Ex → Tm → Hp → Prop} (Inv : Nat → Tm → Hp → Prop)
    (hb : ∀ k T H, Inv k T H → Sem P names G nt φ0 H0 w0 b T H fun e T' H' => (e = .normal ∧ ∃ k', k' < k ∧ Inv k' T' H') ∨ (e ≠ .normal ∧ Q e T' H')) :
    ∀ k T H, Inv k T H → Sem P names G nt φ0 H0 w0 (.loop b) T H Q := by
  intro k T H hi c hc φ ac w hf hr hx R hR
  obtain ⟨c1, rfl, h1⟩ := lowC_inv_loop hc
  refine LoopWp.wp ?_
  have key : ∀ k T H φ ac w, Inv k T H → FrOK φ T ac nt → Rep P G φ H w → Ext φ0 H0 w0 φ H w → LoopWp P c1 R ac w := by
    intro k
    induction k using Nat.strongRecOn with
    | ind k ih =>
      intro T H φ ac w hi hf hr hx
      refine LoopWp.round ?_
      refine hb k T H hi c1 h1 φ ac w hf hr hx _ fun e T' H' hq a' w' φ' s1 s2 s3 => ?_
      rcases hq with ⟨rfl, k', hk, hi'⟩ | ⟨hne, hq⟩
      · exact ih k' hk T' H' φ' a' w' hi' s1 s2 s3
      · have := hR e T' H' hq a' w' φ' s1 s2 s3
        cases e with
        | normal => exact absurd rfl hne
        | exit id => exact this
        | ret => exact this
  exact key k T H φ ac w hi hf hr hx
end

section
variable {P : Program} {names : List String} {E : Env}
/-- A function by its code. -/
theorem Sem.call (hE : EnvOK P names E) {f : Pos} {x : XF} (hx : E.code.get f = some x) {args : List AV} {H : Hp} {v : AV} {H' : Hp}
    (h : ∀ nt φ0 w0, (∀ i : Pos, H.next.toNat ≤ i.toNat → φ0 i = none) → Sem P names E.globals nt φ0 H w0 x.body (argsT args .h .lf) H fun e T' H1 => (∀ id, e ≠ .exit id) ∧ H1 = H' ∧ ∃ vs, resA E.globals T' H1 x.results = some vs ∧ resV vs = v) : Tri P E.globals f args H v H' := by
  obtain ⟨fn, hfn, hlow, hname⟩ := hE.code f x hx
  unfold lowF at hlow
  split at hlow
  · cases hlow
  · rename_i c hc
    split at hlow
    · rename_i b r hb hres
      cases hlow
      refine ⟨⟨fn, hfn, by rw [hc]; rfl, hname⟩, fun φ w argsV hr hargs => ?_⟩
      refine calls_of_wp hfn hc ?_
      refine h fn.ntmps φ w hr.fresh c hb φ _ w (frame_at hargs fn.ntmps) hr (Ext.refl φ H w) _ fun e T' H1 hq a' w' φ' s1 s2 s3 => ?_
      obtain ⟨hne, rfl, vs, hvs, rfl⟩ := hq
      obtain ⟨us, g1, g2⟩ := resA_sound s1.fr s2 hres hvs
      have hbp : a'.defers = [] ∧ ∃ v, (results fn a'.tmps).run P w' = .ok v w' ∧ CPost P E.globals φ H w (resV vs) H1 (.returned v) w' := by
        refine ⟨s1.defers, _, ?_, _, φ', rfl, resV_sound g2, s2, s3⟩
        rw [results_eq, Array.mapM_eq_mapM_toList]
        simp only [Sem.run_bind, Sem.run_map]
        rw [g1]
        simp
      cases e with
      | normal => exact hbp
      | exit id => exact absurd rfl (hne id)
      | ret => exact hbp
    · cases hlow
end

-- where blocks lie, by a table
def lookP : List (Pos × Pos) → Pos → Option Pos
  | [], _ => none
  | (p, q) :: l, i => if p.same i then some q else lookP l i
def tabR (n0 nx : Pos) (tab : List (Pos × Pos)) (i : Pos) : Pos := match lookP tab i with
  | some j => j
  | none => if i.toNat < n0.toNat then i else nx.plus i.toNat
theorem lookP_mem : ∀ {l : List (Pos × Pos)} {i j : Pos}, lookP l i = some j → (i, j) ∈ l
  | (p, q) :: l, i, j, h => by
    simp only [lookP] at h
    split at h
    · rename_i e
      cases h
      rw [Pos.same_eq e]
      exact List.mem_cons_self
    · exact List.mem_cons_of_mem _ (lookP_mem h)
/-- a table's keys lie between -/
def tabOK (n0 n1 : Pos) : List (Pos × Pos) → Bool
  | [] => true
  | (p, _) :: l => Nat.ble n0.toNat p.toNat && (Nat.blt p.toNat n1.toNat && tabOK n0 n1 l)
theorem tabOK_mem {n0 n1 : Pos} : ∀ {l : List (Pos × Pos)}, tabOK n0 n1 l = true → ∀ x ∈ l, n0.toNat ≤ x.1.toNat ∧ x.1.toNat < n1.toNat
  | (p, q) :: l, h, x, hx => by
    simp only [tabOK, Bool.and_eq_true, Nat.ble_eq, Nat.blt_eq] at h
    rcases List.mem_cons.1 hx with rfl | hx
    · exact ⟨h.1, h.2.1⟩
    · exact tabOK_mem h.2.2 x hx
theorem tabR_low {n0 nx n1 : Pos} {tab : List (Pos × Pos)} (h : tabOK n0 n1 tab = true) (i : Pos) (hi : i.toNat < n0.toNat) : tabR n0 nx tab i = i := by
  unfold tabR
  split
  · rename_i j hj
    have := (tabOK_mem h _ (lookP_mem hj)).1
    simp at this
    omega
  · rw [if_pos hi]
theorem tabR_high {n0 nx n1 : Pos} {tab : List (Pos × Pos)} (h : tabOK n0 n1 tab = true) (hn : n0.toNat ≤ n1.toNat) (i : Pos) (hi : n1.toNat ≤ i.toNat) : nx.toNat ≤ (tabR n0 nx tab i).toNat := by
  unfold tabR
  split
  · rename_i j hj
    have := (tabOK_mem h _ (lookP_mem hj)).2
    simp at this
    omega
  · rw [if_neg (by omega), Pos.toNat_plus]
    omega
/-- The state elsewhere, by tables: what is kept of the temporaries, of the heap. -/
theorem Ren.tab {n0 n1 : Pos} {T : Tm} {H : Hp} (tab : List (Pos × Pos)) (tl : List (Pos × AV)) (hl : List (Pos × AObj)) (h1 : tabOK n0 n1 tab = true) (h2 : n0.toNat ≤ n1.toNat)
    (ht : ∀ x ∈ tl, opnd T (.t x.1) = ren (tabR n0 H.next tab) x.2)
    (hh : ∀ x ∈ hl, ∃ o1, H.t.get (tabR n0 H.next tab x.1) = some o1 ∧ ∀ φ s n c, OR φ s n o1 c → OR (fun j => φ (tabR n0 H.next tab j)) s n x.2 c)
    (hi : ∀ x ∈ hl, ∀ y ∈ hl, tabR n0 H.next tab x.1 = tabR n0 H.next tab y.1 → x.1 = y.1) : Ren n0 (tabR n0 H.next tab) T H (mkT tl) ⟨mkT hl, n1⟩ := by
  refine ⟨tabR_low h1, tabR_high h1 h2, fun p => ?_, fun i o hio => hh (i, o) (mkT_get hio), fun i j o o' e1 e2 e => hi (i, o) (mkT_get e1) (j, o') (mkT_get e2) e, h2⟩
  cases hg : (mkT tl).get p with
  | none => exact .inl rfl
  | some a =>
    refine .inr ?_
    have := ht (p, a) (mkT_get hg)
    simp only [opnd, hg] at this ⊢
    exact this

/-- what is looked at of a run of code -/
noncomputable def viewB (ps hs : List Pos) (r : Option (Ex × Tm × Hp × Z)) : Option (Ex × List Ob × List AV × List AV × List (Option AObj)) := match r with
  | some (e, T, H, z) => some (e, z.ob, z.rd.map (·.1), ps.map (fun p => opnd T (.t p)), hs.map H.t.get)
  | none => none
noncomputable def nextB (big : Pos) (r : Option (Ex × Tm × Hp × Z)) : Bool := match r with
  | some (_, _, H, _) => Nat.ble H.next.toNat big.toNat
  | none => false
def distinctP : List Pos → Bool
  | [] => true
  | p :: l => !(memP p l) && distinctP l
theorem memP_of {p : Pos} : ∀ {l : List Pos}, p ∈ l → memP p l = true
  | q :: l, h => by
    rcases List.mem_cons.1 h with rfl | h
    · simp [memP, Pos.same_self]
    · simp [memP, memP_of h]
theorem distinctP_inj {α : Type} {f : α → Pos} : ∀ {l : List α}, distinctP (l.map f) = true → ∀ x ∈ l, ∀ y ∈ l, f x = f y → x = y
  | a :: l, h, x, hx, y, hy, e => by
    simp only [List.map_cons, distinctP, Bool.and_eq_true, Bool.not_eq_true'] at h
    rcases List.mem_cons.1 hx with hx1 | hx1 <;> rcases List.mem_cons.1 hy with hy1 | hy1
    · rw [hx1, hy1]
    · subst hx1
      have := memP_of (List.mem_map_of_mem (f := f) hy1)
      rw [← e, h.1] at this
      cases this
    · subst hy1
      have := memP_of (List.mem_map_of_mem (f := f) hx1)
      rw [e, h.1] at this
      cases this
    · exact distinctP_inj h.2 x hx1 y hy1 e
theorem map_mem_eq {α β : Type} {f g : α → β} : ∀ {l : List α}, l.map f = l.map g → ∀ x ∈ l, f x = g x
  | a :: l, h, x, hx => by
    simp only [List.map_cons, List.cons.injEq] at h
    rcases List.mem_cons.1 hx with rfl | hx
    · exact h.1
    · exact map_mem_eq h.2 x hx

/-- objects told anew -/
def allRel (ρ : Pos → Pos) : List (Pos × AObj × AObj) → Prop
  | [] => True
  | x :: l => (∀ φ s n c, OR φ s n x.2.1 c → OR (fun j => φ (ρ j)) s n x.2.2 c) ∧ allRel ρ l
theorem allRel_mem {ρ : Pos → Pos} : ∀ {l : List (Pos × AObj × AObj)}, allRel ρ l → ∀ x ∈ l, ∀ φ s n c, OR φ s n x.2.1 c → OR (fun j => φ (ρ j)) s n x.2.2 c
  | y :: l, h, x, hx => by
    rcases List.mem_cons.1 hx with rfl | hx
    · exact h.1
    · exact allRel_mem h.2 x hx
theorem relR {ρ : Pos → Pos} {o1 o : AObj} (h : renO ρ o = o1) : ∀ φ s n c, OR φ s n o1 c → OR (fun j => φ (ρ j)) s n o c := fun _ _ _ _ ho => OR.ren (h ▸ ho)
theorem relG {ρ : Pos → Pos} {k : Nat} {m : List (List Int)} {c : Nat} : ∀ φ s n o, OR φ s n (.gh k m c) o → OR (fun j => φ (ρ j)) s n (.gh k m c) o := fun _ _ _ _ ⟨a, h1, h2⟩ => ⟨a, h1, GA.any h1 h2⟩
theorem relO {ρ : Pos → Pos} {m : List (List Int)} {c : Nat} : ∀ φ s n o, OR φ s n (.ro m c) o → OR (fun j => φ (ρ j)) s n (.ro m c) o := fun _ _ _ _ h => RO.any h
/-- rows of cells are veiled -/
theorem relV {ρ : Pos → Pos} {m : List (List Int)} {c : Nat} {cs : List AV} (h : cs = m.flatMap (rowCells (layOf c))) : ∀ φ s n o, OR φ s n (.cells cs) o → OR (fun j => φ (ρ j)) s n (.gh 1 m c) o := fun _ _ _ _ ho => ⟨.cells cs, h, GA.any (k := 1) (m := m) (c := c) (a := .cells cs) h ho⟩
/-- .. and shown again -/
theorem relU {ρ : Pos → Pos} {m : List (List Int)} {c : Nat} : ∀ φ s n o, OR φ s n (.gh 1 m c) o → OR (fun j => φ (ρ j)) s n (.cells (m.flatMap (rowCells (layOf c)))) o := fun φ s n o ho => by
  obtain ⟨a, h1, h2⟩ := ho
  cases a with
  | cells cs =>
    have h1' : cs = m.flatMap (rowCells (layOf c)) := h1
    subst h1'
    exact (GA.any (k := 1) (m := m) (c := c) h1 h2).toOR
  | mp => exact h1.elim
  | gh => exact h1.elim
  | ro => exact h1.elim
/-- parts of code -/
def sub0 : XC → XC
  | .seq a _ => a
  | .block _ b => b
  | .loop b => b
  | .cond _ a _ => a
  | x => x
def sub1 : XC → XC
  | .seq _ b => b
  | .cond _ _ b => b
  | x => x

section
variable {P : Program} {names : List String} {nt : Nat} {φ0 : Emb} {H0 : Hp} {w0 : World} {E : Env}
/-- A piece of code, run by a script; what is kept of it, told anew. -/
theorem Sem.view (hE : EnvOK P names E) (h0 : ∀ i : Pos, H0.next.toNat ≤ i.toNat → φ0 i = none) {mk : Mk} (hM : mk.For E) {ms : List Pos} {N n : Nat} {x : XC} {T : Tm} {H : Hp} {Q : Ex → Tm → Hp → Prop} (sc : List Sc) (big n1 : Pos) (tab : List (Pos × Pos)) (tl : List (Pos × AV)) (hl : List (Pos × AObj × AObj)) {e : Ex} {ob : List Ob}
    (h : viewB (tl.map (·.1)) (hl.map fun x => tabR H0.next big tab x.1) (bodyS (callS E mk N) E ms n x T H ⟨sc, [], []⟩) = some (e, ob, againB (bodyS (callS E mk N) E ms n x T H ⟨sc, [], []⟩), tl.map (fun x => ren (tabR H0.next big tab) x.2), hl.map fun x => some x.2.1))
    (hob : allOb ob) (hnx : nextB big (bodyS (callS E mk N) E ms n x T H ⟨sc, [], []⟩) = true) (htab : tabOK H0.next n1 tab = true) (hn : Nat.ble H0.next.toNat n1.toNat = true)
    (hrel : allRel (tabR H0.next big tab) hl) (hinj : distinctP (hl.map fun x => tabR H0.next big tab x.1) = true)
    (hQ : Q e (mkT tl) ⟨mkT (hl.map fun x => (x.1, x.2.2)), n1⟩) : Sem P names E.globals nt φ0 H0 w0 x T H Q := by
  cases hr : bodyS (callS E mk N) E ms n x T H ⟨sc, [], []⟩ with
  | none => rw [hr] at h; cases h
  | some y =>
    obtain ⟨e1, T1, H1, z1⟩ := y
    rw [hr] at h hnx
    simp only [viewB, againB, Option.some.injEq, Prod.mk.injEq] at h
    obtain ⟨rfl, h3, h4, h5, h6⟩ := h
    have hb := (bodyS_ok (callS_ok hM N) hr ⟨h3 ▸ hob, allRd_of h4⟩).2
    refine (Sem.by hE hb (Q := fun e T' H' => e = e1 ∧ T' = T1 ∧ H' = H1) ⟨rfl, rfl, rfl⟩).post h0 fun e T' H' hq => ?_
    obtain ⟨rfl, rfl, rfl⟩ := hq
    refine ⟨tabR H0.next big tab, mkT tl, ⟨mkT (hl.map fun x => (x.1, x.2.2)), n1⟩, ?_, hQ⟩
    have hn := Nat.le_of_ble_eq_true hn
    have hb2 : H'.next.toNat ≤ big.toNat := Nat.le_of_ble_eq_true hnx
    rw [List.map_map] at h6
    have hp : ∀ x ∈ hl, H'.t.get (tabR H0.next big tab x.1) = some x.2.1 := fun x hx => map_mem_eq (f := fun x => H'.t.get (tabR H0.next big tab x.1)) (g := fun x => some x.2.1) h6 x hx
    refine ⟨tabR_low htab, fun i hi => Nat.le_trans hb2 (tabR_high htab hn i hi), fun p => ?_, fun i o hio => ?_, fun i j o o' e1 e2 e3 => ?_, hn⟩
    · cases hg : (mkT tl).get p with
      | none => exact .inl rfl
      | some a =>
        refine .inr ?_
        rw [List.map_map] at h5
        have := map_mem_eq (f := fun x : Pos × AV => opnd T' (.t x.1)) (g := fun x => ren (tabR H0.next big tab) x.2) h5 (p, a) (mkT_get hg)
        simp only [opnd, hg] at this ⊢
        exact this
    · obtain ⟨y, hy, e⟩ := List.mem_map.1 (mkT_get hio)
      cases e
      exact ⟨y.2.1, hp y hy, allRel_mem hrel y hy⟩
    · obtain ⟨y1, hy1, e4⟩ := List.mem_map.1 (mkT_get e1)
      obtain ⟨y2, hy2, e5⟩ := List.mem_map.1 (mkT_get e2)
      cases e4
      cases e5
      rw [distinctP_inj hinj y1 hy1 y2 hy2 e3]
end
end Go.Ev
